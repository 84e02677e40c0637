/- A slice of steps that was read as data. -/
import Derived.Test.YtlecgedmdaenaaaKeepsInv
import Derived.DataReads
namespace Go.Proofs.Ytlecgedmdaenaaa.Disk
open Go.RowKit Go.Proofs.Ytlecgedmdaenaaa.K Go.Joins Go.ChangeShapes Go.WideShapes Go.ChangeAt

theorem acts_read {H : Type} {enc : TypeId × Value → H} {w : World} {base fuel : Nat} {spare : Nat → Bool} {held : Bool} {cs : List Value} {x : DataW H × List MemPlace} (h : DataW.trod enc Try.prog w base spare held fuel 22 cs = some x) :
    ∃ (L : Option Addr) (c : Nat) (acts : List Act1), cs = [.slice L acts.length c] ∧ HoldsA w L acts ∧ ∀ a ∈ acts, a.Ok w := by
  rcases DataW.trod_slice Try.underlying22 h with ⟨h0, _⟩ | ⟨a, len, cap, elems, rest, n, _, rfl, rfl, hb, hl, hm, hlen, hel, hsp, hns⟩
  · exact ⟨none, 0, [], h0, .inl rfl, fun _ h => by cases h⟩
  · simp only [cells32] at hel
    have hone : ∀ i : Fin len, ∃ b : Act1, b.Ok w ∧ w.cells? base (a.add (i.1 * 8)) 8 = some b.cells := fun i => by
      have h1 := hel i.1 i.2
      rw [List.getElem?_eq_getElem (by omega)] at h1
      cases hcs : w.cells? base (a.add (i.1 * 8)) 8 with
      | none => rw [hcs] at h1; cases h1
      | some cs =>
        rw [hcs] at h1
        obtain ⟨b, rfl, ok⟩ := act_read h1
        exact ⟨b, ok, rfl⟩
    refine ⟨some a, cap, List.ofFn (fun i => Classical.choose (hone i)), by rw [List.length_ofFn], ?_, fun b hb => ?_⟩
    · by_cases h0 : len = 0
      · subst h0
        exact .inl rfl
      · have hc : ∀ (i : Nat) (hi : i < len) j, j < 8 → w.cell? ((a.add (i * 8)).add j) = (Classical.choose (hone ⟨i, hi⟩)).cells[j]? := fun i hi j hj =>
          (World.cells?_some (Classical.choose_spec (hone ⟨i, hi⟩)).2).2.2 j hj
        obtain ⟨b, off, spot⟩ := a
        have hspot : spot = none := by simpa [Addr.add] using World.cell?_spot ((hc 0 (by omega) 0 (by omega)).trans (show _ = some (.int .i64 (Classical.choose (hone ⟨0, by omega⟩)).kd) from rfl))
        subst hspot
        have he : ∀ i j, (Addr.add (Addr.add ⟨b, off, none⟩ (i * 8)) j) = ⟨b, off + i * 8 + j, none⟩ := fun i j => by
          unfold Addr.add
          by_cases h1 : i * 8 = 0 <;> by_cases h2 : j = 0 <;> simp_all
        refine .inr ⟨b, off, rfl, ?_, fun i hi j hj => ?_⟩
        · have := (hc 0 (by omega) 0 (by omega)).trans (show _ = some (.int .i64 (Classical.choose (hone ⟨0, by omega⟩)).kd) from rfl)
          rw [he] at this
          exact World.block_lt_of_cell? _ _ this
        · rw [List.length_ofFn] at hi
          rw [← he, hc i hi j hj, List.getElem_ofFn]
    · obtain ⟨i, rfl⟩ := List.mem_ofFn.1 hb
      exact (Classical.choose_spec (hone i)).1
end Go.Proofs.Ytlecgedmdaenaaa.Disk
