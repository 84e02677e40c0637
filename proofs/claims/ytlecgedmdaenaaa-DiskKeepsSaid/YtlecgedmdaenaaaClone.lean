/- The walk of a disk's Clone. -/
import Derived.Test.YtlecgedmdaenaaaDisk7
namespace Go.Proofs.Ytlecgedmdaenaaa.Disk
open Go.RowKit Go.Proofs.Ytlecgedmdaenaaa.K

theorem and3 (f : Int) : ∃ g : Nat, g < 4 ∧ bits .and .i64 f 3 = (g : Int) := by
  refine ⟨(BitVec.ofInt 64 f &&& BitVec.ofInt 64 3).toNat, ?_, ?_⟩
  · rw [BitVec.toNat_and]
    exact Nat.lt_of_le_of_lt Nat.and_le_right (by decide)
  · have h : (BitVec.ofInt 64 f &&& BitVec.ofInt 64 3).toNat < 4 := by
      rw [BitVec.toNat_and]
      exact Nat.lt_of_le_of_lt Nat.and_le_right (by decide)
    show IntKind.i64.wrap _ = _
    rw [IntKind.wrap_i64]
    show (((BitVec.ofInt 64 f &&& BitVec.ofInt 64 3).toNat : Int) + _) % _ - _ = _
    omega
/-- Where Clone's loop stands. -/
structure Cl (w : World) (v : Nat → Value) (st : St) (k : Nat) (wr : World) (v2 : Nat → Value) : Prop where
  blk : Blk wr w.heap.size (cells true v2 st.s st.left st.down) 52
  own : ∀ i, i < k → OwnB wr w.heap.size (v2 i) (st.b i)
  rest : ∀ i, k ≤ i → v2 i = v i
  apart : ∀ i j, i < k → j < k → i ≠ j → (v2 i).ownBlock = none ∨ (v2 i).ownBlock ≠ (v2 j).ownBlock
  below : Below w.heap.size w wr
theorem Cl.step {w : World} {v : Nat → Value} {st : St} {k : Nat} {wr : World} {v2 : Nat → Value} (h : Cl w v st k wr v2) (hk : k < 4) {w' : World} {x : Value} (ho : OwnB w' wr.heap.size x (st.b k)) (hb : Below wr.heap.size wr w') :
    Cl w v st (k + 1) (w'.setCell ⟨w.heap.size, 1 + k * 2, none⟩ x) (upd v2 k x) := by
  have hsz := h.blk.lt
  have hx : x.ownBlock ≠ some w.heap.size := fun e => by have := ho.low _ e; omega
  have hlt : ∀ i, i < k → ∀ b, (v2 i).ownBlock = some b → b < wr.heap.size := fun i hi b hb => (World.ownsRow.lt (h.own i hi) b hb).2
  have hD : ∀ i, i < k → (v2 i).ownBlock ≠ some w.heap.size := fun i hi e => by
    rcases (h.own i hi).2 with ⟨h1, _⟩ | ⟨g, cap, cur, h1, _, hg, _⟩
    · rw [h1] at e; cases e
    · rw [h1] at e
      obtain rfl : g = w.heap.size := by simpa [Value.ownBlock] using e
      have hb := h.blk
      unfold Blk at hb
      rw [hb] at hg
      injection hg with hg
      injection hg with _ ht _
      exact absurd ht (by decide)
  refine ⟨?_, fun i hi => ?_, fun i hi => ?_, fun i j hi hj hij => ?_, ?_⟩
  · have := (h.blk.after hb).set (1 + k * 2) x
    rw [cells_setV _ _ _ _ _ hk] at this
    exact this
  · by_cases e : i = k
    · subst e
      rw [upd_same]
      exact (ho.set hx _).mono (by omega)
    · rw [upd_other _ _ e]
      exact ((h.own i (by omega)).later hb).set (hD i (by omega)) _
  · rw [upd_other _ _ (by omega)]
    exact h.rest i (by omega)
  · by_cases e : i = k
    · subst e
      rw [upd_same, upd_other _ _ (Ne.symm hij)]
      cases hk' : x.ownBlock with
      | none => exact .inl rfl
      | some b => refine .inr fun e' => ?_; have h1 := ho.low b hk'; have h2 := hlt j (by omega) b e'.symm; omega
    · rw [upd_other _ _ e]
      by_cases e2 : j = k
      · subst e2
        rw [upd_same]
        cases hk' : (v2 i).ownBlock with
        | none => exact .inl rfl
        | some b => refine .inr fun e' => ?_; have h1 := ho.low b e'.symm; have h2 := hlt i (by omega) b hk'; omega
      · rw [upd_other _ _ e2]
        exact h.apart i j (by omega) (by omega) hij
  · exact (h.below.trans (hb.mono h.below.size)).setCell (Nat.le_refl _) _
set_option maxHeartbeats 2000000 in
theorem clone20_any (n₀ D : Nat) (v : Nat → Value) (st : St) (w : World) (h : At w n₀ D v st) :
    Calls Try.prog 20 #[.pointer (some ⟨D, 0, none⟩)] w fun e w' => e = .returned (.pointer (some ⟨w.heap.size, 0, none⟩)) ∧ (∃ v2, At w' w.heap.size w.heap.size v2 st) ∧ Below w.heap.size w w' := by
  have f0 : w.cell? ⟨D, 0, none⟩ = some (.bool true) := h.blk.cell 0
  have f1 : w.cell? ⟨D, 1, none⟩ = some (v 0) := h.blk.cell 1
  have f2 : w.cell? ⟨D, 2, none⟩ = some (.int .i64 (st.s 0)) := h.blk.cell 2
  have f3 : w.cell? ⟨D, 3, none⟩ = some (v 1) := h.blk.cell 3
  have f4 : w.cell? ⟨D, 4, none⟩ = some (.int .i64 (st.s 1)) := h.blk.cell 4
  have f5 : w.cell? ⟨D, 5, none⟩ = some (v 2) := h.blk.cell 5
  have f6 : w.cell? ⟨D, 6, none⟩ = some (.int .i64 (st.s 2)) := h.blk.cell 6
  have f7 : w.cell? ⟨D, 7, none⟩ = some (v 3) := h.blk.cell 7
  have f8 : w.cell? ⟨D, 8, none⟩ = some (.int .i64 (st.s 3)) := h.blk.cell 8
  have f9 : w.cell? ⟨D, 9, none⟩ = some (.int .i64 st.left) := h.blk.cell 9
  have f10 : w.cell? ⟨D, 10, none⟩ = some (.bool st.down) := h.blk.cell 10
  have C := Lib.hid (none_any D true w f0)
  have HH := Lib.hid h
  obtain ⟨A0, c0, e0, -⟩ := (h.own 0 (by omega)).read
  obtain ⟨A1, c1, e1, -⟩ := (h.own 1 (by omega)).read
  obtain ⟨A2, c2, e2, -⟩ := (h.own 2 (by omega)).read
  obtain ⟨A3, c3, e3, -⟩ := (h.own 3 (by omega)).read
  have HN := Lib.hid (show Blk (w.alloc (.cells #[.bool true, .slice A0 (st.b 0).length c0, .int .i64 (st.s 0), .slice A1 (st.b 1).length c1, .int .i64 (st.s 1), .slice A2 (st.b 2).length c2, .int .i64 (st.s 2), .slice A3 (st.b 3).length c3, .int .i64 (st.s 3), .int .i64 st.left, .bool st.down] 52)) w.heap.size (cells true v st.s st.left st.down) 52 from by
    have := Blk.new w (cells true v st.s st.left st.down) 52
    unfold cells at this ⊢
    rw [e0, e1, e2, e3] at this ⊢
    exact this)
  rw [e0] at f1
  rw [e1] at f3
  rw [e2] at f5
  rw [e3] at f7
  clear h e0 e1 e2 e3
  go_enter Try.func20, Try.ntmps20
  go_wp2_with (first | (go_at_call 30; (with_reducible refine Calls.mono C.out ?_); rintro e w' ⟨rfl, rfl⟩))
  go_loopw [10] (fun i wr => ∃ k : Nat, k ≤ 4 ∧ i = .int .i64 k ∧ Hid (∃ v2, Cl w v st k wr v2)) (fun i _ => 4 - (intOf i).toNat)
  case atStart => exact ⟨0, by omega, rfl, Lib.hid ⟨v, ⟨HN.out, fun i hi => absurd hi (by omega), fun _ _ => rfl, fun i _ hi => absurd hi (by omega), (Below.refl _ _).alloc (Nat.le_refl _) _⟩⟩⟩
  case round =>
    obtain ⟨k, hk, rfl, HC⟩ := hrel
    by_cases hlt : k < 4
    · obtain ⟨v2, hc⟩ := HC.out
      have hcell := (hc.blk.cell (1 + k * 2)).trans (cells_at _ _ _ _ _ hlt).1
      have hfr := hc.blk.frozen (1 + k * 2)
      obtain ⟨A, c, hv, hH, hlc, hA⟩ := (HH.out.own k hlt).read
      rw [hc.rest k (Nat.le_refl _), hv] at hcell
      have CC := Lib.hid (clone_any A c (st.b k) (by have := HH.out.ok.size k hlt; omega) wr (hH.keep hc.below) (fun e => ⟨hA e, by have := hA e; exact List.eq_nil_of_length_eq_zero (by omega)⟩))
      have hz := hc.blk.lt
      have HS := Lib.hid (fun (w' : World) (x : Value) (ho : OwnB w' wr.heap.size x (st.b k)) (hb : Below wr.heap.size wr w') => hc.step hlt ho hb)
      generalize (st.b k).length = n at *
      have hi : decide ((k : Int) < 4) = true := decide_eq_true (by omega)
      have hi2 : (k : Int) < 4 := by omega
      have HCF := Lib.hid (And.intro hcell hfr)
      clear hv hH hlc hA hc HC
      go_wp2_with (first | (go_at_call 32; (with_reducible refine Calls.mono CC.out ?_); rintro e w' ⟨x, rfl, ho, hb⟩; have hcell' := (cell_later hb HCF.out.1); have hfr' := (bcell hb).2 w.heap.size (1 + k * 2) hz; rw [HCF.out.2] at hfr'; have HO := Lib.hid (HS.out _ _ ho hb); obtain ⟨A', c', rfl, _⟩ := ho.read; clear ho hb))
      refine ⟨⟨k + 1, by omega, by first | rfl | go_num, Lib.hid ⟨_, HO.out⟩⟩, ?_⟩
      simp [intOf]; omega
    · obtain rfl : k = 4 := by omega
      go_wp2_with fail
      go_ret
      obtain ⟨v2, hc⟩ := HC.out
      exact ⟨rfl, ⟨v2, ⟨hc.blk, hc.own, hc.apart, HH.out.ok, Nat.le_refl _⟩⟩, hc.below⟩
end Go.Proofs.Ytlecgedmdaenaaa.Disk
