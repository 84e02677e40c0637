/- What was synced stays a file's beginning: of states alone. -/
import Derived.Test.YtlecgedmdaenaaaClone
import Derived.Test.YtlecgedmdaenaaaDisk8
namespace Go.Proofs.Ytlecgedmdaenaaa.Disk
open Go.RowKit Go.Proofs.Ytlecgedmdaenaaa.K

theorem fallN_at (K : Nat → Int) (st : St) (g : Nat) : ∀ n, (fallN K n st).b g = (if g < n then (st.b g).take (keepN (K g) (st.b g).length (st.s g)) else st.b g) ∧ (fallN K n st).s g = (if g < n then keepN (K g) (st.b g).length (st.s g) else st.s g)
  | 0 => by simp [fallN]
  | n + 1 => by
    obtain ⟨h1, h2⟩ := fallN_at K st g n
    unfold fallN fallStep
    dsimp only
    by_cases e : g = n
    · subst e
      rw [if_neg (by omega)] at h1 h2
      rw [upd_same, upd_same, if_pos (by omega), if_pos (by omega), h1, h2]
      exact ⟨rfl, rfl⟩
    · rw [upd_other _ _ e, upd_other _ _ e, h1, h2]
      by_cases h : g < n
      · rw [if_pos h, if_pos h, if_pos (by omega), if_pos (by omega)]
        exact ⟨rfl, rfl⟩
      · rw [if_neg h, if_neg h, if_neg (by omega), if_neg (by omega)]
        exact ⟨rfl, rfl⟩
theorem fallP_b (K : Nat → Int) (st : St) (g : Nat) (hg : g < 4) : (fallP K st).b g = (st.b g).take (keepN (K g) (st.b g).length (st.s g)) := by
  have := (fallN_at K st g 4).1
  rw [if_pos hg] at this
  exact this
theorem fallP_s (K : Nat → Int) (st : St) (g : Nat) (hg : g < 4) : (fallP K st).s g = keepN (K g) (st.b g).length (st.s g) := by
  have := (fallN_at K st g 4).2
  rw [if_pos hg] at this
  exact this
/-- bs is what was synced of file g. -/
structure Pref (g : Nat) (bs : List UInt8) (st : St) : Prop where
  ok : st.Ok
  safe : bs.length ≤ st.s g
  beg : (st.b g).take bs.length = bs
theorem Pref.left {g : Nat} {bs : List UInt8} {st : St} (h : Pref g bs st) {l : Int} {d : Bool} (hl : -1 ≤ l ∧ l ≤ 9223372036854775807) : Pref g bs { st with left := l, down := d } := ⟨⟨h.ok.safe, h.ok.size, hl⟩, h.safe, h.beg⟩
theorem Pref.fall {g : Nat} {bs : List UInt8} {st : St} (h : Pref g bs st) (hg : g < 4) (K : Nat → Int) : Pref g bs (fallP K st) := by
  have hk : st.s g ≤ keepN (K g) (st.b g).length (st.s g) := by unfold keepN; omega
  refine ⟨fallP_ok h.ok, ?_, ?_⟩
  · rw [fallP_s K st g hg]; exact Nat.le_trans h.safe hk
  · rw [fallP_b K st g hg, List.take_take, Nat.min_eq_left (Nat.le_trans h.safe hk)]
    exact h.beg
theorem Pref.doP {g : Nat} {bs : List UInt8} {st : St} (h : Pref g bs st) (hg : g < 4) (what f : Nat) (l : List UInt8) (hf : what < 2 ∨ f ≠ g) (ok : (doP what f l st).Ok) : Pref g bs (doP what f l st) := by
  refine ⟨ok, ?_, ?_⟩
  · unfold Disk.doP
    split
    · exact h.safe
    · split
      · dsimp only
        by_cases e : g = f
        · subst e; rw [upd_same]; exact Nat.le_trans h.safe (h.ok.safe g hg)
        · rw [upd_other _ _ e]; exact h.safe
      · dsimp only
        rw [upd_other _ _ (by omega)]
        exact h.safe
  · unfold Disk.doP
    split
    · dsimp only
      by_cases e : g = f
      · subst e
        rw [upd_same, List.take_append_of_le_length (Nat.le_trans h.safe (h.ok.safe g hg))]
        exact h.beg
      · rw [upd_other _ _ e]; exact h.beg
    · split
      · exact h.beg
      · dsimp only
        rw [upd_other _ _ (by omega)]
        exact h.beg
theorem Pref.call {g : Nat} {bs : List UInt8} {st : St} (h : Pref g bs st) (hg : g < 4) (what : Nat) (f : Int) (l : List UInt8) (hf : what < 2 ∨ f ≠ g) : Pref g bs (callP what f l st).2 := by
  have ok := callP_ok (what := what) (f := f) (bs := l) h.ok
  unfold callP at ok ⊢
  split
  · exact h
  · rename_i h1
    rw [if_neg h1] at ok
    split
    · exact h
    · rename_i h2
      rw [if_neg h2] at ok
      have hl := h.ok.left
      have hf' : what < 2 ∨ f.toNat ≠ g := hf.imp id (fun h => by omega)
      split
      · rename_i h3
        rw [if_pos h3] at ok
        dsimp only at ok ⊢
        split
        · rename_i h4
          rw [if_pos h4] at ok
          exact Pref.doP (h.left (by omega)) hg _ _ _ (.inl (by omega)) ok
        · exact h.left (by omega)
      · rename_i h3
        rw [if_neg h3] at ok
        exact Pref.doP (h.left (by split <;> omega)) hg _ _ _ hf' ok
/-- Behind the first calls. -/
def keepS (g : Nat) (bs : List UInt8) : St := (callP 1 g [] (callP 0 g bs initS).2).2
theorem keepS_eq (g : Nat) (hg : g < 4) (bs : List UInt8) (hb : bs.length ≤ 500) : callP 0 g bs initS = (0, { initS with b := upd initS.b g bs }) ∧ callP 1 g [] { initS with b := upd initS.b g bs } = (0, { initS with b := upd initS.b g bs, s := upd initS.s g bs.length }) := by
  constructor
  · unfold callP
    rw [if_neg (by simp [initS]; omega), if_neg (by simp [initS]; omega), if_neg (by simp [initS])]
    simp [Disk.doP, initS]
  · unfold callP
    rw [if_neg (by simp [initS]; omega), if_neg (by simp [upd]; omega), if_neg (by simp [initS])]
    simp [Disk.doP, initS, upd_same]
theorem initS_ok : initS.Ok := ⟨fun _ _ => Nat.le_refl _, fun _ _ => by simp [initS], by simp [initS]⟩
theorem keepS_pref (g : Nat) (hg : g < 4) (bs : List UInt8) (hb : bs.length ≤ 500) : Pref g bs { initS with b := upd initS.b g bs, s := upd initS.s g bs.length } := by
  obtain ⟨h1, h2⟩ := keepS_eq g hg bs hb
  refine ⟨?_, ?_, ?_⟩
  · have := callP_ok (what := 1) (f := g) (bs := []) (callP_ok (what := 0) (f := g) (bs := bs) initS_ok)
    rw [h1, h2] at this
    exact this
  · dsimp only; rw [upd_same]; exact Nat.le_refl _
  · dsimp only; rw [upd_same, List.take_length]
end Go.Proofs.Ytlecgedmdaenaaa.Disk
