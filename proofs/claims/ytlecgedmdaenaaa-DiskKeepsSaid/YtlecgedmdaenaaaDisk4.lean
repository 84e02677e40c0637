/- The walk of a disk's call. -/
import Derived.Test.YtlecgedmdaenaaaDisk3
namespace Go.Proofs.Ytlecgedmdaenaaa.Disk
open Go.RowKit Go.Proofs.Ytlecgedmdaenaaa.K

def Ends (w : World) (n₀ D : Nat) (v : Nat → Value) (r : Int × St) (e : Ending) (w' : World) : Prop :=
  e = .returned (.int .i64 r.1) ∧ ∃ v', At0 w' n₀ D v' r.2 ∧ Turn w n₀ D v w' v'

theorem holds_set {w : World} {A : Option Addr} {l : List UInt8} (h : HoldsB w A l) {D o : Nat} (hD : ∀ b off, A = some ⟨b, off, none⟩ → l ≠ [] → b ≠ D) (u : Value) : HoldsB (w.setCell ⟨D, o, none⟩ u) A l := by
  rcases h with h | ⟨b, off, rfl, hlt, hc⟩
  · exact .inl h
  · by_cases hl : l = []
    · exact .inl hl
    · refine .inr ⟨b, off, rfl, Nat.lt_of_lt_of_le hlt (KeepsWalks.setCell w _ u).size, fun i hi => ?_⟩
      rw [World.cell?_setCell_other w ⟨D, o, none⟩ ⟨b, off + i, none⟩ u (fun e => hD b off rfl hl (by injection e with e1 _ _; exact e1.symm))]
      exact hc i hi
theorem may_ne {d : Bool} {f : Int} (h : d = true ∨ f < 0 ∨ 4 ≤ f) : mayP d f ≠ 0 := by
  unfold mayP
  by_cases h1 : d = true
  · rw [if_pos h1]; decide
  · rw [if_neg h1, if_pos (h.resolve_left h1)]; decide
theorem may_eq {d : Bool} {f : Int} (h : ¬ (d = true ∨ f < 0 ∨ 4 ≤ f)) : mayP d f = 0 := by
  unfold mayP
  rw [if_neg (fun h1 => h (.inl h1)), if_neg (fun h1 => h (.inr h1))]
set_option maxHeartbeats 1000000 in
theorem call_no (what : Nat) (f : Int) (k : Nat) (A : Option Addr) (c n₀ D : Nat) (v : Nat → Value) (st : St) (w : World) (h : At0 w n₀ D v st) (hno : st.down = true ∨ f < 0 ∨ 4 ≤ f) :
    Calls Try.prog 29 #[.pointer (some ⟨D, 0, none⟩), .int .i64 what, .int .i64 f, .slice A k c] w (Ends w n₀ D v (mayP st.down f, st)) := by
  have CM := Lib.hid (may_any D st.down f w (h.blk.cell 0) (h.blk.cell 10))
  have HE := Lib.hid (show ∀ e, e = .returned (.int .i64 (mayP st.down f)) → Ends w n₀ D v (mayP st.down f, st) e w from fun e he => ⟨he, v, h, Turn.refl _ _ _ _⟩)
  have hm := may_ne hno
  generalize mayP st.down f = m at *
  generalize Ends w n₀ D v (m, st) = E at *
  have b0 : (m != 0) = true := by simp [hm]
  clear hno h hm
  go_enter Try.func29, Try.ntmps29
  go_wp2_with (go_at_call 33; (with_reducible refine Calls.mono CM.out ?_); rintro e w' ⟨rfl, rfl⟩)
  exact HE.out _ rfl
set_option maxHeartbeats 1000000 in
theorem call_yes (what : Nat) (hw : what < 3) (g : Nat) (hg : g < 4) (bs : List UInt8) (A : Option Addr) (c n₀ D : Nat) (v : Nat → Value) (st : St) (w : World) (hn : n₀ ≤ w.heap.size) (h : At0 w n₀ D v st) (ok : st.Ok) (hb : bs.length ≤ 2000000)
    (hH : HoldsB w A bs) (hA : A = none → c = 0) (hbD : ∀ b off, A = some ⟨b, off, none⟩ → bs ≠ [] → b ≠ D) (hd : st.down = false) :
    Calls Try.prog 29 #[.pointer (some ⟨D, 0, none⟩), .int .i64 what, .int .i64 g, .slice A bs.length c] w (Ends w n₀ D v (callP what g bs st)) := by
  have hno : ¬ (st.down = true ∨ (g : Int) < 0 ∨ 4 ≤ (g : Int)) := by rw [hd]; simp; omega
  have CM := Lib.hid (may_any D st.down g w (h.blk.cell 0) (h.blk.cell 10))
  rw [may_eq hno] at CM
  obtain ⟨cv, -⟩ := cells_at true v st.s st.left st.down hg
  rw [← h.blk.cell] at cv
  obtain ⟨Av, cpv, hv, _⟩ := (h.own g hg).read
  rw [hv] at cv
  have hsz := ok.size g hg
  have hl1 := ok.left.1
  have hl2 := ok.left.2
  have hg4 : (g : Int) < 4 := by omega
  have HH := Lib.hid (And.intro h (And.intro hH hA))
  have HV := Lib.hid hv
  obtain ⟨m, hm⟩ : ∃ m, bs.length = m := ⟨_, rfl⟩
  obtain ⟨q, hq⟩ : ∃ q, (st.b g).length = q := ⟨_, rfl⟩
  have HQ := Lib.hid (And.intro hm hq)
  rw [hq] at cv hsz
  rw [hm] at hb ⊢
  by_cases hfull : 1048576 - (q : Int) < m
  · have hr : callP what g bs st = (15, st) := by unfold callP; rw [if_neg hno, if_pos (by rw [show ((g : Int)).toNat = g by omega, hq, hm]; exact hfull)]
    rw [hr]
    have HE := Lib.hid (show ∀ e, e = .returned (.int .i64 15) → Ends w n₀ D v (15, st) e w from fun e he => ⟨he, v, HH.out.1, Turn.refl _ _ _ _⟩)
    generalize Ends w n₀ D v (15, st) = E at *
    have b0 : decide (1048576 - (q : Int) < (m : Int)) = true := decide_eq_true hfull
    clear hno h hm hq hr hv ok hH hA hd
    go_enter Try.func29, Try.ntmps29
    go_wp2_with (go_at_call 33; (with_reducible refine Calls.mono CM.out ?_); rintro e w' ⟨rfl, rfl⟩)
    exact HE.out _ rfl
  · have b0 : decide (1048576 - (q : Int) < (m : Int)) = false := decide_eq_false hfull
    have hfl : ¬ (1048576 - ((st.b ((g : Int)).toNat).length : Int) < bs.length) := by rw [show ((g : Int)).toNat = g by omega, hq, hm]; exact hfull
    by_cases h0 : st.left = 0
    · have C39 := Lib.hid (count_zero D (.bool st.down) w (by rw [h.blk.cell]; show some (Value.int .i64 st.left) = _; rw [h0]) (h.blk.cell 10) (h.blk.frozen 9) (h.blk.frozen 10))
      have h1 := (h.setLeft (-1)).setDown true
      have t1 := (h.turnD 9 (.int .i64 (-1))).trans ((h.setLeft (-1)).turnD 10 (.bool true))
      have hn1 : n₀ ≤ ((w.setCell ⟨D, 9, none⟩ (.int .i64 (-1))).setCell ⟨D, 10, none⟩ (.bool true)).heap.size := Nat.le_trans hn t1.below.size
      have hH1 : HoldsB ((w.setCell ⟨D, 9, none⟩ (.int .i64 (-1))).setCell ⟨D, 10, none⟩ (.bool true)) A bs := holds_set (holds_set hH hbD _) hbD _
      by_cases hw0 : what = 0
      · subst hw0
        have hr : callP 0 g bs st = (17, doP 0 g bs { st with left := -1, down := true }) := by unfold callP; rw [if_neg hno, if_neg hfl, if_pos h0, if_pos rfl, show ((g : Int)).toNat = g by omega]
        rw [hr]
        have C40 := Lib.hid (does_any 0 (by omega) g hg bs A c n₀ D v { st with left := -1, down := true } _ hn1 h1 (by show (st.b g).length ≤ _; omega) (by omega) hH1 hA)
        rw [hm] at C40
        have HE := Lib.hid (show ∀ w' v', At0 w' n₀ D v' (doP 0 g bs { st with left := -1, down := true }) → Turn ((w.setCell ⟨D, 9, none⟩ (.int .i64 (-1))).setCell ⟨D, 10, none⟩ (.bool true)) n₀ D v w' v' → ∀ e, e = .returned (.int .i64 17) → Ends w n₀ D v (17, doP 0 g bs { st with left := -1, down := true }) e w' from fun w' v' ha ht e he => ⟨he, v', ha, t1.trans ht⟩)
        generalize Ends w n₀ D v (17, doP 0 g bs { st with left := -1, down := true }) = E at *
        clear hno h hm hq hr hv ok hH hA hd h1 t1 hH1 hfl
        go_enter Try.func29, Try.ntmps29
        go_wp2_with (first | (go_at_call 33; (with_reducible refine Calls.mono CM.out ?_); rintro e w' ⟨rfl, rfl⟩) | (go_at_call 39; (with_reducible refine Calls.mono C39.out ?_); rintro e w' ⟨rfl, rfl⟩) | (go_at_call 40; (with_reducible refine Calls.mono C40.out ?_); rintro e w2 ⟨⟨r, rfl⟩, v', ha, ht⟩; have HF := Lib.hid (HE.out w2 v' ha ht); clear ha ht))
        exact HF.out _ rfl
      · have hr : callP what g bs st = (17, { st with left := -1, down := true }) := by unfold callP; rw [if_neg hno, if_neg hfl, if_pos h0, if_neg hw0]
        rw [hr]
        have HE := Lib.hid (show ∀ e, e = .returned (.int .i64 17) → Ends w n₀ D v (17, { st with left := -1, down := true }) e ((w.setCell ⟨D, 9, none⟩ (.int .i64 (-1))).setCell ⟨D, 10, none⟩ (.bool true)) from fun e he => ⟨he, v, h1, t1⟩)
        generalize Ends w n₀ D v (17, { st with left := -1, down := true }) = E at *
        have b1 : ((what : Int) == 0) = false := beq_eq_false_iff_ne.mpr (by omega)
        clear hno h hm hq hr hv ok hH hA hd h1 t1 hH1 hfl hw0
        go_enter Try.func29, Try.ntmps29
        go_wp2_with (first | (go_at_call 33; (with_reducible refine Calls.mono CM.out ?_); rintro e w' ⟨rfl, rfl⟩) | (go_at_call 39; (with_reducible refine Calls.mono C39.out ?_); rintro e w' ⟨rfl, rfl⟩))
        exact HE.out _ rfl
    · have C39 := Lib.hid (count_some D st.left w h0 hl1 hl2 (h.blk.cell 9) (h.blk.frozen 9))
      obtain ⟨W1, hW1⟩ : ∃ W1, (if 0 < st.left then w.setCell ⟨D, 9, none⟩ (.int .i64 (st.left - 1)) else w) = W1 := ⟨_, rfl⟩
      rw [hW1] at C39
      have h1 : At0 W1 n₀ D v { st with left := if 0 < st.left then st.left - 1 else st.left } ∧ Turn w n₀ D v W1 v ∧ HoldsB W1 A bs := by
        rw [← hW1]
        split
        · exact ⟨h.setLeft _, h.turnD _ _, holds_set hH hbD _⟩
        · exact ⟨h, Turn.refl _ _ _ _, hH⟩
      obtain ⟨h1, t1, hH1⟩ := h1
      have hr : callP what g bs st = (0, doP what g bs { st with left := if 0 < st.left then st.left - 1 else st.left }) := by unfold callP; rw [if_neg hno, if_neg hfl, if_neg h0, show ((g : Int)).toNat = g by omega]
      rw [hr]
      have C40 := Lib.hid (does_any what hw g hg bs A c n₀ D v { st with left := if 0 < st.left then st.left - 1 else st.left } W1 (Nat.le_trans hn t1.below.size) h1 (by show (st.b g).length ≤ _; omega) (by omega) hH1 hA)
      rw [hm] at C40
      have HE := Lib.hid (show ∀ w' v', At0 w' n₀ D v' (doP what g bs { st with left := if 0 < st.left then st.left - 1 else st.left }) → Turn W1 n₀ D v w' v' → ∀ e, e = .returned (.int .i64 0) → Ends w n₀ D v (0, doP what g bs { st with left := if 0 < st.left then st.left - 1 else st.left }) e w' from fun w' v' ha ht e he => ⟨he, v', ha, t1.trans ht⟩)
      generalize Ends w n₀ D v (0, doP what g bs { st with left := if 0 < st.left then st.left - 1 else st.left }) = E at *
      clear hno h hm hq hr hv ok hH hA hd h1 t1 hH1 hfl hW1
      go_enter Try.func29, Try.ntmps29
      go_wp2_with (first | (go_at_call 33; (with_reducible refine Calls.mono CM.out ?_); rintro e w' ⟨rfl, rfl⟩) | (go_at_call 39; (with_reducible refine Calls.mono C39.out ?_); rintro e w' ⟨rfl, rfl⟩) | (go_at_call 40; (with_reducible refine Calls.mono C40.out ?_); rintro e w2 ⟨⟨r, rfl⟩, v', ha, ht⟩; have HF := Lib.hid (HE.out w2 v' ha ht); clear ha ht))
      exact HF.out _ rfl
end Go.Proofs.Ytlecgedmdaenaaa.Disk
