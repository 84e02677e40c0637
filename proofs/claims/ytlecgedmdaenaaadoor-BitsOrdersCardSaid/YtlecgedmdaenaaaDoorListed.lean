/- Walks of the law's list of a set (by the iterator's function itself), and of the comparison of two lists. -/
import Derived.Test.YtlecgedmdaenaaaDoorText
import Derived.Test.YtlecgedmdaenaaaDoorMade
namespace Go.Proofs.YtlecgedmdaenaaaDoor.Bits
open Go.RowKit Go.Proofs.YtlecgedmdaenaaaDoor.K

/-- The box B holds a slice of the call's own (blocks from n₀ on) of the whole numbers xs. -/
def Held (W : World) (n₀ B : Nat) (xs : List Int) : Prop := ∃ v, Boxed W B 32 v ∧ Own W n₀ v xs
set_option maxHeartbeats 1000000 in
theorem yield_any (n : Int) (n₀ B : Nat) (xs : List Int) (W : World) (hl : xs.length < 69) (hn : n₀ ≤ B) (hn2 : n₀ ≤ W.heap.size) (hH : Held W n₀ B xs) :
    Calls Tryd.prog 41 #[.int .i64 n, .pointer (some ⟨B, 0, none⟩)] W fun e w' => e = .returned (.bool true) ∧ (Held w' n₀ B (xs ++ [n]) ∧ Below n₀ W w') := by
  obtain ⟨v, hb, ho⟩ := hH
  obtain ⟨i0, hi, hz0, hz1, hz2⟩ := info_parts info3
  have hc := hb.cell
  have hf := hb.frozen
  obtain ⟨q, hq⟩ : ∃ q, xs.length = q := ⟨_, rfl⟩
  have HW := ho
  unfold Own at HW
  rw [hq] at HW hl
  have HO := Lib.hid HW
  have HO0 := Lib.hid ho
  have HQ := Lib.hid hq
  have HBx := Lib.hid hb
  have hd : decide ((q : Int) + 1 < 70) = true := decide_eq_true (by omega)
  clear hq HW hb ho
  go_enter Tryd.func41, Tryd.ntmps41
  go_wp2_with (at_builtin; refine wpList_append_own _ rfl _ _ 32 rfl n₀ 3 i0 (.int .i64 0) 1 8 Tryd.underlying32 hi hz0 hz1 hz2 rfl (by decide) _ _ _ rfl (World.ownsRow.alloc HO.out _) ⟨W.heap.size, 0, none⟩ 1 1 [.int .i64 n] rfl rfl (cell_one_new _ _ _) (by simp [Value.oneCell']) (by unfold maxLen; omega) (by omega) (by simp; omega) ?_; intro v' w1 hown' hgrow _; obtain ⟨g', cap', rfl⟩ := ownsRow_succ hown'; obtain ⟨hv1, hv2, hr2, hk2, hb2⟩ := HBx.out.appended (by decide) HO.out hn2 hn hown' hgrow; have hc1 := hv1.cell; have hf1 := hv1.frozen; have hc2 := hv2.cell; have HK := Lib.hid (And.intro hv2 (And.intro hr2 hb2)); clear hv1 hv2 hr2 hk2 hb2 hown' hgrow)
  go_ret
  refine ⟨rfl, ⟨_, HK.out.1, ?_⟩, HK.out.2.2⟩
  unfold Own
  rw [List.length_append, List.map_append, HQ.out]
  exact HK.out.2.1
set_option maxHeartbeats 2000000 in
theorem each_any (x : Nat) (hx : Small x) (n₀ B S : Nat) (W : World) (hn : n₀ ≤ B) (hn2 : n₀ ≤ W.heap.size) (hg : 0 < n₀) (hT : Tab W) (hS : W.cell? ⟨S, 0, none⟩ = some (.int .u64 x)) (hH : Held W n₀ B []) :
    Calls Tryd.prog 44 #[.func (.func 41) #[] #[.pointer (some ⟨B, 0, none⟩)], .pointer (some ⟨S, 0, none⟩)] W fun e w' => (∃ v, e = .returned v) ∧ Held w' n₀ B (ofL x) ∧ Below n₀ W w' := by
  obtain ⟨L, hL⟩ : ∃ L, ofL x = L := ⟨_, rfl⟩
  have hLl : L.length ≤ 64 := by rw [← hL, ofL_len]; exact pop_le x
  rw [hL]
  have HX := Lib.hid (And.intro hx hL)
  have HT := Lib.hid hT
  have HH := Lib.hid hH
  clear hx hL hT hH
  go_enter Tryd.func44, Tryd.ntmps44
  go_wp2
  go_loopw [3] (fun p wr => ∃ (pre : List Int) (y : Nat), p = .int .u64 y ∧ Hid (L = pre ++ ofL y ∧ Small y) ∧ Hid (Held wr n₀ B pre) ∧ Hid (Below n₀ W wr)) (fun p _ => (intOf p).toNat)
  case atStart => exact ⟨[], x, rfl, Lib.hid ⟨HX.out.2.symm, HX.out.1⟩, HH, Lib.hid (Below.refl _ _)⟩
  case round =>
    obtain ⟨pre, y, rfl, HP, HJ, HB⟩ := hrel
    by_cases hy : y = 0
    · subst hy
      have hp : pre = L := by have := HP.out.1; rw [ofL_zero, List.append_nil] at this; exact this.symm
      go_wp2
      go_end0
      exact ⟨⟨_, rfl⟩, by rw [← hp]; exact HJ.out, HB.out⟩
    · have hof := ofL_ofLow HP.out.2 hy
      rw [← strike_low HP.out.2 hy] at hof
      obtain ⟨i, hi, _, _, _⟩ := low_tb HP.out.2 hy
      have hsp := HP.out.1
      rw [hof, hi] at hsp
      have hTw : Tab wr := fun j hj => (HB.out.cell (p := ⟨0, j, none⟩) hg).trans (HT.out j hj)
      have C := Lib.hid (by have h := lowest_any y HP.out.2 wr hTw; rw [hi] at h; exact h : Calls Tryd.prog 28 #[.int .u64 y] wr fun e w' => e = .returned (.int .i64 (i : Int)) ∧ wr = w')
      have b0 : ((y : Int) != 0) = true := by simp; omega
      have hw1 : IntKind.u64.wrap ((y : Int) - 1) = ((y - 1 : Nat) : Int) := by have := HP.out.2.lt; rw [IntKind.wrap_u64]; omega
      have hs1 : Small (y - 1) := by have := HP.out.2.lt; unfold Small; omega
      have ha := cast_and HP.out.2 hs1
      have hsa : Small (y &&& (y - 1)) := and_small HP.out.2
      have hlt : (y &&& (y - 1)) < y := Nat.lt_of_le_of_lt Nat.and_le_right (by omega)
      have hpl : pre.length < 69 := by rw [hsp] at hLl; simp at hLl; omega
      have CY := Lib.hid (yield_any (i : Int) n₀ B pre wr hpl hn (Nat.le_trans hn2 HB.out.size) HJ.out)
      generalize (y &&& (y - 1)) = z at *
      generalize y - 1 = y1 at *
      have HS := Lib.hid (And.intro hsp hsa)
      clear hsp hsa hs1 hof hy hi hTw hpl
      go_wp2_with (first | (go_at_call 28; (with_reducible refine Calls.mono C.out ?_); rintro e w' ⟨rfl, rfl⟩) | (go_at_call 41; (with_reducible refine Calls.mono CY.out ?_); rintro e w2 ⟨rfl, hh2, hb2⟩; have HJ2 := Lib.hid hh2; have HB2 := Lib.hid (HB.out.trans hb2); clear hh2 hb2))
      exact ⟨⟨pre ++ [(i : Int)], z, rfl, Lib.hid ⟨by rw [HS.out.1]; simp, HS.out.2⟩, HJ2, HB2⟩, by simp [intOf]; omega⟩
theorem func_not_nil (a : Addr) (w : World) : (binOp .eql 59 (.func (.func 44) #[] #[.pointer (some a)]) .nilFunc).run Tryd.prog w = .ok (.bool false) w := by kernel_rfl
set_option maxHeartbeats 2000000 in
theorem listed_any (x : Nat) (hx : Small x) (w : World) (hT : Tab w) (hg : 0 < w.heap.size) :
    Calls Tryd.prog 30 #[.int .u64 x] w fun e w' => ∃ v, e = .returned v ∧ Own w' w.heap.size v (ofL x) ∧ Below w.heap.size w w' := by
  have CA := Lib.hid (fun W => callsIn_wide.1 (all_any x 1 W))
  have CE := Lib.hid (fun n₀ B S W hn hn2 hg' hTW hS hH => each_any x hx n₀ B S W hn hn2 hg' hTW hS hH)
  have HT := Lib.hid hT
  clear hx hT
  go_enter Tryd.func30, Tryd.ntmps30
  have hnf := func_not_nil
  have B0 := Boxed.new w 32 (.slice none 0 0)
  have hB0 : Below w.heap.size w ((w.alloc (.cells #[.slice none 0 0] 32)).alloc (.cells #[.int .u64 x] 23)) := ((Below.refl _ w).alloc (Nat.le_refl _) _).alloc (by simp) _
  have HB0 := Lib.hid (And.intro (B0.alloc (.cells #[.int .u64 x] 23)) hB0)
  clear B0 hB0
  go_wp2_with (first | (go_at_call 40; (with_reducible refine Calls.mono (CA.out _) ?_); rintro e w1 ⟨rfl, rfl⟩) | (go_at_call 44; (with_reducible refine Calls.mono (CE.out w.heap.size w.heap.size (w.heap.size + 1) _ ?_ ?_ ?_ ?_ ?_ ?_) ?_); (· exact Nat.le_refl _); (· simp; omega); (· exact hg); (· exact tab_below HT.out hg HB0.out.2); (· simp); (· exact ⟨_, HB0.out.1, World.ownsRow_nil _ _ _ _⟩); rintro e w2 ⟨⟨v0, rfl⟩, ⟨v, hbv, hov⟩, hb2⟩; have c2 := hbv.cell; have HO := Lib.hid hov; have HB := Lib.hid (HB0.out.2.trans hb2); clear hbv hov hb2))
  go_ret
  exact ⟨_, rfl, HO.out, HB.out⟩
end Go.Proofs.YtlecgedmdaenaaaDoor.Bits
