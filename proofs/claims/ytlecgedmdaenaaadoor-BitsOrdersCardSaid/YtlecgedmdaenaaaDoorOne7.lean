/- The law's small check of package bits that is always asked. -/
import Derived.Test.YtlecgedmdaenaaaDoorText
namespace Go.Proofs.YtlecgedmdaenaaaDoor.Bits
open Go.RowKit Go.Proofs.YtlecgedmdaenaaaDoor.K

theorem text_zero (w : World) : Calls Tryd.prog 31 #[.int .u64 0] w fun e w' => e = .returned (.string (textC 0)) ∧ Below w.heap.size w w' := by
  rw [show textC 0 = ⟨#[110, 111, 110, 101]⟩ from rfl]
  go_enter Tryd.func31, Tryd.ntmps31
  go_wp2
  go_ret
  exact ⟨rfl, (Below.refl _ _).alloc (Nat.le_refl _) _⟩
theorem text_call (x : Nat) (hx : Small x) (w : World) (hT : Tab w) (hg : 0 < w.heap.size) : Calls Tryd.prog 31 #[.int .u64 x] w fun e w' => e = .returned (.string (textC x)) ∧ Below w.heap.size w w' := by
  by_cases h : x = 0
  · subst h; exact text_zero w
  · exact callsIn_wide.1 (text_any x hx h w hT hg)

theorem holds_new4 (w : World) (B : Nat) (h : B = w.heap.size) (a b c d : Int) : HoldsI (w.alloc (.cells #[.int .i64 a, .int .i64 b, .int .i64 c, .int .i64 d] 3)) (some ⟨B, 0, none⟩) [a, b, c, d] := by
  subst h; exact .inr ⟨w.heap.size, 0, rfl, by simp, fun i hi => by match i, hi with | 0, _ => simp | 1, _ => simp | 2, _ => simp | 3, _ => simp⟩
theorem text46 : textC 46 = { data := #[49, 45, 51, 44, 53] } := by decide +kernel
set_option maxHeartbeats 1000000 in
theorem one7_any (w : World) (hT : Tab w) (hg : 0 < w.heap.size) :
    Calls Tryd.prog 22 #[] w fun e w' => e = .returned (.bool true) ∧ Below w.heap.size w w' := by
  have C4 := Lib.hid (fun W B => (by have h := setOf_any (some ⟨B, 0, none⟩) 4 [1, 2, 3, 5] (by simp) W; exact h : HoldsI W (some ⟨B, 0, none⟩) [1, 2, 3, 5] → Calls Tryd.prog 13 #[.slice (some ⟨B, 0, none⟩) 4 4] W fun e w' => e = .returned (.int .u64 46) ∧ W = w'))
  have CT := Lib.hid (fun W (h1 : Tab W) (h2 : 0 < W.heap.size) => (by have h := text_call 46 (by unfold Small; decide) W h1 h2; rw [text46] at h; exact h : Calls Tryd.prog 31 #[.int .u64 46] W fun e w' => e = .returned (.string { data := #[49, 45, 51, 44, 53] }) ∧ Below W.heap.size W w'))
  have CL := Lib.hid (fun W => (by have h := len_any 46 (by unfold Small; decide) W; exact h : Calls Tryd.prog 21 #[.int .u64 46] W fun e w' => e = .returned (.int .i64 4) ∧ W = w'))
  have C5 := Lib.hid (fun W => (by have h := has_any 46 5 (by unfold Small; decide) W; exact h : Calls Tryd.prog 19 #[.int .u64 46, .int .i64 5] W fun e w' => e = .returned (.bool true) ∧ W = w'))
  have C6 := Lib.hid (fun W => (by have h := has_any 46 4 (by unfold Small; decide) W; exact h : Calls Tryd.prog 19 #[.int .u64 46, .int .i64 4] W fun e w' => e = .returned (.bool false) ∧ W = w'))
  have HT := Lib.hid hT
  clear hT
  go_enter Tryd.func22, Tryd.ntmps22
  go_wp2_with fail
  refine (C4.out _ _ ?_).mono ?_
  · exact holds_new4 _ _ (by first | rfl | (simp; done) | (simp; omega)) _ _ _ _
  rintro e w1 ⟨rfl, rfl⟩
  go_wp2_with fail
  refine (CT.out _ ?_ ?_).mono ?_
  · exact tab_below HT.out hg ((Below.refl _ _).alloc (Nat.le_refl _) _)
  · simp
  rintro e w1 ⟨rfl, hb⟩
  have HB := Lib.hid (((Below.refl _ w).alloc (Nat.le_refl _) _).trans (hb.mono (by simp)))
  clear hb
  go_wp2_with (first | (go_at_call 21; (with_reducible refine Calls.mono (CL.out _) ?_); rintro e w' ⟨rfl, rfl⟩) | (go_at_call 19; (with_reducible refine Calls.mono (C5.out _) ?_); rintro e w' ⟨rfl, rfl⟩) | (go_at_call 19; (with_reducible refine Calls.mono (C6.out _) ?_); rintro e w' ⟨rfl, rfl⟩))
  go_ret
  exact ⟨rfl, HB.out⟩
end Go.Proofs.YtlecgedmdaenaaaDoor.Bits
