/- Walks of bits.Of and of the law's small choice that is always asked. -/
import Derived.Test.YtlecgedmdaenaaaDoorRef
import Derived.Test.YtlecgedmdaenaaaDoorChoose
namespace Go.Proofs.YtlecgedmdaenaaaDoor.Bits
open Go.RowKit Go.Proofs.YtlecgedmdaenaaaDoor.K
def mk (xs : List Int) : Nat := xs.foldl (fun s n => s ||| bitN n) 0
theorem mk_snoc (xs : List Int) (n : Int) : mk (xs ++ [n]) = mk xs ||| bitN n := by unfold mk; rw [List.foldl_append]; rfl
theorem mk_small (xs : List Int) : Small (mk xs) := by
  have : ∀ (l : List Int) (a : Nat), Small a → Small (l.foldl (fun s n => s ||| bitN n) a) := by
    intro l
    induction l with
    | nil => intro a h; exact h
    | cons x l ih => intro a h; exact ih _ (or_small h (bitN_small _))
  exact this xs 0 (by unfold Small; decide)

set_option maxHeartbeats 1000000 in
theorem setOf_any (A : Option Addr) (cap : Nat) (xs : List Int) (hlen : xs.length ≤ 4611686018427387904) (w : World) (hH : HoldsI w A xs) :
    Calls Tryd.prog 13 #[.slice A xs.length cap] w fun e w' => e = .returned (.int .u64 (mk xs : Nat)) ∧ w = w' := by
  obtain ⟨t, ht⟩ : ∃ t, mk xs = t := ⟨_, rfl⟩
  rw [ht]
  have HT := Lib.hid ht
  have HH := Lib.hid hH
  obtain ⟨len, hl⟩ : ∃ len, xs.length = len := ⟨_, rfl⟩
  have HLn := Lib.hid hl
  rw [hl] at hlen ⊢
  clear ht hH hl
  go_enter Tryd.func13, Tryd.ntmps13
  go_wp2
  go_loop [3, 8] (fun s i => ∃ (k : Nat) (o : Nat), k ≤ len ∧ i = .int .i64 k ∧ s = .int .u64 o ∧ Hid (o = mk (xs.take k))) (fun _ i => len - (intOf i).toNat)
  case atStart => exact ⟨0, 0, Nat.zero_le _, rfl, rfl, Lib.hid rfl⟩
  case round =>
    obtain ⟨k, o, hk, rfl, rfl, HO⟩ := hrel
    by_cases hlt : k < len
    · have hlz : k < xs.length := by rw [HLn.out]; exact hlt
      rcases HH.out with h | ⟨b, off, rfl, _, hc⟩
      · rw [h] at hlz; simp at hlz
      · have hcell := hc k hlz
        have ho : Small o := by rw [HO.out]; exact mk_small _
        have hs : mk (xs.take (k + 1)) = o ||| bitN xs[k] := by rw [List.take_succ_eq_append_getElem hlz, mk_snoc, ← HO.out]
        have co := fun W => with_any o xs[k] ho W
        generalize xs[k] = x at *
        generalize o ||| bitN x = r at *
        have CO := Lib.hid co
        have HS := Lib.hid hs
        clear hs co hc ho hlz
        go_wp2_with (go_at_call 16; (with_reducible refine Calls.mono (CO.out _) ?_); rintro e w' ⟨rfl, rfl⟩)
        go_round
        case rel => exact ⟨k + 1, r, by omega, by go_num, rfl, Lib.hid HS.out.symm⟩
        case measure => simp [intOf]; omega
    · have e : t = o := by rw [HO.out, ← HT.out, List.take_of_length_le (by have := HLn.out; omega)]
      go_wp2
      go_ret
      exact ⟨rfl, rfl⟩

theorem choose_one : chooseL 63 3 0 ([16, 6] ++ [63]) = 22 := by decide +kernel
theorem holds_new1 (w : World) (B : Nat) (h : B = w.heap.size) (a : Int) : HoldsI (w.alloc (.cells #[.int .i64 a] 3)) (some ⟨B, 0, none⟩) [a] := by
  subst h; exact .inr ⟨w.heap.size, 0, rfl, by simp, fun i hi => by match i, hi with | 0, _ => simp⟩
theorem holds_new2 (w : World) (B : Nat) (h : B = w.heap.size) (a b : Int) : HoldsI (w.alloc (.cells #[.int .i64 a, .int .i64 b] 3)) (some ⟨B, 0, none⟩) [a, b] := by
  subst h; exact .inr ⟨w.heap.size, 0, rfl, by simp, fun i hi => by match i, hi with | 0, _ => simp | 1, _ => simp⟩
theorem holds_new3 (w : World) (B : Nat) (h : B = w.heap.size) (a b c : Int) : HoldsI (w.alloc (.cells #[.int .i64 a, .int .i64 b, .int .i64 c] 3)) (some ⟨B, 0, none⟩) [a, b, c] := by
  subst h; exact .inr ⟨w.heap.size, 0, rfl, by simp, fun i hi => by match i, hi with | 0, _ => simp | 1, _ => simp | 2, _ => simp⟩

theorem tab_below {w w' : World} (hT : Tab w) (hg : 0 < w.heap.size) (hB : Below w.heap.size w w') : Tab w' := fun j hj => (hB.cell (p := ⟨0, j, none⟩) hg).trans (hT j hj)
theorem choose_small (W : World) (B : Nat) (h0 : W.cell? ⟨B, 0, none⟩ = some (.int .u64 16)) (h1 : W.cell? ⟨B, 1, none⟩ = some (.int .u64 6)) (hT : Tab W) (hg : 0 < W.heap.size) :
    Calls Tryd.prog 9 #[.int .u64 63, .int .i64 3, .slice (some ⟨B, 0, none⟩) 2 2] W fun e w' => e = .returned (.tuple #[.int .u64 22, .bool true]) ∧ Below W.heap.size W w' := by
  have h := choose_yes 63 3 (some ⟨B, 0, none⟩) 2 [16, 6] (by unfold Small; decide) (by decide) (by decide +kernel) (by intro z hz; simp at hz; rcases hz with rfl | rfl <;> (unfold Small; decide)) (by simp) (by simp) W
    (by simp) (fun b hb i hi => by
      cases hb
      match i, hi with
      | 0, _ => exact h0
      | 1, _ => exact h1) hT hg
  rw [choose_one] at h
  exact h

set_option maxHeartbeats 1000000 in
theorem one20_any (w : World) (hT : Tab w) (hg : 0 < w.heap.size) :
    Calls Tryd.prog 11 #[] w fun e w' => e = .returned (.bool true) ∧ Below w.heap.size w w' := by
  have CF := Lib.hid (fun W => (by have h := first_any 6 W; exact h : Calls Tryd.prog 18 #[.int .i64 6] W fun e w' => e = .returned (.int .u64 63) ∧ W = w'))
  have C4 := Lib.hid (fun W B => (by have h := setOf_any (some ⟨B, 0, none⟩) 1 [4] (by simp) W; exact h : HoldsI W (some ⟨B, 0, none⟩) [4] → Calls Tryd.prog 13 #[.slice (some ⟨B, 0, none⟩) 1 1] W fun e w' => e = .returned (.int .u64 16) ∧ W = w'))
  have C12 := Lib.hid (fun W B => (by have h := setOf_any (some ⟨B, 0, none⟩) 2 [1, 2] (by simp) W; exact h : HoldsI W (some ⟨B, 0, none⟩) [1, 2] → Calls Tryd.prog 13 #[.slice (some ⟨B, 0, none⟩) 2 2] W fun e w' => e = .returned (.int .u64 6) ∧ W = w'))
  have C124 := Lib.hid (fun W B => (by have h := setOf_any (some ⟨B, 0, none⟩) 3 [1, 2, 4] (by simp) W; exact h : HoldsI W (some ⟨B, 0, none⟩) [1, 2, 4] → Calls Tryd.prog 13 #[.slice (some ⟨B, 0, none⟩) 3 3] W fun e w' => e = .returned (.int .u64 22) ∧ W = w'))
  have CC := Lib.hid (fun W => (by have h := cost_any 22 16 (by unfold Small; decide) (by unfold Small; decide) W; exact h : Calls Tryd.prog 34 #[.int .u64 22, .int .u64 16] W fun e w' => e = .returned (.int .i64 2) ∧ W = w'))
  have HT := Lib.hid hT
  clear hT
  go_enter Tryd.func11, Tryd.ntmps11
  go_wp2_with (go_at_call 18; (with_reducible refine Calls.mono (CF.out _) ?_); rintro e w' ⟨rfl, rfl⟩)
  refine (C4.out _ _ ?_).mono ?_
  · exact holds_new1 _ _ (by first | rfl | (simp; done) | (simp; omega)) _ 
  rintro e w1 ⟨rfl, rfl⟩
  go_wp2_with fail
  refine (C12.out _ _ ?_).mono ?_
  · exact holds_new2 _ _ (by first | rfl | (simp; done) | (simp; omega)) _ _ 
  rintro e w1 ⟨rfl, rfl⟩
  go_wp2_with fail
  refine (choose_small _ _ ?_ ?_ ?_ ?_).mono ?_
  · go_simp
  · go_simp
  · exact tab_below HT.out hg (by repeat (first | exact Below.refl _ _ | refine Below.alloc ?_ (by first | omega | (simp; done) | (simp; omega)) _))
  · go_simp
  rintro e w1 ⟨rfl, hb⟩
  have HB := Lib.hid (show Below w.heap.size w w1 from by refine Below.trans ?_ (hb.mono ?_); (· repeat (first | exact Below.refl _ _ | refine Below.alloc ?_ (by first | omega | (simp; done) | (simp; omega)) _)); (· simp; omega))
  clear hb
  go_wp2_with fail
  refine (C124.out _ _ ?_).mono ?_
  · exact holds_new3 _ _ (by first | rfl | (simp; done) | (simp; omega)) _ _ _ 
  rintro e w2 ⟨rfl, rfl⟩
  go_wp2_with fail
  refine (C4.out _ _ ?_).mono ?_
  · exact holds_new1 _ _ (by first | rfl | (simp; done) | (simp; omega)) _ 
  rintro e w2 ⟨rfl, rfl⟩
  go_wp2_with (go_at_call 34; (with_reducible refine Calls.mono (CC.out _) ?_); rintro e w' ⟨rfl, rfl⟩)
  go_ret
  have hs := HB.out.size
  exact ⟨rfl, by repeat (first | exact HB.out | refine Below.alloc ?_ (by first | omega | (simp; done) | (simp; omega)) _)⟩
end Go.Proofs.YtlecgedmdaenaaaDoor.Bits
