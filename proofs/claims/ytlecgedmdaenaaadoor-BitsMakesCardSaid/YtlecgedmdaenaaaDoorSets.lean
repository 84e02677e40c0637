/- The walk of the law BitsSets, and the plain laws that it needs. -/
import Derived.Test.YtlecgedmdaenaaaDoorOne7
namespace Go.Proofs.YtlecgedmdaenaaaDoor.Bits
open Go.RowKit Go.Proofs.YtlecgedmdaenaaaDoor.K

theorem has_out {a : Nat} {n : Int} (h : ¬ (0 ≤ n ∧ n < 64)) : has a n = false := by
  unfold has bitN
  rw [if_neg h]
  simp
theorem has_and {a b : Nat} (n : Int) : has (a &&& b) n = (has a n && has b n) := by
  by_cases h : 0 ≤ n ∧ n < 64
  · obtain ⟨m, rfl⟩ := Int.eq_ofNat_of_zero_le h.1
    rw [Bool.eq_iff_iff, Bool.and_eq_true, has_iff (by omega), has_iff (by omega), has_iff (by omega), tb_and]
  · rw [has_out h, has_out h]; rfl
theorem has_or {a b : Nat} (n : Int) : has (a ||| b) n = (has a n || has b n) := by
  by_cases h : 0 ≤ n ∧ n < 64
  · obtain ⟨m, rfl⟩ := Int.eq_ofNat_of_zero_le h.1
    rw [Bool.eq_iff_iff, Bool.or_eq_true, has_iff (by omega), has_iff (by omega), has_iff (by omega), tb_or]
  · rw [has_out h, has_out h, has_out h]; rfl
theorem has_less {a b : Nat} (ha : Small a) (hb : Small b) (n : Int) : has (less a b) n = (has a n && !has b n) := by
  by_cases h : 0 ≤ n ∧ n < 64
  · obtain ⟨m, rfl⟩ := Int.eq_ofNat_of_zero_le h.1
    rw [Bool.eq_iff_iff, Bool.and_eq_true, has_iff (by omega), has_iff (by omega), tb_less ha hb, Bool.not_eq_true', Bool.eq_false_iff, ne_eq, has_iff (by omega)]
  · rw [has_out h, has_out h]; rfl
theorem popU_both (k : Nat) : ∀ a b, popU k (a &&& b) + popU k (a ||| b) = popU k a + popU k b := by
  induction k with
  | zero => intro a b; rfl
  | succ k ih =>
    intro a b
    have h1 : (a &&& b) / 2 = a / 2 &&& b / 2 := Nat.and_div_two
    have h2 : (a ||| b) / 2 = a / 2 ||| b / 2 := Nat.or_div_two
    have h3 := ih (a / 2) (b / 2)
    have h4 : (a &&& b) % 2 + (a ||| b) % 2 = a % 2 + b % 2 := by
      have e : decide ((a ||| b) % 2 = 1) = (decide (a % 2 = 1) || decide (b % 2 = 1)) := by have := Nat.testBit_or a b 0; simp only [Nat.testBit_zero] at this; exact this
      have e' : decide ((a &&& b) % 2 = 1) = (decide (a % 2 = 1) && decide (b % 2 = 1)) := by have := Nat.testBit_and a b 0; simp only [Nat.testBit_zero] at this; exact this
      rcases Nat.mod_two_eq_zero_or_one a with ha | ha <;> rcases Nat.mod_two_eq_zero_or_one b with hb | hb <;> rcases Nat.mod_two_eq_zero_or_one (a ||| b) with hc | hc <;> rcases Nat.mod_two_eq_zero_or_one (a &&& b) with hd | hd <;> rw [ha, hb, hc] at e <;> rw [ha, hb, hd] at e' <;> first | omega | (exact absurd e (by decide)) | (exact absurd e' (by decide))
    simp only [popU]
    rw [h1, h2]; omega
theorem pop_both (a b : Nat) : pop (a &&& b) + pop (a ||| b) = pop a + pop b := popU_both 64 a b
theorem less_or {a b : Nat} (ha : Small a) (hb : Small b) : less a b ||| (a &&& b) = a := ext fun i => by
  rw [tb_or, tb_less ha hb, tb_and]
  by_cases h : tb b i <;> simp [h]
theorem any3 (a b c : Nat) : orAll [a, b, c] = a ||| b ||| c := by simp [orAll]

set_option maxRecDepth 100000 in
set_option maxHeartbeats 4000000 in
theorem sets_any (a b c : Nat) (ha : Small a) (hb : Small b) (hc : Small c) (w : World) (hT : Tab w) (hg : 0 < w.heap.size) :
    Calls Tryd.prog 5 #[.int .u64 a, .int .u64 b, .int .u64 c] w fun e w' => e = .returned (.bool true) ∧ Below w.heap.size w w' := by
  have hab := and_small (b := b) ha
  have hob := or_small ha hb
  have hlb := less_small (b := b) ha
  have hob3 := or_small hob hc
  have CA := Lib.hid (fun W => and_any a b ha hb W)
  have CO := Lib.hid (fun W => or_any a b ha hb W)
  have CL := Lib.hid (fun W => less_any a b ha hb W)
  have CN := Lib.hid (fun W A hH => (by have h := any_any A 3 [a, b, c] (by simp [ha, hb, hc]) (by simp) W hH; rw [any3] at h; exact h : Calls Tryd.prog 26 #[.slice A 3 3] W fun e w' => e = .returned (.int .u64 (a ||| b ||| c : Nat)) ∧ W = w'))
  have C0 := Lib.hid (fun W => (by have h := any_any none 0 [] (by simp) (by simp) W (.inl rfl); exact h : Calls Tryd.prog 26 #[.slice none 0 0] W fun e w' => e = .returned (.int .u64 0) ∧ W = w'))
  have P1 := Lib.hid (fun W => len_any (a &&& b) hab W)
  have P2 := Lib.hid (fun W => len_any (a ||| b) hob W)
  have P3 := Lib.hid (fun W => len_any a ha W)
  have P4 := Lib.hid (fun W => len_any b hb W)
  have CU := Lib.hid (fun W => (by have h := or_any (less a b) (a &&& b) hlb hab W; rw [less_or ha hb] at h; exact h : Calls Tryd.prog 24 #[.int .u64 (less a b : Nat), .int .u64 (a &&& b : Nat)] W fun e w' => e = .returned (.int .u64 a) ∧ W = w'))
  have H1 := Lib.hid (fun n W => has_any a n ha W)
  have H2 := Lib.hid (fun n W => has_any b n hb W)
  have H3 := Lib.hid (fun n W => has_any c n hc W)
  have H4 := Lib.hid (fun n W => (by have h := has_any (a &&& b) n hab W; rw [has_and] at h; exact h : Calls Tryd.prog 19 #[.int .u64 (a &&& b : Nat), .int .i64 n] W fun e w' => e = .returned (.bool (has a n && has b n)) ∧ W = w'))
  have H5 := Lib.hid (fun n W => (by have h := has_any (a ||| b) n hob W; rw [has_or] at h; exact h : Calls Tryd.prog 19 #[.int .u64 (a ||| b : Nat), .int .i64 n] W fun e w' => e = .returned (.bool (has a n || has b n)) ∧ W = w'))
  have H6 := Lib.hid (fun n W => (by have h := has_any (less a b) n hlb W; rw [has_less ha hb] at h; exact h : Calls Tryd.prog 19 #[.int .u64 (less a b : Nat), .int .i64 n] W fun e w' => e = .returned (.bool (has a n && !has b n)) ∧ W = w'))
  have H7 := Lib.hid (fun n W => (by have h := has_any (a ||| b ||| c) n hob3 W; rw [has_or, has_or] at h; exact h : Calls Tryd.prog 19 #[.int .u64 (a ||| b ||| c : Nat), .int .i64 n] W fun e w' => e = .returned (.bool (has a n || has b n || has c n)) ∧ W = w'))
  have C7 := Lib.hid (fun W (h1 : Tab W) (h2 : 0 < W.heap.size) => one7_any W h1 h2)
  have hpb := pop_both a b
  have l1 := pop_le a
  have l2 := pop_le b
  have l3 := pop_le (a &&& b)
  have l4 := pop_le (a ||| b)
  have HT := Lib.hid hT
  clear hT ha hb hc hab hob hlb hob3
  generalize pop (a &&& b) = p1 at *
  generalize pop (a ||| b) = p2 at *
  generalize pop a = p3 at *
  generalize pop b = p4 at *
  have hpe : (((p1 : Int) + p2) == ((p3 : Int) + p4)) = true := beq_iff_eq.mpr (by omega)
  clear hpb
  generalize has a = fa at *
  generalize has b = fb at *
  generalize has c = fc at *
  generalize a ||| b ||| c = s3 at *
  generalize a ||| b = s2 at *
  generalize a &&& b = s1 at *
  generalize less a b = s0 at *
  go_enter Tryd.func5, Tryd.ntmps5
  go_wp2
  go_loopw [7] (fun i wr => ∃ n : Int, -1 ≤ n ∧ n ≤ 66 ∧ i = .int .i64 n ∧ Hid (Below w.heap.size w wr)) (fun i _ => (66 - intOf i).toNat)
  case atStart => exact ⟨-1, by omega, by omega, rfl, Lib.hid (Below.refl _ _)⟩
  case round =>
    obtain ⟨n, hn1, hn2, rfl, HB⟩ := hrel
    by_cases hlt : n < 66
    · have h1 := fun W => H1.out n W
      have h2 := fun W => H2.out n W
      have h3 := fun W => H3.out n W
      have h4 := fun W => H4.out n W
      have h5 := fun W => H5.out n W
      have h6 := fun W => H6.out n W
      have h7 := fun W => H7.out n W
      generalize fa n = x at *
      generalize fb n = y at *
      generalize fc n = z at *
      have G1 := Lib.hid h1
      have G2 := Lib.hid h2
      have G3 := Lib.hid h3
      have G4 := Lib.hid h4
      have G5 := Lib.hid h5
      have G6 := Lib.hid h6
      have G7 := Lib.hid h7
      clear h1 h2 h3 h4 h5 h6 h7
      rcases x with _ | _ <;> rcases y with _ | _ <;> rcases z with _ | _ <;> (
        go_wp2_with (first | (go_at_call 19; (with_reducible refine Calls.mono (G1.out _) ?_); rintro e w' ⟨rfl, rfl⟩) | (go_at_call 19; (with_reducible refine Calls.mono (G2.out _) ?_); rintro e w' ⟨rfl, rfl⟩) | (go_at_call 19; (with_reducible refine Calls.mono (G3.out _) ?_); rintro e w' ⟨rfl, rfl⟩) | (go_at_call 19; (with_reducible refine Calls.mono (G4.out _) ?_); rintro e w' ⟨rfl, rfl⟩) | (go_at_call 19; (with_reducible refine Calls.mono (G5.out _) ?_); rintro e w' ⟨rfl, rfl⟩) | (go_at_call 19; (with_reducible refine Calls.mono (G6.out _) ?_); rintro e w' ⟨rfl, rfl⟩) | (go_at_call 23; (with_reducible refine Calls.mono (CA.out _) ?_); rintro e w' ⟨rfl, rfl⟩) | (go_at_call 24; (with_reducible refine Calls.mono (CO.out _) ?_); rintro e w' ⟨rfl, rfl⟩) | (go_at_call 25; (with_reducible refine Calls.mono (CL.out _) ?_); rintro e w' ⟨rfl, rfl⟩))
        refine (CN.out _ _ (.inr ⟨wr.heap.size, 0, rfl, fun i hi => ?_⟩)).mono ?_
        · match i, hi with
          | 0, _ => simp
          | 1, _ => simp
          | 2, _ => simp
        rintro e w1 ⟨rfl, rfl⟩
        go_wp2_with (first | (go_at_call 19; (with_reducible refine Calls.mono (G7.out _) ?_); rintro e w' ⟨rfl, rfl⟩) | (go_at_call 19; (with_reducible refine Calls.mono (G3.out _) ?_); rintro e w' ⟨rfl, rfl⟩))
        exact ⟨⟨n + 1, by omega, by omega, by go_num, Lib.hid (HB.out.alloc HB.out.size _)⟩, by simp [intOf]; omega⟩)
    · obtain rfl : n = 66 := by omega
      go_wp2_with (first | (go_at_call 26; (with_reducible refine Calls.mono (C0.out _) ?_); rintro e w' ⟨rfl, rfl⟩) | (go_at_call 23; (with_reducible refine Calls.mono (CA.out _) ?_); rintro e w' ⟨rfl, rfl⟩) | (go_at_call 24; (with_reducible refine Calls.mono (CO.out _) ?_); rintro e w' ⟨rfl, rfl⟩) | (go_at_call 24; (with_reducible refine Calls.mono (CU.out _) ?_); rintro e w' ⟨rfl, rfl⟩) | (go_at_call 25; (with_reducible refine Calls.mono (CL.out _) ?_); rintro e w' ⟨rfl, rfl⟩) | (go_at_call 21; (with_reducible refine Calls.mono (P1.out _) ?_); rintro e w' ⟨rfl, rfl⟩) | (go_at_call 21; (with_reducible refine Calls.mono (P2.out _) ?_); rintro e w' ⟨rfl, rfl⟩) | (go_at_call 21; (with_reducible refine Calls.mono (P3.out _) ?_); rintro e w' ⟨rfl, rfl⟩) | (go_at_call 21; (with_reducible refine Calls.mono (P4.out _) ?_); rintro e w' ⟨rfl, rfl⟩))
      with_reducible refine Calls.mono (C7.out _ ?_ ?_) ?_
      · exact tab_below HT.out hg HB.out
      · have := HB.out.size; omega
      rintro e w4 ⟨rfl, hb4⟩
      have HB4 := Lib.hid (HB.out.trans (hb4.mono HB.out.size))
      clear hb4
      go_wp2_with fail
      go_ret
      exact ⟨rfl, HB4.out⟩
end Go.Proofs.YtlecgedmdaenaaaDoor.Bits
