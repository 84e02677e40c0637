/- The walk of the law PickBest. -/
import Derived.Test.YtlecgedmdaenaaaDoorPure
import Derived.Test.YtlecgedmdaenaaaDoorOf
namespace Go.Proofs.YtlecgedmdaenaaaDoor.Bits
open Go.RowKit Go.Proofs.YtlecgedmdaenaaaDoor.K

theorem and63 (x : Int) : ∃ n : Nat, n < 64 ∧ bits .and .i64 x 63 = (n : Int) := by
  have h : (BitVec.ofInt 64 x &&& BitVec.ofInt 64 63).toNat ≤ 63 := by
    rw [BitVec.toNat_and]
    exact Nat.le_trans Nat.and_le_right (by decide)
  refine ⟨(BitVec.ofInt 64 x &&& BitVec.ofInt 64 63).toNat, by omega, ?_⟩
  show IntKind.i64.wrap ((BitVec.ofInt 64 x &&& BitVec.ofInt 64 63).toNat : Int) = _
  rw [IntKind.wrap_i64]; omega
theorem black (a b : Nat) (hb : Small b) : ∃ c : Nat, Small c ∧ bits .xor .u64 ((b : Int) / 128) (IntKind.u64.wrap ((a : Int) * 512)) = (c : Int) := by
  have hb := hb.lt
  have e1 : (b : Int) / 128 = ((b / 128 : Nat) : Int) := by omega
  have e2 : IntKind.u64.wrap ((a : Int) * 512) = ((a * 512 % 18446744073709551616 : Nat) : Int) := by rw [IntKind.wrap_u64]; omega
  rw [e1, e2]
  have h1 : b / 128 < 18446744073709551616 := by omega
  have h2 : a * 512 % 18446744073709551616 < 18446744073709551616 := by omega
  exact ⟨_, Nat.xor_lt_two_pow (n := 64) h1 h2, u64_xor_nat _ _ h1 h2⟩
theorem choose_two (W : World) (B M wd g t : Nat) (hM : Small M) (hgs : Small g) (h1 : wd ≤ pop M) (ht : chooseL M wd 0 [g, M] = t) (h0 : W.cell? ⟨B, 0, none⟩ = some (.int .u64 g)) (hT : Tab W) (hg : 0 < W.heap.size) :
    Calls Tryd.prog 9 #[.int .u64 M, .int .i64 wd, .slice (some ⟨B, 0, none⟩) 1 1] W fun e w' => e = .returned (.tuple #[.int .u64 t, .bool true]) ∧ Below W.heap.size W w' := by
  have h := choose_yes M wd (some ⟨B, 0, none⟩) 1 [g] hM (by omega) (by omega) (by intro z hz; simp at hz; rw [hz]; exact hgs) (by simp) (by simp) W
    (by simp) (fun b hb i hi => by
      cases hb
      match i, hi with
      | 0, _ => exact h0) hT hg
  rw [show [g] ++ [M] = [g, M] from rfl, ht] at h
  exact h

set_option maxHeartbeats 4000000 in
theorem pickBest_any (a b : Nat) (x2 : Int) (ha : Small a) (hb : Small b) (w : World) (hT : Tab w) (hg : 0 < w.heap.size) :
    Calls Tryd.prog 8 #[.int .u64 a, .int .u64 b, .int .i64 x2] w fun e w' => e = .returned (.bool true) ∧ Below w.heap.size w w' := by
  obtain ⟨c, hc, hX⟩ := black a b hb
  obtain ⟨wd, hwd, hY⟩ := and63 x2
  obtain ⟨g, hG⟩ : ∃ g : Nat, a / 8 = g := ⟨_, rfl⟩
  have hgs : Small g := by rw [← hG]; exact Nat.lt_of_le_of_lt (Nat.div_le_self _ _) ha
  have hZ : (a : Int) / 8 = (g : Int) := by omega
  obtain ⟨M, hM⟩ : ∃ M, less a (b ||| c) = M := ⟨_, rfl⟩
  have hMs : Small M := by rw [← hM]; exact less_small ha
  have CM := Lib.hid (fun W => (by have h := may_any a b c ha hb hc W; rw [hM] at h; exact h : Calls Tryd.prog 33 #[.int .u64 a, .int .u64 b, .int .u64 c] W fun e w' => e = .returned (.int .u64 M) ∧ Below W.heap.size W w'))
  have HH := Lib.hid (fun (n : Nat) (hn : n < 64) => (by have h := has_may ha hb hc hn; rw [hM] at h; exact h : has M (n : Int) = (has a (n : Int) && !has b (n : Int) && !has c (n : Int))))
  have C1 := Lib.hid (fun n W => has_any M n hMs W)
  have C2 := Lib.hid (fun n W => has_any a n ha W)
  have C3 := Lib.hid (fun n W => has_any b n hb W)
  have C4 := Lib.hid (fun n W => has_any c n hc W)
  have CO := Lib.hid (fun W => one20_any W)
  have CL := Lib.hid (fun W => len_any M hMs W)
  obtain ⟨p, hp⟩ : ∃ p, pop M = p := ⟨_, rfl⟩
  have CB := Lib.hid (fun W B t => choose_two W B M wd g t hMs hgs)
  have CN := Lib.hid (fun A n cap => choose_no M wd A n cap hMs)
  rw [hp] at CL CB CN
  have HT := Lib.hid hT
  have hbest := Lib.hid (fun h => best (M := M) (g := g) (wd := wd) hMs hgs h)
  rw [hp] at hbest
  have hMt := Lib.hid hMs
  have hgt := Lib.hid hgs
  clear hG hgs hM hMs ha hb hc hT hp
  go_enter Tryd.func8, Tryd.ntmps8
  go_wp2_with (go_at_call 33; (with_reducible refine Calls.mono (CM.out _) ?_); rintro e w1 ⟨rfl, hb1⟩; have HB1 := Lib.hid hb1; clear hb1)
  go_loop [9] (fun i => ∃ k : Nat, k ≤ 64 ∧ i = .int .i64 k) (fun i => 64 - (intOf i).toNat)
  case atStart => exact ⟨0, by omega, rfl⟩
  case round =>
    obtain ⟨k, hk, rfl⟩ := hrel
    by_cases hlt : k < 64
    · have hh := HH.out k hlt
      have D1 := Lib.hid (C1.out (k : Int))
      have D2 := Lib.hid (C2.out (k : Int))
      have D3 := Lib.hid (C3.out (k : Int))
      have D4 := Lib.hid (C4.out (k : Int))
      generalize has M (k : Int) = y1 at *
      generalize has a (k : Int) = y2 at *
      generalize has b (k : Int) = y3 at *
      generalize has c (k : Int) = y4 at *
      subst hh
      rcases y2 with _ | _ <;> rcases y3 with _ | _ <;> rcases y4 with _ | _ <;> (
        go_wp2_with (first | (go_at_call 19; (with_reducible refine Calls.mono (D1.out _) ?_); rintro e w' ⟨rfl, rfl⟩) | (go_at_call 19; (with_reducible refine Calls.mono (D2.out _) ?_); rintro e w' ⟨rfl, rfl⟩) | (go_at_call 19; (with_reducible refine Calls.mono (D3.out _) ?_); rintro e w' ⟨rfl, rfl⟩) | (go_at_call 19; (with_reducible refine Calls.mono (D4.out _) ?_); rintro e w' ⟨rfl, rfl⟩)))
      all_goals exact ⟨⟨k + 1, by omega, by go_num⟩, by simp [intOf]; omega⟩
    · obtain rfl : k = 64 := by omega
      clear hlt hk C1 C2 C3 C4 HH
      obtain ⟨t, ht⟩ : ∃ t, chooseL M wd 0 [g, M] = t := ⟨_, rfl⟩
      by_cases hle : (wd : Int) ≤ (p : Int)
      · have hb0 : decide ((wd : Int) ≤ (p : Int)) = true := decide_eq_true hle
        have hb1 : decide (wd ≤ p) = true := decide_eq_true (by omega)
        obtain ⟨ts, z1, z2, z3⟩ := hbest.out (by omega)
        have hcb := Lib.hid (fun W B => CB.out W B t (by omega) ht)
        rw [ht] at ts z1 z2 z3
        have E1 := Lib.hid (fun W => less_any t M ts hMt.out W)
        have E2 := Lib.hid (fun W => len_any t ts W)
        have E3 := Lib.hid (fun W => cost_any t g ts hgt.out W)
        have E4 := Lib.hid (fun W => and_any M g hMt.out hgt.out W)
        have E5 := Lib.hid (fun W => len_any (M &&& g) (and_small hMt.out) W)
        rw [z1] at E1
        rw [z2] at E2
        generalize pop (less t g) = q1 at *
        have q2le := pop_le (M &&& g)
        generalize pop (M &&& g) = q2 at *
        generalize M &&& g = q3 at *
        have hw64 : wrap64 ((wd : Int) - q2) = (wd : Int) - q2 := by have := q2le; unfold wrap64; omega
        have key : ((q2 : Int) < wd ∧ (q1 : Int) = (wd : Int) - q2) ∨ (¬ (q2 : Int) < wd ∧ q1 = 0) := by omega
        clear CN CB hbest ht hle ts z1 z2 z3
        rcases key with ⟨hq, hq1⟩ | ⟨hq, rfl⟩
        · have hq2 : (0 : Int) < (wd : Int) - q2 := by omega
          have hq3 : q2 < wd := by omega
          have hq4 : ((q1 : Int) == (wd : Int) - q2) = true := beq_iff_eq.mpr hq1
          go_wp2_with fail
          refine (hcb.out _ _ ?_ ?_ ?_).mono ?_
          · simp
          · exact tab_below HT.out hg (HB1.out.alloc HB1.out.size _)
          · simp
          rintro e w2 ⟨rfl, hb2⟩
          have HB2 := Lib.hid (show Below w.heap.size w w2 from (HB1.out.alloc HB1.out.size _).trans (hb2.mono (by have := HB1.out.size; simp; omega)))
          clear hb2
          go_wp2_with (first | (go_at_call 21; (with_reducible refine Calls.mono (CL.out _) ?_); rintro e w' ⟨rfl, rfl⟩) | (go_at_call 21; (with_reducible refine Calls.mono (E2.out _) ?_); rintro e w' ⟨rfl, rfl⟩) | (go_at_call 21; (with_reducible refine Calls.mono (E5.out _) ?_); rintro e w' ⟨rfl, rfl⟩) | (go_at_call 23; (with_reducible refine Calls.mono (E4.out _) ?_); rintro e w' ⟨rfl, rfl⟩) | (go_at_call 25; (with_reducible refine Calls.mono (E1.out _) ?_); rintro e w' ⟨rfl, rfl⟩) | (go_at_call 34; (with_reducible refine Calls.mono (E3.out _) ?_); rintro e w' ⟨rfl, rfl⟩))
          with_reducible refine Calls.mono (CO.out _ ?_ ?_) ?_
          · exact tab_below HT.out hg HB2.out
          · have := HB2.out.size; omega
          rintro e w3 ⟨rfl, hb3⟩
          have HB3 := Lib.hid (show Below w.heap.size w w3 from HB2.out.trans (hb3.mono (by have := HB2.out.size; omega)))
          clear hb3
          go_wp2_with fail
          go_ret
          exact ⟨rfl, HB3.out⟩
        · have hq2 : ¬ (0 : Int) < (wd : Int) - q2 := by omega
          have hq3 : ¬ q2 < wd := by omega
          go_wp2_with fail
          refine (hcb.out _ _ ?_ ?_ ?_).mono ?_
          · simp
          · exact tab_below HT.out hg (HB1.out.alloc HB1.out.size _)
          · simp
          rintro e w2 ⟨rfl, hb2⟩
          have HB2 := Lib.hid (show Below w.heap.size w w2 from (HB1.out.alloc HB1.out.size _).trans (hb2.mono (by have := HB1.out.size; simp; omega)))
          clear hb2
          go_wp2_with (first | (go_at_call 21; (with_reducible refine Calls.mono (CL.out _) ?_); rintro e w' ⟨rfl, rfl⟩) | (go_at_call 21; (with_reducible refine Calls.mono (E2.out _) ?_); rintro e w' ⟨rfl, rfl⟩) | (go_at_call 21; (with_reducible refine Calls.mono (E5.out _) ?_); rintro e w' ⟨rfl, rfl⟩) | (go_at_call 23; (with_reducible refine Calls.mono (E4.out _) ?_); rintro e w' ⟨rfl, rfl⟩) | (go_at_call 25; (with_reducible refine Calls.mono (E1.out _) ?_); rintro e w' ⟨rfl, rfl⟩) | (go_at_call 34; (with_reducible refine Calls.mono (E3.out _) ?_); rintro e w' ⟨rfl, rfl⟩))
          with_reducible refine Calls.mono (CO.out _ ?_ ?_) ?_
          · exact tab_below HT.out hg HB2.out
          · have := HB2.out.size; omega
          rintro e w3 ⟨rfl, hb3⟩
          have HB3 := Lib.hid (show Below w.heap.size w w3 from HB2.out.trans (hb3.mono (by have := HB2.out.size; omega)))
          clear hb3
          go_wp2_with fail
          go_ret
          exact ⟨rfl, HB3.out⟩
      · have hb0 : decide ((wd : Int) ≤ (p : Int)) = false := decide_eq_false hle
        have hb1 : decide (wd ≤ p) = false := decide_eq_false (by omega)
        have hn := Lib.hid (fun A n cap => CN.out A n cap (.inr (by omega)))
        clear CN CB hbest ht hle
        go_wp2_with (first | (go_at_call 9; (with_reducible refine Calls.mono (hn.out _ _ _ _) ?_); rintro e w2 ⟨rfl, rfl⟩) | (go_at_call 21; (with_reducible refine Calls.mono (CL.out _) ?_); rintro e w' ⟨rfl, rfl⟩))
        with_reducible refine Calls.mono (CO.out _ ?_ ?_) ?_
        · exact tab_below HT.out hg (HB1.out.alloc HB1.out.size _)
        · simp
        rintro e w2 ⟨rfl, hb2⟩
        have HB2 := Lib.hid (show Below w.heap.size w w2 from (HB1.out.alloc HB1.out.size _).trans (hb2.mono (by have := HB1.out.size; simp; omega)))
        clear hb2
        go_wp2_with fail
        go_ret
        exact ⟨rfl, HB2.out⟩
end Go.Proofs.YtlecgedmdaenaaaDoor.Bits
