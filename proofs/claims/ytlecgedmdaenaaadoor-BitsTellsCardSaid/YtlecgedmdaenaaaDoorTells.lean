/- The walk of the law BitsTells. -/
import Derived.Test.YtlecgedmdaenaaaDoorTRef
import Derived.Test.YtlecgedmdaenaaaDoorLists
import Derived.Test.YtlecgedmdaenaaaDoorOne7
namespace Go.Proofs.YtlecgedmdaenaaaDoor.Bits
open Go.RowKit Go.Proofs.YtlecgedmdaenaaaDoor.K

set_option maxHeartbeats 1000000 in
theorem same_any (A B : Option Addr) (cap cap' : Nat) (L : List Int) (hl : L.length ≤ 1000) (w : World) (hA : HoldsI w A L) (hB : HoldsI w B L) :
    Calls Tryd.prog 29 #[.slice A L.length cap, .slice B L.length cap'] w fun e w' => e = .returned (.bool true) ∧ Below w.heap.size w w' := by
  have HA := Lib.hid hA
  have HB := Lib.hid hB
  obtain ⟨n, hn⟩ : ∃ n, L.length = n := ⟨_, rfl⟩
  have HN := Lib.hid hn
  rw [hn] at hl ⊢
  have bne : ((n : Int) != (n : Int)) = false := by simp
  clear hA hB hn
  go_enter Tryd.func29, Tryd.ntmps29
  go_wp2
  go_loopw [5] (fun s5 wr => ∃ k : Nat, k ≤ n ∧ s5 = .int .i64 k ∧ Hid (Below w.heap.size w wr)) (fun s5 _ => n - (intOf s5).toNat)
  case atStart => exact ⟨0, by omega, rfl, Lib.hid (Below.refl _ _)⟩
  case round =>
    obtain ⟨k, hk, rfl, HBl⟩ := hrel
    by_cases hlt : k < n
    · have hkl : k < L.length := by rw [HN.out]; exact hlt
      rcases HA.out.keep HBl.out with h | ⟨b, off, hAe, hbl, hc⟩
      · rw [h] at hkl; simp at hkl
      rcases HB.out.keep HBl.out with h | ⟨b2, off2, hBe, hbl2, hc2⟩
      · rw [h] at hkl; simp at hkl
      subst hAe
      subst hBe
      have c1 := hc k hkl
      have c2 := hc2 k hkl
      generalize L[k] = x at *
      have bx : (x != x) = false := by simp
      clear hc hc2 hbl hbl2 hkl
      go_wp2_with fail
      go_quiet (fail)
      go_wp2_with fail
      go_roundw
      case rel => exact ⟨k + 1, by omega, by go_num, Lib.hid (below_drewN HBl.out nq)⟩
      case measure => simp [intOf]; omega
    · obtain rfl : k = n := by omega
      go_wp2
      go_ret
      exact ⟨rfl, HBl.out⟩

theorem head_low {x : Nat} (hx : Small x) : low x = if 0 < pop x then (ofL x).getD 0 0 else -1 := by
  by_cases h : x = 0
  · subst h; rw [pop_zero]; rfl
  · rw [if_pos (pop_pos hx h), ofL_ofLow hx h]; rfl
/-- What is taken is the set of the first nodes. -/
theorem take_first {x : Nat} (hx : Small x) (n : Int) : takeR n.toNat 0 x = mk ((ofL x).take n.toNat) := by rw [takeR_of _ _ _ hx, Nat.zero_or]
theorem Own.read2 {w : World} {B : Nat} {v : Value} {xs : List Int} (h : Own w B v xs) : ∃ A cap, v = .slice A xs.length cap ∧ HoldsI w A xs ∧ xs.length ≤ cap ∧ (A = none → cap = 0) := by
  obtain ⟨A, cap, hv, hh⟩ := h.read
  refine ⟨A, cap, hv, hh, ?_⟩
  rcases h.2 with ⟨h1, h2⟩ | ⟨g, cap', cur, h1, _, _, h3, _⟩
  · rw [hv] at h1; injection h1 with e1 e2 e3; exact ⟨by omega, fun _ => e3⟩
  · rw [hv] at h1; injection h1 with e1 e2 e3; exact ⟨by omega, fun h => by rw [h] at e1; cases e1⟩
theorem HoldsI.take {w : World} {A : Option Addr} {xs : List Int} (h : HoldsI w A xs) (m : Nat) : HoldsI w A (xs.take m) := by
  rcases h with h | ⟨b, off, rfl, hlt, hc⟩
  · exact .inl (by rw [h]; simp)
  · refine .inr ⟨b, off, rfl, hlt, fun i hi => ?_⟩
    rw [List.length_take] at hi
    rw [hc i (by omega)]
    simp

set_option maxHeartbeats 8000000 in
theorem tells_any (x : Nat) (n : Int) (hx : Small x) (hn1 : -9223372036854775808 ≤ n) (hn2 : n ≤ 9223372036854775807) (w : World) (hT : Tab w) (hg : 0 < w.heap.size) :
    Calls Tryd.prog 6 #[.int .u64 x, .int .i64 n] w fun e w' => e = .returned (.bool true) ∧ Below w.heap.size w w' := by
  obtain ⟨L, hL⟩ : ∃ L, ofL x = L := ⟨_, rfl⟩
  obtain ⟨p, hp⟩ : ∃ p, pop x = p := ⟨_, rfl⟩
  have hlp : L.length = p := by rw [← hL, ofL_len, hp]
  have hp64 : p ≤ 64 := by rw [← hp]; exact pop_le x
  have CF := Lib.hid (fun W => of_any x hx W)
  rw [hL] at CF
  have hlo := head_low hx
  rw [hL, hp] at hlo
  have HX := Lib.hid hx
  have HT := Lib.hid hT
  have HLE := Lib.hid (And.intro hL (And.intro hp hlp))
  have CLo := Lib.hid (fun W (hW : Tab W) => lowest_any x hx W hW)
  have CLi := Lib.hid (fun W (h1 : Tab W) (h2 : 0 < W.heap.size) => listed_any x hx W h1 h2)
  rw [hL] at CLi
  have CTx := Lib.hid (fun W (h1 : Tab W) (h2 : 0 < W.heap.size) => text_call x hx W h1 h2)
  have CTr := Lib.hid (fun W A cap (h : HoldsI W A L) => (by have h := rtext_any A cap L (by rw [← hL]; exact ofL_sorted x) (fun y hy => ofL_mem (by rw [hL]; exact hy)) (by omega) W h; rw [hlp] at h; rw [show textR L = textC x by rw [← hL]; exact text_eq hx] at h; exact h : Calls Tryd.prog 32 #[.slice A p cap] W fun e w' => e = .returned (.string (textC x)) ∧ Below W.heap.size W w'))
  have CSm := Lib.hid (fun W A B c c' (h1 : HoldsI W A L) (h2 : HoldsI W B L) => (by have h := same_any A B c c' L (by omega) W h1 h2; rw [hlp] at h; exact h : Calls Tryd.prog 29 #[.slice A p c, .slice B p c'] W fun e w' => e = .returned (.bool true) ∧ Below W.heap.size W w'))
  have CO := Lib.hid (fun W (hTW : Tab W) (hgW : 0 < W.heap.size) => one7_any W hTW hgW)
  have CNo := Lib.hid (fun W (h : (pop x : Int) < n) => take_no x n hx h W)
  have CYe := Lib.hid (fun W (h : n ≤ (pop x : Int)) (hW : Tab W) => take_yes x n hx h W hW)
  rw [hp] at CNo CYe
  have htk := take_first hx n
  rw [htk, hL] at CYe
  generalize textC x = tx at *
  obtain ⟨lo, hlo2⟩ : ∃ lo, low x = lo := ⟨_, rfl⟩
  rw [hlo2] at hlo CLo
  have HLo := Lib.hid hlo
  clear hx hT hL hp hlp htk hlo hlo2
  have b13 : decide ((0 : Int) < (p : Int)) = decide (0 < p) := by rw [decide_eq_decide]; omega
  go_enter Tryd.func6, Tryd.ntmps6
  go_upto_if 13 with (go_at_call 12; (with_reducible refine Calls.mono (CF.out _) ?_); rintro e w1 ⟨v1, rfl, ho1, hb1⟩; obtain ⟨A1, cap1, hv1, hh1, hcp, hcn⟩ := ho1.read2; rw [HLE.out.2.2] at hv1 hcp; subst hv1; have HH1 := Lib.hid hh1; have HB1 := Lib.hid hb1; have HCN := Lib.hid hcn; clear ho1 hb1 hh1 hcn)
  go_cut [6] (fun s6 wx => s6 = .int .i64 lo ∧ w1 = wx)
  case first =>
    clear b13
    by_cases h0 : 0 < p
    · have hl := HLo.out
      rw [if_pos h0] at hl
      have h0l : 0 < L.length := by rw [HLE.out.2.2]; exact h0
      rcases HH1.out with h | ⟨b, off, hA, hbl, hc⟩
      · rw [h] at h0l; simp at h0l
      subst hA
      have hc0 := hc 0 h0l
      have e0 : L[0] = lo := by rw [hl]; simp [List.getD, List.getElem?_eq_getElem h0l]
      rw [e0] at hc0
      rw [Nat.add_zero] at hc0
      have h0' : 0 < p := h0
      clear hc e0 hl hbl h0l
      go_wp2_with fail
      go_meet
      exact ⟨rfl, rfl⟩
    · obtain rfl : p = 0 := by omega
      have hl := HLo.out
      rw [if_neg (by omega)] at hl
      subst hl
      go_wp2_with fail
      go_meet
      exact ⟨rfl, rfl⟩
  case rest =>
    obtain ⟨rfl, rfl⟩ := hcut
    by_cases hle : n ≤ (p : Int)
    · have hd : decide ((p : Int) < n) = false := decide_eq_false (by omega)
      have C27 := Lib.hid (fun W hW => CYe.out W hle hW)
      have htn : (L.take n.toNat).length = n.toNat := by rw [List.length_take, HLE.out.2.2]; omega
      have CS := Lib.hid (fun W (hW : HoldsI W A1 L) => lset_any A1 cap1 (L.take n.toNat) (by rw [← HLE.out.1]; exact (ofL_nodes x).take _) (by omega) W (hW.take _))
      rw [htn] at CS
      have hcpn : n.toNat ≤ cap1 := by omega
      generalize mk (L.take n.toNat) = tk at *
      clear htn CNo CYe
      by_cases hn0 : n < 0
      · rw [show n.toNat = 0 by omega] at CS
        have hd0 : decide ((0 : Int) < n) = false := decide_eq_false (by omega)
        have hd1 : decide (n < 0) = true := decide_eq_true hn0
        go_wp2_with (first | (go_at_call 27; (with_reducible refine Calls.mono (C27.out _ ?_) ?_); (· exact tab_below HT.out hg HB1.out); rintro e w' ⟨rfl, rfl⟩) | (go_at_call 15; (with_reducible refine Calls.mono (CS.out _ ?_) ?_); (· exact HH1.out); rintro e w' ⟨rfl, rfl⟩) | (go_at_call 28; (with_reducible refine Calls.mono (CLo.out _ ?_) ?_); (· exact tab_below HT.out hg HB1.out); rintro e w' ⟨rfl, rfl⟩) | (go_at_call 30; (with_reducible refine Calls.mono (CLi.out _ ?_ ?_) ?_); (· exact tab_below HT.out hg HB1.out); (· have := HB1.out.size; omega); rintro e w2 ⟨v2, rfl, ho2, hb2⟩; obtain ⟨A2, cap2, hv2, hh2⟩ := ho2.read; rw [HLE.out.2.2] at hv2; subst hv2; have P2 := Lib.hid hh2; have P1 := Lib.hid (HH1.out.keep hb2); have HB2 := Lib.hid (HB1.out.trans (hb2.mono HB1.out.size)); clear ho2 hb2 hh2) | (go_at_call 29; (with_reducible refine Calls.mono (CSm.out _ _ _ _ _ ?_ ?_) ?_); (· exact P2.out); (· exact P1.out); rintro e w3 ⟨rfl, hb3⟩; have Q1 := Lib.hid (P1.out.keep hb3); have HB3 := Lib.hid (HB2.out.trans (hb3.mono HB2.out.size)); clear hb3) | (go_at_call 31; (with_reducible refine Calls.mono (CTx.out _ ?_ ?_) ?_); (· exact tab_below HT.out hg HB3.out); (· have := HB3.out.size; omega); rintro e w4 ⟨rfl, hb4⟩; have R1 := Lib.hid (Q1.out.keep hb4); have HB4 := Lib.hid (HB3.out.trans (hb4.mono HB3.out.size)); clear hb4) | (go_at_call 32; (with_reducible refine Calls.mono (CTr.out _ _ _ ?_) ?_); (· exact R1.out); rintro e w5 ⟨rfl, hb5⟩; have HB5 := Lib.hid (HB4.out.trans (hb5.mono HB4.out.size)); clear hb5))
        with_reducible refine Calls.mono (CO.out _ ?_ ?_) ?_
        · exact tab_below HT.out hg HB5.out
        · have := HB5.out.size; omega
        rintro e w6 ⟨rfl, hb6⟩
        have HB6 := Lib.hid (HB5.out.trans (hb6.mono HB5.out.size))
        clear hb6
        go_wp2_with fail
        go_ret
        exact ⟨rfl, HB6.out⟩
      · obtain ⟨m, rfl⟩ := Int.eq_ofNat_of_zero_le (show 0 ≤ n by omega)
        rw [show ((m : Int)).toNat = m by omega] at CS hcpn
        have hd1 : decide ((m : Int) < 0) = false := decide_eq_false (by omega)
        have hmp : m ≤ p := by omega
        by_cases hm0 : 0 < m
        · have hd0 : decide ((0 : Int) < (m : Int)) = true := decide_eq_true (by omega)
          go_wp2_with (first | (go_at_call 27; (with_reducible refine Calls.mono (C27.out _ ?_) ?_); (· exact tab_below HT.out hg HB1.out); rintro e w' ⟨rfl, rfl⟩) | (go_at_call 15; (with_reducible refine Calls.mono (CS.out _ ?_) ?_); (· exact HH1.out); rintro e w' ⟨rfl, rfl⟩) | (go_at_call 28; (with_reducible refine Calls.mono (CLo.out _ ?_) ?_); (· exact tab_below HT.out hg HB1.out); rintro e w' ⟨rfl, rfl⟩) | (go_at_call 30; (with_reducible refine Calls.mono (CLi.out _ ?_ ?_) ?_); (· exact tab_below HT.out hg HB1.out); (· have := HB1.out.size; omega); rintro e w2 ⟨v2, rfl, ho2, hb2⟩; obtain ⟨A2, cap2, hv2, hh2⟩ := ho2.read; rw [HLE.out.2.2] at hv2; subst hv2; have P2 := Lib.hid hh2; have P1 := Lib.hid (HH1.out.keep hb2); have HB2 := Lib.hid (HB1.out.trans (hb2.mono HB1.out.size)); clear ho2 hb2 hh2) | (go_at_call 29; (with_reducible refine Calls.mono (CSm.out _ _ _ _ _ ?_ ?_) ?_); (· exact P2.out); (· exact P1.out); rintro e w3 ⟨rfl, hb3⟩; have Q1 := Lib.hid (P1.out.keep hb3); have HB3 := Lib.hid (HB2.out.trans (hb3.mono HB2.out.size)); clear hb3) | (go_at_call 31; (with_reducible refine Calls.mono (CTx.out _ ?_ ?_) ?_); (· exact tab_below HT.out hg HB3.out); (· have := HB3.out.size; omega); rintro e w4 ⟨rfl, hb4⟩; have R1 := Lib.hid (Q1.out.keep hb4); have HB4 := Lib.hid (HB3.out.trans (hb4.mono HB3.out.size)); clear hb4) | (go_at_call 32; (with_reducible refine Calls.mono (CTr.out _ _ _ ?_) ?_); (· exact R1.out); rintro e w5 ⟨rfl, hb5⟩; have HB5 := Lib.hid (HB4.out.trans (hb5.mono HB4.out.size)); clear hb5))
          with_reducible refine Calls.mono (CO.out _ ?_ ?_) ?_
          · exact tab_below HT.out hg HB5.out
          · have := HB5.out.size; omega
          rintro e w6 ⟨rfl, hb6⟩
          have HB6 := Lib.hid (HB5.out.trans (hb6.mono HB5.out.size))
          clear hb6
          go_wp2_with fail
          go_ret
          exact ⟨rfl, HB6.out⟩
        · obtain rfl : m = 0 := by omega
          go_wp2_with (first | (go_at_call 27; (with_reducible refine Calls.mono (C27.out _ ?_) ?_); (· exact tab_below HT.out hg HB1.out); rintro e w' ⟨rfl, rfl⟩) | (go_at_call 15; (with_reducible refine Calls.mono (CS.out _ ?_) ?_); (· exact HH1.out); rintro e w' ⟨rfl, rfl⟩) | (go_at_call 28; (with_reducible refine Calls.mono (CLo.out _ ?_) ?_); (· exact tab_below HT.out hg HB1.out); rintro e w' ⟨rfl, rfl⟩) | (go_at_call 30; (with_reducible refine Calls.mono (CLi.out _ ?_ ?_) ?_); (· exact tab_below HT.out hg HB1.out); (· have := HB1.out.size; omega); rintro e w2 ⟨v2, rfl, ho2, hb2⟩; obtain ⟨A2, cap2, hv2, hh2⟩ := ho2.read; rw [HLE.out.2.2] at hv2; subst hv2; have P2 := Lib.hid hh2; have P1 := Lib.hid (HH1.out.keep hb2); have HB2 := Lib.hid (HB1.out.trans (hb2.mono HB1.out.size)); clear ho2 hb2 hh2) | (go_at_call 29; (with_reducible refine Calls.mono (CSm.out _ _ _ _ _ ?_ ?_) ?_); (· exact P2.out); (· exact P1.out); rintro e w3 ⟨rfl, hb3⟩; have Q1 := Lib.hid (P1.out.keep hb3); have HB3 := Lib.hid (HB2.out.trans (hb3.mono HB2.out.size)); clear hb3) | (go_at_call 31; (with_reducible refine Calls.mono (CTx.out _ ?_ ?_) ?_); (· exact tab_below HT.out hg HB3.out); (· have := HB3.out.size; omega); rintro e w4 ⟨rfl, hb4⟩; have R1 := Lib.hid (Q1.out.keep hb4); have HB4 := Lib.hid (HB3.out.trans (hb4.mono HB3.out.size)); clear hb4) | (go_at_call 32; (with_reducible refine Calls.mono (CTr.out _ _ _ ?_) ?_); (· exact R1.out); rintro e w5 ⟨rfl, hb5⟩; have HB5 := Lib.hid (HB4.out.trans (hb5.mono HB4.out.size)); clear hb5))
          with_reducible refine Calls.mono (CO.out _ ?_ ?_) ?_
          · exact tab_below HT.out hg HB5.out
          · have := HB5.out.size; omega
          rintro e w6 ⟨rfl, hb6⟩
          have HB6 := Lib.hid (HB5.out.trans (hb6.mono HB5.out.size))
          clear hb6
          go_wp2_with fail
          go_ret
          exact ⟨rfl, HB6.out⟩
    · have hd : decide ((p : Int) < n) = true := decide_eq_true (by omega)
      have C27 := Lib.hid (fun W => CNo.out W (by omega))
      clear CNo CYe
      go_wp2_with (first | (go_at_call 27; (with_reducible refine Calls.mono (C27.out _) ?_); rintro e w' ⟨rfl, rfl⟩) | (go_at_call 28; (with_reducible refine Calls.mono (CLo.out _ ?_) ?_); (· exact tab_below HT.out hg HB1.out); rintro e w' ⟨rfl, rfl⟩) | (go_at_call 30; (with_reducible refine Calls.mono (CLi.out _ ?_ ?_) ?_); (· exact tab_below HT.out hg HB1.out); (· have := HB1.out.size; omega); rintro e w2 ⟨v2, rfl, ho2, hb2⟩; obtain ⟨A2, cap2, hv2, hh2⟩ := ho2.read; rw [HLE.out.2.2] at hv2; subst hv2; have P2 := Lib.hid hh2; have P1 := Lib.hid (HH1.out.keep hb2); have HB2 := Lib.hid (HB1.out.trans (hb2.mono HB1.out.size)); clear ho2 hb2 hh2) | (go_at_call 29; (with_reducible refine Calls.mono (CSm.out _ _ _ _ _ ?_ ?_) ?_); (· exact P2.out); (· exact P1.out); rintro e w3 ⟨rfl, hb3⟩; have Q1 := Lib.hid (P1.out.keep hb3); have HB3 := Lib.hid (HB2.out.trans (hb3.mono HB2.out.size)); clear hb3) | (go_at_call 31; (with_reducible refine Calls.mono (CTx.out _ ?_ ?_) ?_); (· exact tab_below HT.out hg HB3.out); (· have := HB3.out.size; omega); rintro e w4 ⟨rfl, hb4⟩; have R1 := Lib.hid (Q1.out.keep hb4); have HB4 := Lib.hid (HB3.out.trans (hb4.mono HB3.out.size)); clear hb4) | (go_at_call 32; (with_reducible refine Calls.mono (CTr.out _ _ _ ?_) ?_); (· exact R1.out); rintro e w5 ⟨rfl, hb5⟩; have HB5 := Lib.hid (HB4.out.trans (hb5.mono HB4.out.size)); clear hb5))
      with_reducible refine Calls.mono (CO.out _ ?_ ?_) ?_
      · exact tab_below HT.out hg HB5.out
      · have := HB5.out.size; omega
      rintro e w6 ⟨rfl, hb6⟩
      have HB6 := Lib.hid (HB5.out.trans (hb6.mono HB5.out.size))
      clear hb6
      go_wp2_with fail
      go_ret
      exact ⟨rfl, HB6.out⟩
end Go.Proofs.YtlecgedmdaenaaaDoor.Bits
