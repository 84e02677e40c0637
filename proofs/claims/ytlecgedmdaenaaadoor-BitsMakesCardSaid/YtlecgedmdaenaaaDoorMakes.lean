/- The walk of the law BitsMakes. -/
import Derived.Test.YtlecgedmdaenaaaDoorMade
import Derived.Test.YtlecgedmdaenaaaDoorSets
namespace Go.Proofs.YtlecgedmdaenaaaDoor.Bits
open Go.RowKit Go.Proofs.YtlecgedmdaenaaaDoor.K

def rangeL (m : Nat) : List Int := (List.range m).map (fun i : Nat => (i : Int))
theorem rangeL_succ (m : Nat) : rangeL (m + 1) = rangeL m ++ [(m : Int)] := by unfold rangeL; rw [List.range_succ]; simp
theorem rangeL_len (m : Nat) : (rangeL m).length = m := by simp [rangeL]
theorem rangeL_nodes {m : Nat} (h : m ≤ 64) : Nodes (rangeL m) := by
  constructor
  · exact List.Pairwise.map _ (fun a b h e => h (by omega)) List.nodup_range
  · intro x hx
    obtain ⟨i, hi, rfl⟩ := List.mem_map.1 hx
    rw [List.mem_range] at hi
    omega
theorem firstN_range (n : Int) : firstN n = mk (rangeL (min 64 n.toNat)) := ext fun i => by
  rw [mk_iff_any]
  have hm : ((i : Int) ∈ rangeL (min 64 n.toNat)) ↔ i < min 64 n.toNat := by
    unfold rangeL
    rw [List.mem_map]
    constructor
    · rintro ⟨j, hj, e⟩; rw [List.mem_range] at hj; omega
    · exact fun h => ⟨i, List.mem_range.2 h, rfl⟩
  rw [hm]
  unfold firstN tb
  split
  · simp; omega
  · split
    · rw [Nat.testBit_two_pow_sub_one]; simp; omega
    · rw [Nat.testBit_two_pow_sub_one]; simp; omega
/-- The nodes but one. -/
def notN (l : List Int) (n : Int) : List Int := l.filter (fun y => decide (y ≠ n))
theorem notN_snoc (l : List Int) (y n : Int) : notN (l ++ [y]) n = if y = n then notN l n else notN l n ++ [y] := by
  unfold notN
  rw [List.filter_append]
  by_cases h : y = n <;> simp [h]
theorem notN_len (l : List Int) (n : Int) : (notN l n).length ≤ l.length := List.length_filter_le _ _
theorem notN_ofL {x : Nat} (hx : Small x) (n : Int) : notN (ofL x) n = ofL (less x (bitN n)) := by
  refine ofL_sub _ fun i hi => ?_
  rw [tb_less hx (bitN_small _), tb_bitN_any]
  simp only [ne_eq, decide_not, Bool.not_eq_true', decide_eq_false_iff_not]
  constructor
  · rintro ⟨h, h'⟩; exact ⟨h, fun e => h' ⟨hi, e.symm⟩⟩
  · rintro ⟨h, h'⟩; exact ⟨h, fun e => h' e.2.symm⟩
theorem has_inL {x : Nat} (n : Int) : has x n = inL (ofL x) n := by
  by_cases h : 0 ≤ n ∧ n < 64
  · obtain ⟨m, rfl⟩ := Int.eq_ofNat_of_zero_le h.1
    rw [Bool.eq_iff_iff, has_iff (by omega), inL_iff, ofL_cast (by omega)]
  · rw [has_out h, eq_comm, Bool.eq_false_iff, ne_eq, inL_iff]
    exact fun hm => h (ofL_mem hm)
theorem mk_with {x : Nat} (hx : Small x) (n : Int) : mk (ofL x ++ [n]) = x ||| bitN n := by rw [mk_snoc, mk_ofL hx]

set_option maxRecDepth 100000 in
set_option maxHeartbeats 8000000 in
theorem makes_any (x : Nat) (A : Option Addr) (cap : Nat) (zs : List Int) (n : Int) (hx : Small x) (hlen : zs.length ≤ 9223372036854775807) (hcap : zs.length ≤ cap) (w : World)
    (hA : A = none → zs.length = 0) (hH : HoldsI w A zs) (hT : Tab w) (hg : 0 < w.heap.size) :
    Calls Tryd.prog 4 #[.int .u64 x, .slice A zs.length cap, .int .i64 n] w fun e w' => e = .returned (.bool true) ∧ Below w.heap.size w w' := by
  obtain ⟨ys, hys⟩ : ∃ ys, zs.take 200 = ys := ⟨_, rfl⟩
  obtain ⟨m, hm⟩ : ∃ m, ys.length = m := ⟨_, rfl⟩
  have hm200 : m ≤ 200 := by rw [← hm, ← hys, List.length_take]; omega
  have hyH : HoldsI w A ys := by
    rcases hH with h | ⟨b, off, rfl, hlt, hc⟩
    · exact .inl (by rw [← hys, h]; rfl)
    · refine .inr ⟨b, off, rfl, hlt, fun i hi => ?_⟩
      subst hys
      rw [List.length_take] at hi
      rw [hc i (by omega)]
      simp
  have hmc : m ≤ cap := by rw [← hm, ← hys, List.length_take]; omega
  obtain ⟨len, hl⟩ : ∃ len, zs.length = len := ⟨_, rfl⟩
  have hml : (200 < len → m = 200) ∧ (len ≤ 200 → m = len) := by
    rw [← hm, ← hys, List.length_take, hl]; omega
  rw [hl] at hlen hcap ⊢
  have HM := Lib.hid hml
  have HH := Lib.hid hyH
  have HY := Lib.hid hm
  have HX := Lib.hid hx
  have HT := Lib.hid hT
  have HL := Lib.hid (show A = none → len = 0 by rw [← hl]; exact fun h => hA h)
  clear hys hm hyH hl hml hA hH hx hT
  obtain ⟨i0, hi, hz0, hz1, hz2⟩ := info_parts info3
  have bl : decide ((200 : Int) < (len : Int)) = decide (200 < len) := by rw [decide_eq_decide]; omega
  go_enter Tryd.func4, Tryd.ntmps4
  go_upto_if 15 with fail
  go_cut [1] (fun s1 wx => s1 = .slice A m cap ∧ w = wx)
  case first =>
    clear bl
    by_cases h6 : 200 < len
    · cases A with
      | none => have := HL.out rfl; omega
      | some a =>
        obtain rfl : m = 200 := HM.out.1 h6
        go_wp2_with fail
        go_meet
        exact ⟨rfl, rfl⟩
    · obtain rfl : m = len := HM.out.2 (by omega)
      go_wp2_with fail
      go_meet
      exact ⟨rfl, rfl⟩
  case rest =>
    obtain ⟨rfl, rfl⟩ := hcut
    obtain ⟨L, hL⟩ : ∃ L, ofL x = L := ⟨_, rfl⟩
    have CF := Lib.hid (fun W => of_any x HX.out W)
    rw [hL] at CF
    have hpl := pop_le x
    obtain ⟨p, hp⟩ : ∃ p, pop x = p := ⟨_, rfl⟩
    rw [hp] at hpl
    have hLl : L.length = p := by rw [← hL, ofL_len, hp]
    have HP := Lib.hid hp
    have HLE := Lib.hid (And.intro hL hLl)
    clear hL hLl bl hp
    go_wp2_with (first | (go_at_call 12; (with_reducible refine Calls.mono (CF.out _) ?_); rintro e w1 ⟨v1, rfl, ho1, hb1⟩; obtain ⟨A1, cap1, hv1, hh1⟩ := ho1.read; rw [HLE.out.2] at hv1; subst hv1; have HO1 := Lib.hid ho1; have HH1 := Lib.hid hh1; have HB1 := Lib.hid hb1; clear ho1 hb1 hh1) | (at_builtin; refine wpList_append_list rfl _ _ rfl w1.heap.size w.heap.size _ _ [] L rfl rfl (World.ownsRow_lit w1 #[] 0 (Nat.le_refl _) (by unfold maxLen; omega) (by simp)) (World.ownsRow.alloc HO1.out _) (by simp) (by have := HLE.out.2; omega) (by simp) ?_; intro v2 w2 ho2 hg2; rw [List.nil_append] at ho2; have HO2 := Lib.hid ho2; have HB2 := Lib.hid (show Below w1.heap.size w1 w2 from (((Below.refl _ w1).alloc (Nat.le_refl _) _).grown hg2 (by simp) (fun k e => by cases e; exact Nat.le_refl _))); clear ho2 hg2) | (at_builtin; refine wpList_append_own _ rfl _ _ 32 rfl w1.heap.size 3 i0 (.int .i64 0) 1 8 Tryd.underlying32 hi hz0 hz1 hz2 rfl (by decide) v2 L.length _ rfl (World.ownsRow.alloc HO2.out _) ⟨w2.heap.size, 0, none⟩ 1 1 [.int .i64 n] rfl rfl (cell_one_new _ _ _) (by simp [Value.oneCell']) (by have := HLE.out.2; unfold maxLen; omega) (by have := HLE.out.2; omega) (by have := HB2.out.size; simp; omega) ?_; intro v3 w3 ho3 hg3 _; have HO3 := Lib.hid (show Own w3 w1.heap.size v3 (L ++ [n]) by unfold Own; rw [List.length_append, List.map_append]; exact ho3); have HB3 := Lib.hid (show Below w1.heap.size w1 w3 from (HB2.out.alloc HB2.out.size _).grown hg3 (by have := HB2.out.size; simp; omega) HO2.out.low); clear ho3 hg3))
    obtain ⟨A3, cap3, hv3, hh3⟩ := HO3.out.read
    have hl3 : (L ++ [n]).length = p + 1 := by rw [List.length_append, HLE.out.2]; rfl
    rw [hl3] at hv3
    subst hv3
    have HH3 := Lib.hid hh3
    have HO1' := Lib.hid (HH1.out.keep HB3.out)
    have HY3 := Lib.hid ((HH.out.keep HB1.out).keep HB3.out)
    have HW3 := Lib.hid (HB1.out.trans (HB3.out.mono HB1.out.size))
    have HL3 := Lib.hid hl3
    clear hh3 hl3 HB3 HB2 HO2 HO1 HO3
    go_loopw [9, 10] (fun v i wr => ∃ (k : Nat), k ≤ p ∧ i = .int .i64 k ∧ Hid (Own wr w3.heap.size v (notN (L.take k) n)) ∧ Hid (Below w3.heap.size w3 wr)) (fun _ i _ => p - (intOf i).toNat)
    case atStart => exact ⟨0, by omega, rfl, Lib.hid (World.ownsRow_nil _ _ _ _), Lib.hid (Below.refl _ _)⟩
    case round =>
      obtain ⟨k, hk, rfl, HO, HB⟩ := hrel
      by_cases hlt : k < p
      · have hkl : k < L.length := by rw [HLE.out.2]; exact hlt
        rcases HO1'.out.keep HB.out with h | ⟨b, off, hA, hbl, hc⟩
        · rw [h] at hkl; simp at hkl
        subst hA
        have hcell := hc k hkl
        have hs : L.take (k + 1) = L.take k ++ [L[k]] := List.take_succ_eq_append_getElem hkl
        have hns := notN_snoc (L.take k) L[k] n
        rw [← hs] at hns
        have hnl := notN_len (L.take k) n
        rw [List.length_take] at hnl
        by_cases he : L[k] = n
        · have b0 : (L[k] != n) = false := by simp [he]
          rw [if_pos he] at hns
          generalize L[k] = y at *
          have HS := Lib.hid hns
          clear hns hs hc hbl hkl he
          go_wp2_with fail
          exact ⟨⟨k + 1, by omega, by first | rfl | go_num, Lib.hid (by rw [HS.out]; exact HO.out), HB⟩, by simp [intOf]; omega⟩
        · have b0 : (L[k] != n) = true := by simp [he]
          rw [if_neg he] at hns
          generalize L[k] = y at *
          have HS := Lib.hid hns
          generalize notN (L.take k) n = pre at *
          obtain ⟨q, hq⟩ : ∃ q, pre.length = q := ⟨_, rfl⟩
          have HW := HO.out
          unfold Own at HW
          rw [hq] at HW hnl
          have HO2 := Lib.hid HW
          have HQ := Lib.hid hq
          have hq64 : q ≤ 64 := by omega
          clear hns hs hc hbl hkl he hq HW hnl
          go_wp2_with (at_builtin; refine wpList_append_own _ rfl _ _ 32 rfl w3.heap.size 3 i0 (.int .i64 0) 1 8 Tryd.underlying32 hi hz0 hz1 hz2 rfl (by decide) _ _ _ rfl (World.ownsRow.alloc HO2.out _) ⟨wr.heap.size, 0, none⟩ 1 1 [.int .i64 y] rfl rfl (cell_one_new _ _ _) (by simp [Value.oneCell']) (by unfold maxLen; omega) (by omega) (by have := HB.out.size; simp; omega) ?_; intro v' w5 hown hgrow _)
          refine ⟨⟨k + 1, by omega, by first | rfl | go_num, Lib.hid ?_, Lib.hid ?_⟩, ?_⟩
          · rw [HS.out]; unfold Own; simp only [List.length_append, List.length_cons, List.length_nil, List.map_append, List.map_cons, List.map_nil, HQ.out]; exact hown
          · exact (HB.out.alloc HB.out.size _).grown hgrow (by have := HB.out.size; simp; omega) HO.out.low
          · simp [intOf]; omega
      · obtain rfl : p = k := by omega
        clear hlt hk
        have ho := HO.out
        rw [List.take_of_length_le (by rw [HLE.out.2]; omega)] at ho
        obtain ⟨A4, cap4, rfl, hh4⟩ := ho.read
        have hn4 : (notN L n).length ≤ 64 := by have := notN_len L n; rw [HLE.out.2] at this; omega
        have hN4 : Nodes (notN L n) := ⟨by rw [← HLE.out.1]; exact (ofL_nodup x).sublist List.filter_sublist, fun y hy => by rw [← HLE.out.1] at hy; exact ofL_mem (List.mem_filter.1 hy).1⟩
        have hM4 : mk (notN L n) = less x (bitN n) := by rw [← HLE.out.1, notN_ofL HX.out, mk_ofL (less_small HX.out)]
        have HM4 := Lib.hid (And.intro hN4 hM4)
        generalize notN L n = N4 at *
        obtain ⟨q4, hq4⟩ : ∃ q4, N4.length = q4 := ⟨_, rfl⟩
        rw [hq4] at hn4 ⊢
        have HQ4 := Lib.hid hq4
        obtain ⟨w4, rfl⟩ : ∃ w4, w4 = wr := ⟨_, rfl⟩
        have K1 := Lib.hid (HO1'.out.keep HB.out)
        have K3 := Lib.hid (HH3.out.keep HB.out)
        have KY := Lib.hid (HY3.out.keep HB.out)
        have KW := Lib.hid (HW3.out.trans (HB.out.mono HW3.out.size))
        have K4 := Lib.hid hh4
        clear hN4 hM4 hq4 ho hh4 HO HB HO1' HH3 HY3 HW3 HH1 HB1
        go_wp2_with fail
        go_loopw [11, 12] (fun v i wr => ∃ (k : Nat), k ≤ 64 ∧ ((k : Int) ≤ n ∨ k = 0) ∧ i = .int .i64 k ∧ Hid (Own wr w4.heap.size v (rangeL k)) ∧ Hid (Below w4.heap.size w4 wr)) (fun _ i _ => 64 - (intOf i).toNat)
        case atStart => exact ⟨0, by omega, .inr rfl, rfl, Lib.hid (World.ownsRow_nil _ _ _ _), Lib.hid (Below.refl _ _)⟩
        case round =>
          obtain ⟨k, hk, hkn, rfl, HO, HB⟩ := hrel
          by_cases hlt : k < 64 ∧ (k : Int) < n
          · obtain ⟨h1, h2⟩ := hlt
            have HW := HO.out
            unfold Own at HW
            rw [rangeL_len] at HW
            have HO2 := Lib.hid HW
            have HS := Lib.hid (And.intro (rangeL_succ k) (rangeL_len k))
            generalize rangeL k = pre at *
            clear HW hkn
            go_wp2_with (at_builtin; refine wpList_append_own _ rfl _ _ 32 rfl w4.heap.size 3 i0 (.int .i64 0) 1 8 Tryd.underlying32 hi hz0 hz1 hz2 rfl (by decide) _ _ _ rfl (World.ownsRow.alloc HO2.out _) ⟨wr.heap.size, 0, none⟩ 1 1 [.int .i64 (k : Int)] rfl rfl (cell_one_new _ _ _) (by simp [Value.oneCell']) (by unfold maxLen; omega) (by omega) (by have := HB.out.size; simp; omega) ?_; intro v' w5 hown hgrow _)
            refine ⟨⟨k + 1, by omega, .inl (by omega), by first | rfl | go_num, Lib.hid ?_, Lib.hid ?_⟩, ?_⟩
            · rw [HS.out.1]; unfold Own; simp only [List.length_append, List.length_cons, List.length_nil, List.map_append, List.map_cons, List.map_nil, HS.out.2]; exact hown
            · exact (HB.out.alloc HB.out.size _).grown hgrow (by have := HB.out.size; simp; omega) HO.out.low
            · simp [intOf]; omega
          · have hke : k = min 64 n.toNat := by omega
            obtain ⟨A5, cap5, hv5, hh5⟩ := HO.out.read
            rw [rangeL_len] at hv5
            subst hv5
            have hM5 : mk (rangeL k) = firstN n := by rw [hke, firstN_range]
            have hN5 := rangeL_nodes hk
            have hl5 := rangeL_len k
            generalize rangeL k = R5 at *
            have K5 := Lib.hid hh5
            have J1 := Lib.hid (K1.out.keep HB.out)
            have J3 := Lib.hid (K3.out.keep HB.out)
            have JY := Lib.hid (KY.out.keep HB.out)
            have J4 := Lib.hid (K4.out.keep HB.out)
            have JW := Lib.hid (KW.out.trans (HB.out.mono KW.out.size))
            have HM5 := Lib.hid (And.intro hM5 (And.intro hN5 hl5))
            have hgd : k < 64 → decide ((k : Int) < n) = false := fun h => decide_eq_false (by omega)
            have HGD := Lib.hid hgd
            clear hM5 hN5 hl5 hh5 HO HB K1 K3 KY K4 KW hke hkn hgd hlt
            have CS := Lib.hid (fun W hW => setOf_any A cap ys (by have := HY.out; omega) W hW)
            rw [HY.out] at CS
            have C14a := Lib.hid (fun W hW => made_any A cap ys (by have := HY.out; omega) W hW)
            rw [HY.out] at C14a
            have C14b := Lib.hid (fun W hW => made_any A3 cap3 (L ++ [n]) (by have := HL3.out; omega) W hW)
            rw [HL3.out] at C14b
            have hmo : mk (L ++ [n]) = x ||| bitN n := by rw [← HLE.out.1]; exact mk_with HX.out n
            have hmos := or_small HX.out (bitN_small n)
            have CW := Lib.hid (fun W => with_any x n HX.out W)
            have CX := Lib.hid (fun W => without_any x n HX.out W)
            have CFi := Lib.hid (fun W => first_any n W)
            have CHa := Lib.hid (fun W => has_any x n HX.out W)
            have CLe := Lib.hid (fun W => len_any x HX.out W)
            have CO := Lib.hid (fun W (hTW : Tab W) (hgW : 0 < W.heap.size) => one7_any W hTW hgW)
            have hin : has x n = inL L n := by rw [has_inL, HLE.out.1]
            rw [hin] at CHa
            rw [HP.out] at CLe
            rw [hmo] at C14b
            have HMO := Lib.hid hmos
            have L4 := Lib.hid (fun W hW => lset_any A4 cap4 N4 HM4.out.1 (by have := HQ4.out; omega) W hW)
            rw [HM4.out.2, HQ4.out] at L4
            have L5 := Lib.hid (fun W hW => lset_any A5 cap5 R5 HM5.out.2.1 (by have := HM5.out.2.2; omega) W hW)
            rw [HM5.out.1, HM5.out.2.2] at L5
            have L1 := Lib.hid (fun W hW => lhas_any A1 cap1 L n (by have := HLE.out.2; omega) W hW)
            rw [HLE.out.2] at L1
            have hms := mk_small ys
            have HMS := Lib.hid hms
            clear hmo hmos hin hms
            generalize mk ys = m1 at *
            generalize x ||| bitN n = m2 at *
            generalize less x (bitN n) = m3 at *
            generalize firstN n = m5 at *
            generalize inL L n = bh at *
            have hle1 := pop_le m1
            have hle2 := pop_le m2
            have L6 := Lib.hid (fun W A cap hW => (by have h := lset_any A cap (ofL m1) (ofL_nodes _) (by rw [ofL_len]; omega) W hW; rw [mk_ofL HMS.out] at h; exact h : Calls Tryd.prog 15 #[.slice A (ofL m1).length cap] W fun e w' => e = .returned (.int .u64 (m1 : Nat)) ∧ W = w'))
            have L7 := Lib.hid (fun W A cap hW => (by have h := lset_any A cap (ofL m2) (ofL_nodes _) (by rw [ofL_len]; omega) W hW; rw [mk_ofL HMO.out] at h; exact h : Calls Tryd.prog 15 #[.slice A (ofL m2).length cap] W fun e w' => e = .returned (.int .u64 (m2 : Nat)) ∧ W = w'))
            generalize ofL m1 = O1 at *
            generalize ofL m2 = O2 at *
            by_cases h64 : k < 64
            · have b1 := HGD.out h64
              have b2 : decide ((k : Int) < 64) = true := decide_eq_true (by omega)
              clear h64
              go_wp2_with (first | (go_at_call 13; (with_reducible refine Calls.mono (CS.out _ ?_) ?_); (· exact JY.out); rintro e w' ⟨rfl, rfl⟩) | (go_at_call 14; (with_reducible refine Calls.mono (C14a.out _ ?_) ?_); (· exact JY.out); rintro e w6 ⟨v6, rfl, ho6, hb6⟩; obtain ⟨A6, cap6, rfl, hh6⟩ := ho6.read; have P1 := Lib.hid (J1.out.keep hb6); have P3 := Lib.hid (J3.out.keep hb6); have P4 := Lib.hid (J4.out.keep hb6); have P5 := Lib.hid (K5.out.keep hb6); have PW := Lib.hid (JW.out.trans (hb6.mono JW.out.size)); have P6 := Lib.hid hh6; clear ho6 hb6 hh6 JY C14a) | (go_at_call 14; (with_reducible refine Calls.mono (C14b.out _ ?_) ?_); (· exact P3.out); rintro e w7 ⟨v7, rfl, ho7, hb7⟩; obtain ⟨A7, cap7, rfl, hh7⟩ := ho7.read; have Q1 := Lib.hid (P1.out.keep hb7); have Q4 := Lib.hid (P4.out.keep hb7); have Q5 := Lib.hid (P5.out.keep hb7); have QW := Lib.hid (PW.out.trans (hb7.mono PW.out.size)); have Q7 := Lib.hid hh7; clear ho7 hb7 hh7 P3 C14b) | (go_at_call 15; (with_reducible refine Calls.mono (L6.out _ _ _ ?_) ?_); (· exact P6.out); rintro e w' ⟨rfl, rfl⟩; clear L6) | (go_at_call 15; (with_reducible refine Calls.mono (L7.out _ _ _ ?_) ?_); (· exact Q7.out); rintro e w' ⟨rfl, rfl⟩; clear L7) | (go_at_call 15; (with_reducible refine Calls.mono (L4.out _ ?_) ?_); (· exact Q4.out); rintro e w' ⟨rfl, rfl⟩; clear L4) | (go_at_call 15; (with_reducible refine Calls.mono (L5.out _ ?_) ?_); (· exact Q5.out); rintro e w' ⟨rfl, rfl⟩) | (go_at_call 16; (with_reducible refine Calls.mono (CW.out _) ?_); rintro e w' ⟨rfl, rfl⟩) | (go_at_call 17; (with_reducible refine Calls.mono (CX.out _) ?_); rintro e w' ⟨rfl, rfl⟩) | (go_at_call 18; (with_reducible refine Calls.mono (CFi.out _) ?_); rintro e w' ⟨rfl, rfl⟩) | (go_at_call 19; (with_reducible refine Calls.mono (CHa.out _) ?_); rintro e w' ⟨rfl, rfl⟩) | (go_at_call 20; (with_reducible refine Calls.mono (L1.out _ ?_) ?_); (· exact Q1.out); rintro e w' ⟨rfl, rfl⟩) | (go_at_call 21; (with_reducible refine Calls.mono (CLe.out _) ?_); rintro e w' ⟨rfl, rfl⟩))
              with_reducible refine Calls.mono (CO.out _ ?_ ?_) ?_
              · exact tab_below HT.out hg QW.out
              · have := QW.out.size; omega
              rintro e w8 ⟨rfl, hb8⟩
              have HB8 := Lib.hid (QW.out.trans (hb8.mono QW.out.size))
              clear hb8
              go_wp2_with fail
              go_ret
              exact ⟨rfl, HB8.out⟩
            · obtain rfl : k = 64 := by omega
              clear h64 HGD
              go_wp2_with (first | (go_at_call 13; (with_reducible refine Calls.mono (CS.out _ ?_) ?_); (· exact JY.out); rintro e w' ⟨rfl, rfl⟩) | (go_at_call 14; (with_reducible refine Calls.mono (C14a.out _ ?_) ?_); (· exact JY.out); rintro e w6 ⟨v6, rfl, ho6, hb6⟩; obtain ⟨A6, cap6, rfl, hh6⟩ := ho6.read; have P1 := Lib.hid (J1.out.keep hb6); have P3 := Lib.hid (J3.out.keep hb6); have P4 := Lib.hid (J4.out.keep hb6); have P5 := Lib.hid (K5.out.keep hb6); have PW := Lib.hid (JW.out.trans (hb6.mono JW.out.size)); have P6 := Lib.hid hh6; clear ho6 hb6 hh6 JY C14a) | (go_at_call 14; (with_reducible refine Calls.mono (C14b.out _ ?_) ?_); (· exact P3.out); rintro e w7 ⟨v7, rfl, ho7, hb7⟩; obtain ⟨A7, cap7, rfl, hh7⟩ := ho7.read; have Q1 := Lib.hid (P1.out.keep hb7); have Q4 := Lib.hid (P4.out.keep hb7); have Q5 := Lib.hid (P5.out.keep hb7); have QW := Lib.hid (PW.out.trans (hb7.mono PW.out.size)); have Q7 := Lib.hid hh7; clear ho7 hb7 hh7 P3 C14b) | (go_at_call 15; (with_reducible refine Calls.mono (L6.out _ _ _ ?_) ?_); (· exact P6.out); rintro e w' ⟨rfl, rfl⟩; clear L6) | (go_at_call 15; (with_reducible refine Calls.mono (L7.out _ _ _ ?_) ?_); (· exact Q7.out); rintro e w' ⟨rfl, rfl⟩; clear L7) | (go_at_call 15; (with_reducible refine Calls.mono (L4.out _ ?_) ?_); (· exact Q4.out); rintro e w' ⟨rfl, rfl⟩; clear L4) | (go_at_call 15; (with_reducible refine Calls.mono (L5.out _ ?_) ?_); (· exact Q5.out); rintro e w' ⟨rfl, rfl⟩) | (go_at_call 16; (with_reducible refine Calls.mono (CW.out _) ?_); rintro e w' ⟨rfl, rfl⟩) | (go_at_call 17; (with_reducible refine Calls.mono (CX.out _) ?_); rintro e w' ⟨rfl, rfl⟩) | (go_at_call 18; (with_reducible refine Calls.mono (CFi.out _) ?_); rintro e w' ⟨rfl, rfl⟩) | (go_at_call 19; (with_reducible refine Calls.mono (CHa.out _) ?_); rintro e w' ⟨rfl, rfl⟩) | (go_at_call 20; (with_reducible refine Calls.mono (L1.out _ ?_) ?_); (· exact Q1.out); rintro e w' ⟨rfl, rfl⟩) | (go_at_call 21; (with_reducible refine Calls.mono (CLe.out _) ?_); rintro e w' ⟨rfl, rfl⟩))
              with_reducible refine Calls.mono (CO.out _ ?_ ?_) ?_
              · exact tab_below HT.out hg QW.out
              · have := QW.out.size; omega
              rintro e w8 ⟨rfl, hb8⟩
              have HB8 := Lib.hid (QW.out.trans (hb8.mono QW.out.size))
              clear hb8
              go_wp2_with fail
              go_ret
              exact ⟨rfl, HB8.out⟩
end Go.Proofs.YtlecgedmdaenaaaDoor.Bits
