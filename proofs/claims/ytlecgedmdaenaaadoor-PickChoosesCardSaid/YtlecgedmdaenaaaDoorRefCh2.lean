/- The walk of the reference's choice (berthingref20). -/
import Derived.Test.YtlecgedmdaenaaaDoorRefCh
namespace Go.Proofs.YtlecgedmdaenaaaDoor.Bits
open Go.RowKit Go.Proofs.YtlecgedmdaenaaaDoor.K

set_option maxHeartbeats 1000000 in
theorem refch_no (may : Nat) (width : Int) (A : Option Addr) (n cap : Nat) (hm : Small may) (h : width < 0 ∨ (pop may : Int) < width) (w : World) :
    Calls Tryd.prog 10 #[.int .u64 may, .int .i64 width, .slice A n cap] w fun e w' => e = .returned (.tuple #[.int .u64 0, .bool false]) ∧ Below w.heap.size w w' := by
  have c := fun W => (of_any may hm W).mono (fun e w' (hh : ∃ v, e = .returned v ∧ Own w' W.heap.size v (ofL may) ∧ Below W.heap.size W w') => (by obtain ⟨v, h1, h2, h3⟩ := hh; obtain ⟨A, cap, h4, _⟩ := h2.read; rw [ofL_len] at h4; exact ⟨A, cap, by rw [h1, h4], h3⟩ : ∃ A cap, e = .returned (.slice A (pop may) cap) ∧ Below W.heap.size W w'))
  have C := Lib.hid c
  generalize pop may = p at *
  clear c hm
  by_cases h0 : width < 0
  · have b0 : decide (width < 0) = true := decide_eq_true h0
    clear h
    go_enter Tryd.func10, Tryd.ntmps10
    go_wp2_with (go_at_call 12; (with_reducible refine Calls.mono (C.out _) ?_); rintro e w1 ⟨A1, cap1, rfl, hb⟩)
    go_ret2
    exact ⟨rfl, hb⟩
  · have h1 : (p : Int) < width := by omega
    have b0 : decide (width < 0) = false := decide_eq_false h0
    have b1 : decide ((p : Int) < width) = true := decide_eq_true h1
    clear h
    go_enter Tryd.func10, Tryd.ntmps10
    go_wp2_with (go_at_call 12; (with_reducible refine Calls.mono (C.out _) ?_); rintro e w1 ⟨A1, cap1, rfl, hb⟩)
    go_ret2
    exact ⟨rfl, hb⟩

set_option maxHeartbeats 4000000 in
theorem refch_yes (may : Nat) (width : Int) (A : Option Addr) (cap : Nat) (zs : List Nat) (hm : Small may) (h0 : 0 ≤ width) (h1 : width ≤ (pop may : Int)) (hz : ∀ z ∈ zs, Small z) (hlen : zs.length ≤ 1000) (w : World) (hH : HoldsU w A zs) :
    Calls Tryd.prog 10 #[.int .u64 may, .int .i64 width, .slice A zs.length cap] w fun e w' => e = .returned (.tuple #[.int .u64 (mk (outR width zs (ofL may) (zs.length + 1) 0 []) : Nat), .bool true]) ∧ Below w.heap.size w w' := by
  obtain ⟨L, hL⟩ : ∃ L, ofL may = L := ⟨_, rfl⟩
  have c := fun W => (of_any may hm W).mono (fun e w' (hh : ∃ v, e = .returned v ∧ Own w' W.heap.size v (ofL may) ∧ Below W.heap.size W w') => (by obtain ⟨v, h1, h2, h3⟩ := hh; obtain ⟨A, cap, h4, h5⟩ := h2.read; rw [ofL_len] at h4; rw [hL] at h5; exact ⟨A, cap, by rw [h1, h4], h5, h3⟩ : ∃ A cap, e = .returned (.slice A (pop may) cap) ∧ HoldsI w' A L ∧ Below W.heap.size W w'))
  have hLl : L.length = pop may := by rw [← hL, ofL_len]
  have hLr : ∀ x ∈ L, 0 ≤ x ∧ x < 64 := fun x hx => ofL_mem (hL ▸ hx)
  rw [hL]
  have C := Lib.hid c
  have HLl := Lib.hid hLl
  have HLr := Lib.hid hLr
  have b0 : decide (width < 0) = false := decide_eq_false (by omega)
  have b1 : decide ((pop may : Int) < width) = false := decide_eq_false (by omega)
  obtain ⟨t, ht⟩ : ∃ t, outR width zs L (zs.length + 1) 0 [] = t := ⟨_, rfl⟩
  have htn : Nodes t := by rw [← ht]; exact outR_nodes hLr _ _ _ nodes_nil
  rw [ht]
  obtain ⟨M, hM⟩ : ∃ M, mk t = M := ⟨_, rfl⟩
  rw [hM]
  have HM := Lib.hid hM
  clear hM
  have HT := Lib.hid ht
  have HTN := Lib.hid htn
  have HZ := Lib.hid hz
  have HH := Lib.hid hH
  have hp := pop_le may
  generalize pop may = p at *
  obtain ⟨n, hn⟩ : ∃ n, zs.length = n := ⟨_, rfl⟩
  have HN := Lib.hid hn
  rw [hn] at hlen ⊢
  clear c ht hz hm hL hn hLl hLr htn hH
  obtain ⟨i0, hi, hz0, hz1, hz2⟩ := info_parts info3
  go_enter Tryd.func10, Tryd.ntmps10
  go_wp2_with (go_at_call 12; (with_reducible refine Calls.mono (C.out _) ?_); rintro e w1 ⟨A1, cap1, rfl, hl1, hb1⟩)
  have HL1 := Lib.hid hl1
  have HU1 := Lib.hid (HH.out.keep hb1)
  have HB1 := Lib.hid hb1
  clear hl1 hb1 HH
  go_loopw [9, 10] (fun v i wr => ∃ (k : Nat) (out : List Int), k ≤ n + 1 ∧ i = .int .i64 k ∧ Hid (Nodes out ∧ outR width zs L (n + 1 - k) k out = t) ∧ Hid (Own wr w1.heap.size v out) ∧ Hid (Below w1.heap.size w1 wr)) (fun _ i _ => n + 1 - (intOf i).toNat)
  case atStart => exact ⟨0, [], by omega, rfl, Lib.hid ⟨nodes_nil, by rw [← HN.out]; exact HT.out⟩, Lib.hid (World.ownsRow_nil _ _ _ _), Lib.hid (Below.refl _ _)⟩
  case round =>
    obtain ⟨k, out, hk, rfl, HO, HW, HB⟩ := hrel
    by_cases hlt : k ≤ n
    · obtain ⟨wo, rfl⟩ : ∃ wo : World, wo = wr := ⟨_, rfl⟩
      go_wp2_with fail
      go_loopw [9, 11] (fun v i wr => ∃ (j : Nat) (ou : List Int), j ≤ p ∧ i = .int .i64 j ∧ Hid (Nodes ou ∧ roundR width zs (L.drop j) k ou = roundR width zs L k out) ∧ Hid (Own wr w1.heap.size v ou) ∧ Hid (Below w1.heap.size w1 wr)) (fun _ i _ => p - (intOf i).toNat)
      case atStart => exact ⟨0, out, by omega, rfl, Lib.hid ⟨HO.out.1, rfl⟩, HW, HB⟩
      case round =>
        obtain ⟨j, ou, hj, rfl, HOu, HWu, HBu⟩ := hrel
        by_cases hlj : j < p
        · have hjl : j < L.length := by rw [HLl.out]; exact hlj
          have hd : L.drop j = L[j] :: L.drop (j + 1) := List.drop_eq_getElem_cons hjl
          have hxr := HLr.out _ (List.getElem_mem hjl)
          have hro := HOu.out.2
          rw [hd] at hro
          obtain ⟨A2, cap2, rfl, hh2⟩ := HWu.out.read
          have HH2 := Lib.hid hh2
          have hql := HOu.out.1.len
          obtain ⟨q, hq⟩ : ∃ q, ou.length = q := ⟨_, rfl⟩
          rw [hq] at hql
          have CH := Lib.hid (fun W (hW : HoldsI W A2 ou) => lhas_any A2 cap2 ou L[j] (by rw [hq]; omega) W hW)
          rw [hq] at CH ⊢
          have hstep : ∀ r, stepR width zs k ou L[j] = r → roundR width zs (L.drop (j + 1)) k r = roundR width zs L k out := fun r hr => by rw [← hr]; exact hro
          by_cases hw : (q : Int) < width
          · rcases HL1.out.keep HBu.out with h | ⟨b, off, hA, _, hc⟩
            · rw [h] at hjl; simp at hjl
            subst hA
            have hcell := hc j hjl
            have HHU := Lib.hid (HU1.out.keep HBu.out)
            have hw2 : decide ((q : Int) < width) = true := decide_eq_true hw
            by_cases hin : inL ou L[j] = true
            · have hs := hstep ou (by unfold stepR; rw [if_neg (by rw [hin]; simp)])
              rw [hin] at CH
              generalize L[j] = x at *
              have HS := Lib.hid hs
              have HQ := Lib.hid hq
              clear hstep hro hs hd hc hjl hin hh2 hq
              go_wp2_with fail
              go_quiet ((go_at_call 20; (with_reducible refine Calls.mono (CH.out _ (HH2.out.drewN _)) ?_); rintro e w3 ⟨rfl, rfl⟩; exact ⟨rfl, _, rfl⟩))
              go_wp2_with fail
              go_roundw
              case rel => exact ⟨j + 1, ou, by omega, by go_num, Lib.hid ⟨HOu.out.1, HS.out⟩, Lib.hid (by have := HWu.out.drewN nq; rw [HQ.out] at this; exact this), Lib.hid (below_drewN HBu.out nq)⟩
              case measure => simp [intOf]; omega
            · have hin' : inL ou L[j] = false := by simpa using hin
              rw [hin'] at CH
              have HWq := Lib.hid (by have h := HWu.out; unfold Own at h; rw [hq] at h; exact h : wr.ownsRow w1.heap.size 3 1 (.slice A2 q cap2) q (ou.map (Value.int .i64)))
              have hnx : Nodes (ou ++ [L[j]]) := by
                have := stepR_nodes (W := width) (zs := []) (k := 0) HOu.out.1 hxr
                unfold stepR at this
                rw [if_pos ⟨by rw [hq]; exact hw, hin', by simp [wants]⟩] at this
                exact this
              by_cases hkn : k = n
              · have hs := hstep (ou ++ [L[j]]) (by unfold stepR; rw [if_pos ⟨by rw [hq]; exact hw, hin', by simp [wants, HN.out, hkn]⟩])
                generalize L[j] = x at *
                have HS := Lib.hid (And.intro hnx hs)
                have HQ := Lib.hid hq
                subst hkn
                clear hstep hro hs hd hc hjl hin hin' hh2 hq hnx
                go_wp2_with fail
                go_quiet ((go_at_call 20; (with_reducible refine Calls.mono (CH.out _ (HH2.out.drewN _)) ?_); rintro e w3 ⟨rfl, rfl⟩; exact ⟨rfl, _, rfl⟩))
                have HOq := Lib.hid (show (wr.drewN nq).ownsRow w1.heap.size 3 1 (.slice A2 q cap2) q (ou.map (Value.int .i64)) from HWq.out)
                have HBq := Lib.hid (below_drewN HBu.out nq)
                have hcellq : (wr.drewN nq).cell? ⟨b, off + j, none⟩ = some (.int .i64 x) := hcell
                clear hcell HWu HWq HBu
                generalize wr.drewN nq = wq at *
                go_wp2_with (at_builtin; refine wpList_append_own _ rfl _ _ 33 rfl w1.heap.size 3 i0 (.int .i64 0) 1 8 Tryd.underlying33 hi hz0 hz1 hz2 rfl (by decide) _ _ _ rfl (World.ownsRow.alloc HOq.out _) ⟨wq.heap.size, 0, none⟩ 1 1 [.int .i64 x] rfl rfl (cell_one_new _ _ _) (by simp [Value.oneCell']) (by unfold maxLen; omega) (by omega) (by have := HBq.out.size; simp; omega) ?_; intro v' w5 hown hgrow _)
                refine ⟨⟨j + 1, ou ++ [x], by omega, by first | rfl | go_num, HS, Lib.hid ?_, Lib.hid ?_⟩, ?_⟩
                · unfold Own; simp only [List.length_append, List.length_cons, List.length_nil, List.map_append, List.map_cons, List.map_nil, HQ.out]; exact hown
                · exact (HBq.out.alloc HBq.out.size _).grown hgrow (by have := HBq.out.size; simp; omega) (Own.low (xs := ou) (by unfold Own; rw [HQ.out]; exact HOq.out))
                · simp [intOf]; omega
              · have hkl : k < n := by omega
                have hkz : k < zs.length := by rw [HN.out]; exact hkl
                rcases HHU.out with h | ⟨bu, offu, hAu, _, hcu⟩
                · rw [h] at hkz; simp at hkz
                subst hAu
                have hcellu := hcu k hkz
                have hzk := HZ.out _ (List.getElem_mem hkz)
                have hgd : zs.getD k 0 = zs[k] := by simp [List.getD, hkz]
                have hwt : wants zs k L[j] = inL (ofL zs[k]) L[j] := by unfold wants; rw [hgd, decide_eq_false (by rw [HN.out]; exact hkn)]; simp
                obtain ⟨Z, hZ⟩ : ∃ Z, ofL zs[k] = Z := ⟨_, rfl⟩
                obtain ⟨lz, hlz⟩ : ∃ lz, Z.length = lz := ⟨_, rfl⟩
                obtain ⟨bz, hbz⟩ : ∃ bz, inL Z L[j] = bz := ⟨_, rfl⟩
                have hlz64 : lz ≤ 64 := by rw [← hlz, ← hZ, ofL_len]; exact pop_le _
                have CO := Lib.hid (fun W => (of_any zs[k] hzk W).mono (fun e w' (hh : ∃ v, e = .returned v ∧ Own w' W.heap.size v (ofL zs[k]) ∧ Below W.heap.size W w') => (by obtain ⟨v, h1, h2, h3⟩ := hh; obtain ⟨A, cap, h4, h5⟩ := h2.read; rw [hZ] at h4 h5; rw [hlz] at h4; exact ⟨A, cap, by rw [h1, h4], h5, h3⟩ : ∃ A cap, e = .returned (.slice A lz cap) ∧ HoldsI w' A Z ∧ Below W.heap.size W w')))
                have CI := Lib.hid (fun W A' cap' (hW : HoldsI W A' Z) => (by have h := lhas_any A' cap' Z L[j] (by omega) W hW; rw [hlz, hbz] at h; exact h : Calls Tryd.prog 20 #[.slice A' lz cap', .int .i64 L[j]] W fun e w' => e = .returned (.bool bz) ∧ W = w'))
                rw [hZ, hbz] at hwt
                have hkb : ((k : Int) == (n : Int)) = false := beq_eq_false_iff_ne.mpr (by omega)
                generalize zs[k] = z at *
                have HQ := Lib.hid hq
                clear hh2 hgd hcu hkz hzk hZ hlz
                cases bz with
                | true =>
                  have hs := hstep (ou ++ [L[j]]) (by unfold stepR; rw [if_pos ⟨by rw [hq]; exact hw, hin', hwt⟩])
                  generalize L[j] = x at *
                  have HS := Lib.hid (And.intro hnx hs)
                  clear hstep hro hs hd hc hjl hin hin' hq hnx hwt hbz
                  go_wp2_with fail
                  go_region_held3 (fun w' => w'.cell? ⟨b, off + j, none⟩ = some (.int .i64 x) ∧ w'.cell? ⟨bu, offu + k, none⟩ = some (.int .u64 (z : Nat))) (go_keep) ((first | (go_at_call 12; (with_reducible refine Calls.mono (CO.out _) ?_); rintro e w3 ⟨A3, cap3, rfl, hh3, hb3⟩; have k1 := cell_later hb3 hcell; have k2 := cell_later hb3 hcellu; have HH3 := Lib.hid hh3; have HB3 := Lib.hid (show Below wr.heap.size wr w3 from ⟨hb3.os, hb3.tape, hb3.output, hb3.size, hb3.block⟩); clear hh3 hb3) | (go_at_call 20; (with_reducible refine Calls.mono (CH.out _ ?_) ?_); (· exact HH2.out); rintro e w4 ⟨rfl, rfl⟩) | (go_at_call 20; (with_reducible refine Calls.mono (CI.out _ _ _ ?_) ?_); (· exact HH3.out); rintro e w4 ⟨rfl, rfl⟩)))
                  have HOq := Lib.hid (World.ownsRow.kept HWq.out (grown_of_below HB3.out) (by cases A2 <;> simp [Value.ownBlock]))
                  have HBq := Lib.hid (HBu.out.trans (HB3.out.mono HBu.out.size))
                  clear hcell hcellu HWu HWq HBu
                  go_wp2_with (at_builtin; refine wpList_append_own _ rfl _ _ 33 rfl w1.heap.size 3 i0 (.int .i64 0) 1 8 Tryd.underlying33 hi hz0 hz1 hz2 rfl (by decide) _ _ _ rfl (World.ownsRow.alloc HOq.out _) ⟨w3.heap.size, 0, none⟩ 1 1 [.int .i64 x] rfl rfl (cell_one_new _ _ _) (by simp [Value.oneCell']) (by unfold maxLen; omega) (by omega) (by have := HBq.out.size; simp; omega) ?_; intro v' w5 hown hgrow _)
                  refine ⟨⟨j + 1, ou ++ [x], by omega, by first | rfl | go_num, HS, Lib.hid ?_, Lib.hid ?_⟩, ?_⟩
                  · unfold Own; simp only [List.length_append, List.length_cons, List.length_nil, List.map_append, List.map_cons, List.map_nil, HQ.out]; exact hown
                  · exact (HBq.out.alloc HBq.out.size _).grown hgrow (by have := HBq.out.size; simp; omega) (Own.low (xs := ou) (by unfold Own; rw [HQ.out]; exact HOq.out))
                  · simp [intOf]; omega
                | false =>
                  have hs := hstep ou (by unfold stepR; rw [if_neg (by rw [hwt]; simp)])
                  generalize L[j] = x at *
                  have HS := Lib.hid hs
                  clear hstep hro hs hd hc hjl hin hin' hq hnx hwt hbz
                  go_wp2_with fail
                  go_region_held3 (fun w' => w'.cell? ⟨b, off + j, none⟩ = some (.int .i64 x) ∧ w'.cell? ⟨bu, offu + k, none⟩ = some (.int .u64 (z : Nat))) (go_keep) ((first | (go_at_call 12; (with_reducible refine Calls.mono (CO.out _) ?_); rintro e w3 ⟨A3, cap3, rfl, hh3, hb3⟩; have k1 := cell_later hb3 hcell; have k2 := cell_later hb3 hcellu; have HH3 := Lib.hid hh3; have HB3 := Lib.hid (show Below wr.heap.size wr w3 from ⟨hb3.os, hb3.tape, hb3.output, hb3.size, hb3.block⟩); clear hh3 hb3) | (go_at_call 20; (with_reducible refine Calls.mono (CH.out _ ?_) ?_); (· exact HH2.out); rintro e w4 ⟨rfl, rfl⟩) | (go_at_call 20; (with_reducible refine Calls.mono (CI.out _ _ _ ?_) ?_); (· exact HH3.out); rintro e w4 ⟨rfl, rfl⟩)))
                  have HOq := Lib.hid (World.ownsRow.kept HWq.out (grown_of_below HB3.out) (by cases A2 <;> simp [Value.ownBlock]))
                  have HBq := Lib.hid (HBu.out.trans (HB3.out.mono HBu.out.size))
                  clear hcell hcellu HWu HWq HBu
                  go_wp2_with fail
                  refine ⟨⟨j + 1, ou, by omega, by first | rfl | go_num, Lib.hid ⟨HOu.out.1, HS.out⟩, Lib.hid ?_, HBq⟩, ?_⟩
                  · unfold Own; rw [HQ.out]; exact HOq.out
                  · simp [intOf]; omega
          · have hb : decide ((q : Int) < width) = false := decide_eq_false hw
            have hfin := (roundR_full (W := width) (zs := zs) (k := k) (L.drop j) ou (by rw [hq]; exact hw)).symm.trans HOu.out.2
            have HS := Lib.hid hfin
            have HQ := Lib.hid hq
            clear hstep hro hd hh2 hq hfin
            go_wp2_with fail
            exact ⟨⟨k + 1, ou, by omega, by first | rfl | go_num, Lib.hid ⟨HOu.out.1, by
              have h := HO.out.2
              rw [show n + 1 - k = (n + 1 - (k + 1)) + 1 by omega] at h
              rw [HS.out]; exact h⟩, Lib.hid (by have := HWu.out; rw [HQ.out] at this; exact this), HBu⟩, by simp [intOf]; omega⟩
        · have hfin : ou = roundR width zs L k out := by
            have h := HOu.out.2
            rw [List.drop_of_length_le (by have := HLl.out; omega)] at h
            exact h
          have HS := Lib.hid hfin
          clear hfin
          obtain rfl : j = p := by omega
          clear hlj
          go_wp2_with fail
          exact ⟨⟨k + 1, ou, by omega, by first | rfl | go_num, Lib.hid ⟨HOu.out.1, by
              have h := HO.out.2
              rw [show n + 1 - k = (n + 1 - (k + 1)) + 1 by omega] at h
              rw [HS.out]; exact h⟩, HWu, HBu⟩, by simp [intOf]; omega⟩
    · obtain rfl : k = n + 1 := by omega
      have e : out = t := by have h := HO.out.2; rw [Nat.sub_self] at h; exact h
      subst e
      obtain ⟨A2, cap2, rfl, hh2⟩ := HW.out.read
      have hql := HO.out.1.len
      have CS := Lib.hid (lset_any A2 cap2 out HO.out.1 (by omega) wr hh2)
      clear hh2
      rw [show mk out = M from HM.out] at CS
      generalize out.length = q at *
      go_wp2_with (go_at_call 15; (with_reducible refine Calls.mono CS.out ?_); rintro e w3 ⟨rfl, rfl⟩)
      go_ret2
      exact ⟨by rfl, (HB1.out).trans (HB.out.mono HB1.out.size)⟩
end Go.Proofs.YtlecgedmdaenaaaDoor.Bits
