/- The walk of the law PickChooses. -/
import Derived.Test.YtlecgedmdaenaaaDoorRefCh2
import Derived.Test.YtlecgedmdaenaaaDoorChPure
namespace Go.Proofs.YtlecgedmdaenaaaDoor.Bits
open Go.RowKit Go.Proofs.YtlecgedmdaenaaaDoor.K

theorem info22 : (Tryd.prog.info? 22).map (fun i => (i.zero, i.size, i.bytes)) = some (some (.int .u64 0), 1, 8) := by kernel_rfl
def OwnU (w : World) (B : Nat) (v : Value) (xs : List Nat) : Prop := w.ownsRow B 22 1 v xs.length (xs.map (fun z : Nat => Value.int .u64 z))
theorem OwnU.read {w : World} {B : Nat} {v : Value} {xs : List Nat} (h : OwnU w B v xs) : ∃ A cap, v = .slice A xs.length cap ∧ HoldsU w A xs := by
  by_cases hx : xs.length = 0
  · rcases h.2 with ⟨rfl, _⟩ | ⟨g, cap, _, rfl, _⟩
    · exact ⟨none, 0, by rw [hx], .inl (List.eq_nil_of_length_eq_zero hx)⟩
    · exact ⟨_, cap, rfl, .inl (List.eq_nil_of_length_eq_zero hx)⟩
  · obtain ⟨k, hk⟩ : ∃ k, xs.length = k + 1 := ⟨xs.length - 1, by omega⟩
    unfold OwnU at h
    rw [hk] at h
    obtain ⟨g, cap, rfl⟩ := ownsRow_succ h
    have hc : ∀ i (h : i < xs.length), w.cell? ⟨g, 0 + i, none⟩ = some (.int .u64 (xs[i] : Nat)) := fun i hi => by
      rw [Nat.zero_add, World.ownsRow.cellAt h i (by omega), List.getElem?_map, List.getElem?_eq_getElem hi]
      rfl
    exact ⟨_, cap, by rw [hk], .inr ⟨g, 0, rfl, World.block_lt_of_cell? _ _ (hc 0 (by omega)), hc⟩⟩
theorem OwnU.low {w : World} {B : Nat} {v : Value} {xs : List Nat} (h : OwnU w B v xs) : ∀ k, v.ownBlock = some k → B ≤ k := fun _ hk =>
  Nat.le_of_not_lt fun hlt => row_ne_low h hlt hk.symm

set_option maxHeartbeats 2000000 in
theorem pickChooses_any (may : Nat) (width : Int) (A : Option Addr) (cap : Nat) (zs : List Nat) (hm : Small may) (hz : ∀ z ∈ zs, Small z) (hlen : zs.length ≤ 9223372036854775807) (hcap : zs.length ≤ cap) (w : World)
    (hA : A = none → zs.length = 0 ∧ cap = 0) (hH : HoldsU w A zs) (hT : Tab w) (hg : 0 < w.heap.size) :
    Calls Tryd.prog 3 #[.int .u64 may, .int .i64 width, .slice A zs.length cap] w fun e w' => e = .returned (.bool true) ∧ Below w.heap.size w w' := by
  obtain ⟨ys, hys⟩ : ∃ ys, zs.take 6 = ys := ⟨_, rfl⟩
  obtain ⟨n, hn⟩ : ∃ n, ys.length = n := ⟨_, rfl⟩
  have hn6 : n ≤ 6 := by rw [← hn, ← hys, List.length_take]; omega
  have hyz : ∀ z ∈ ys, Small z := fun z h => hz z (List.mem_of_mem_take (hys ▸ h))
  have hyH : HoldsU w A ys := by
    rcases hH with h | ⟨b, off, rfl, hlt, hc⟩
    · exact .inl (by rw [← hys, h]; rfl)
    · refine .inr ⟨b, off, rfl, hlt, fun i hi => ?_⟩
      subst hys
      rw [List.length_take] at hi
      rw [hc i (by omega)]
      simp
  have hAn : A = none → n = 0 ∧ cap = 0 := fun h => ⟨by rw [← hn, ← hys, List.length_take]; have := (hA h).1; omega, (hA h).2⟩
  have hcn : n ≤ cap := by rw [← hn, ← hys, List.length_take]; omega
  obtain ⟨len, hl⟩ : ∃ len, zs.length = len := ⟨_, rfl⟩
  have hnl : (6 < len → n = 6) ∧ (len ≤ 6 → n = len) := by
    rw [← hn, ← hys, List.length_take, hl]; omega
  rw [hl] at hlen hcap ⊢
  have HN := Lib.hid hnl
  have HA := Lib.hid hAn
  have HH := Lib.hid hyH
  have HY := Lib.hid hn
  have HZ := Lib.hid hyz
  have HM := Lib.hid hm
  have HT := Lib.hid hT
  have HL := Lib.hid (show A = none → len = 0 by rw [← hl]; exact fun h => (hA h).1)
  clear hys hn hyz hyH hAn hl hnl hA hH hz hm hT
  obtain ⟨i0, hi, hz0, hz1, hz2⟩ := info_parts info22
  have bl : decide ((6 : Int) < (len : Int)) = decide (6 < len) := by rw [decide_eq_decide]; omega
  go_enter Tryd.func3, Tryd.ntmps3
  go_upto_if 15 with fail
  go_cut [2] (fun s2 wx => s2 = .slice A n cap ∧ w = wx)
  case first =>
    clear bl
    by_cases h6 : 6 < len
    · cases A with
      | none => have := HL.out rfl; omega
      | some a =>
        obtain rfl : n = 6 := HN.out.1 h6
        go_wp2_with fail
        go_meet
        exact ⟨rfl, rfl⟩
    · obtain rfl : n = len := HN.out.2 (by omega)
      go_wp2_with fail
      go_meet
      exact ⟨rfl, rfl⟩
  case rest =>
    obtain ⟨rfl, rfl⟩ := hcut
    go_wp2_with fail
    go_loopw [7, 8] (fun v i wr => ∃ (k : Nat), k ≤ n ∧ i = .int .i64 k ∧ Hid (OwnU wr w.heap.size v (ys.take k)) ∧ Hid (Below w.heap.size w wr)) (fun _ i _ => n - (intOf i).toNat)
    case atStart => exact ⟨0, by omega, rfl, Lib.hid (World.ownsRow_nil _ _ _ _), Lib.hid (Below.refl _ _)⟩
    case round =>
      obtain ⟨k, hk, rfl, HO, HB⟩ := hrel
      by_cases hlt : k < n
      · have hky : k < ys.length := by rw [HY.out]; exact hlt
        rcases HH.out.keep HB.out with h | ⟨b, off, hAb, hbl, hc⟩
        · rw [h] at hky; simp at hky
        subst hAb
        have hcell := hc k hky
        have hs : ys.take (k + 1) = ys.take k ++ [ys[k]] := List.take_succ_eq_append_getElem hky
        have hq : (ys.take k).length = k := by rw [List.length_take, HY.out]; omega
        have HW := HO.out
        unfold OwnU at HW
        rw [hq] at HW
        have HO2 := Lib.hid HW
        have HQ := Lib.hid hq
        generalize ys[k] = x at *
        have HS := Lib.hid hs
        clear hs hc hbl hq HW
        go_wp2_with (at_builtin; refine wpList_append_own _ rfl _ _ 25 rfl w.heap.size 22 i0 (.int .u64 0) 1 8 Tryd.underlying25 hi hz0 hz1 hz2 rfl (by decide) _ _ _ rfl (World.ownsRow.alloc HO2.out _) ⟨wr.heap.size, 0, none⟩ 1 1 [.int .u64 (x : Nat)] rfl rfl (cell_one_new _ _ _) (by simp [Value.oneCell']) (by unfold maxLen; omega) (by omega) (by have := HB.out.size; simp; omega) ?_; intro v' w5 hown hgrow _)
        refine ⟨⟨k + 1, by omega, by first | rfl | go_num, Lib.hid ?_, Lib.hid ?_⟩, ?_⟩
        · unfold OwnU; rw [HS.out]; simp only [List.length_append, List.length_cons, List.length_nil, List.map_append, List.map_cons, List.map_nil, HQ.out]; exact hown
        · exact (HB.out.alloc HB.out.size _).grown hgrow (by have := HB.out.size; simp; omega) HO.out.low
        · simp [intOf]; omega
      · obtain rfl : k = n := by omega
        have ho := HO.out
        rw [List.take_of_length_le (by rw [HY.out]; omega)] at ho
        obtain ⟨A2, cap2, rfl, hh2⟩ := ho.read
        have hu := HH.out.keep HB.out
        have hsz := HB.out.size
        have hTr := tab_below HT.out hg HB.out
        rw [HY.out]
        have CO := Lib.hid (fun W (hTW : Tab W) (hgW : 0 < W.heap.size) => one20_any W hTW hgW)
        by_cases hw : width < 0 ∨ (pop may : Int) < width
        · have C9 := Lib.hid (fun W => choose_no may width A k cap HM.out hw W)
          have C10 := Lib.hid (fun W => refch_no may width A2 k cap2 HM.out hw W)
          clear hw ho hh2 hu hTr HO
          go_wp2_with (first | (go_at_call 9; (with_reducible refine Calls.mono (C9.out _) ?_); rintro e w2 ⟨rfl, rfl⟩) | (go_at_call 10; (with_reducible refine Calls.mono (C10.out _) ?_); rintro e w3 ⟨rfl, hb3⟩; have HB3 := Lib.hid (HB.out.trans (hb3.mono hsz)); clear hb3))
          with_reducible refine Calls.mono (CO.out _ ?_ ?_) ?_
          · exact tab_below HT.out hg HB3.out
          · have := HB3.out.size; omega
          rintro e w4 ⟨rfl, hb4⟩
          have HB4 := Lib.hid (HB3.out.trans (hb4.mono HB3.out.size))
          clear hb4
          go_wp2_with fail
          go_ret
          exact ⟨rfl, HB4.out⟩
        · obtain ⟨t, ht⟩ : ∃ t, chooseL may width 0 (ys ++ [may]) = t := ⟨_, rfl⟩
          have c9 := choose_yes may width A cap ys HM.out (by omega) (by omega) HZ.out (by rw [HY.out]; omega) (by rw [HY.out]; exact hcn) wr (by rw [HY.out]; exact HA.out) (fun b hb i hi => by
            rcases hu with h | ⟨b', off, hAb, _, hc⟩
            · rw [h] at hi; simp at hi
            · rw [hb] at hAb; cases hAb; rw [show (Addr.add ⟨b', off, none⟩ i) = ⟨b', off + i, none⟩ by unfold Addr.add; split <;> simp_all]; exact hc i hi) hTr (by omega)
          have c10 := fun W (hW : HoldsU W A2 ys) => refch_yes may width A2 cap2 ys HM.out (by omega) (by omega) HZ.out (by rw [HY.out]; omega) W hW
          rw [choose_eq HM.out HZ.out] at c10
          rw [ht] at c9 c10
          rw [HY.out] at c9 c10
          have C9 := Lib.hid c9
          have C10 := Lib.hid c10
          have HU2 := Lib.hid hh2
          clear hw ho hh2 hu hTr HO c9 c10 ht
          go_wp2_with (first | (go_at_call 9; (with_reducible refine Calls.mono C9.out ?_); rintro e w2 ⟨rfl, hb2⟩; have HK2 := Lib.hid (HU2.out.keep hb2); have HB2 := Lib.hid (HB.out.trans (hb2.mono hsz)); clear hb2) | (go_at_call 10; (with_reducible refine Calls.mono (C10.out _ ?_) ?_); (· exact HK2.out); rintro e w3 ⟨rfl, hb3⟩; have HB3 := Lib.hid (HB2.out.trans (hb3.mono HB2.out.size)); clear hb3))
          with_reducible refine Calls.mono (CO.out _ ?_ ?_) ?_
          · exact tab_below HT.out hg HB3.out
          · have := HB3.out.size; omega
          rintro e w4 ⟨rfl, hb4⟩
          have HB4 := Lib.hid (HB3.out.trans (hb4.mono HB3.out.size))
          clear hb4
          go_wp2_with fail
          go_ret
          exact ⟨rfl, HB4.out⟩
end Go.Proofs.YtlecgedmdaenaaaDoor.Bits
