/- The walk of pick.Choose. -/
import Derived.Test.YtlecgedmdaenaaaDoorBits2
import Derived.ArgAppend
import Derived.RowKit3
import Derived.Deep.LoopGhost
import Derived.WalkMore
import Derived.Maps.AppendAt
import Derived.RangeFuncBox
namespace Go.Proofs.YtlecgedmdaenaaaDoor.Bits
open Go.RowKit Go.Proofs.YtlecgedmdaenaaaDoor.K

theorem info23 : (Tryd.prog.info? 23).map (fun i => (i.zero, i.size, i.bytes)) = some (some (.int .u64 0), 1, 8) := by kernel_rfl

/-- What Choose takes of one more set. -/
def partOf (may : Nat) (width : Int) (out s : Nat) : Nat := takeR (min (width - pop out) (pop (less (may &&& s) out))).toNat 0 (less (may &&& s) out)
def chooseL (may : Nat) (width : Int) : Nat → List Nat → Nat
  | out, [] => out
  | out, s :: l => if width - pop out = 0 then out else chooseL may width (out ||| partOf may width out s) l

theorem takeR_small : ∀ (k out rest : Nat), Small out → Small (takeR k out rest)
  | 0, _, _, h => h
  | k + 1, _, _, h => takeR_small k _ _ (or_small h (bitN_small _))

theorem choose_no (may : Nat) (width : Int) (A : Option Addr) (n cap : Nat) (hm : Small may) (h : width < 0 ∨ (pop may : Int) < width) (w : World) :
    Calls Tryd.prog 9 #[.int .u64 may, .int .i64 width, .slice A n cap] w fun e w' => e = .returned (.tuple #[.int .u64 0, .bool false]) ∧ w = w' := by
  have c := fun W => len_any may hm W
  have C := Lib.hid c
  generalize pop may = p at *
  clear c hm
  by_cases h0 : width < 0
  · have b0 : decide (width < 0) = true := decide_eq_true h0
    go_enter Tryd.func9, Tryd.ntmps9
    go_wp2
    go_step3
    go_wp2_with (go_at_call 21; refine (C.out _).mono ?_; rintro e w' ⟨rfl, rfl⟩)
    rw [Exit.noGoto_ret]
    go_ret2
    exact ⟨rfl, rfl⟩
  · have h1 : (p : Int) < width := by omega
    have b0 : decide (width < 0) = false := decide_eq_false h0
    have b1 : decide ((p : Int) < width) = true := decide_eq_true h1
    go_enter Tryd.func9, Tryd.ntmps9
    go_wp2
    go_step3
    go_wp2_with (go_at_call 21; refine (C.out _).mono ?_; rintro e w' ⟨rfl, rfl⟩)
    rw [Exit.noGoto_ret]
    go_ret2
    exact ⟨rfl, rfl⟩

set_option maxHeartbeats 2000000 in
theorem choose_yes (may : Nat) (width : Int) (A : Option Addr) (cap : Nat) (zs : List Nat) (hm : Small may) (h0 : 0 ≤ width) (h1 : width ≤ (pop may : Int)) (hz : ∀ z ∈ zs, Small z) (hlen : zs.length ≤ 1000) (hcap : zs.length ≤ cap) (w : World)
    (hA : A = none → zs.length = 0 ∧ cap = 0) (hc : ∀ b, A = some b → ∀ i (h : i < zs.length), w.cell? (b.add i) = some (.int .u64 (zs[i] : Nat))) (hT : Tab w) (hg : 0 < w.heap.size) :
    Calls Tryd.prog 9 #[.int .u64 may, .int .i64 width, .slice A zs.length cap] w fun e w' => e = .returned (.tuple #[.int .u64 (chooseL may width 0 (zs ++ [may]) : Nat), .bool true]) ∧ Below w.heap.size w w' := by
  have c := fun W => len_any may hm W
  have C := Lib.hid c
  have b0 : decide (width < 0) = false := decide_eq_false (by omega)
  have b1 : decide ((pop may : Int) < width) = false := decide_eq_false (by omega)
  obtain ⟨t, ht⟩ : ∃ t, chooseL may width 0 (zs ++ [may]) = t := ⟨_, rfl⟩
  rw [ht]
  have HT := Lib.hid ht
  have HZ := Lib.hid hz
  have HM := Lib.hid hm
  have HA := Lib.hid hA
  have HC := Lib.hid hc
  have HTab := Lib.hid hT
  have hp := pop_le may
  generalize pop may = p at *
  obtain ⟨len, hl⟩ : ∃ len, zs.length = len := ⟨_, rfl⟩
  have HLn := Lib.hid hl
  rw [hl] at hlen hcap ⊢
  clear c ht hz hm hA hc hT hl
  obtain ⟨i0, hi, hz0, hz1, hz2⟩ := info_parts info23
  have hol : ∃ olds : List Value, olds.length = len * 1 ∧ (∀ b, A = some b → ∀ j u, olds[j]? = some u → w.cell? (b.add j) = some u) ∧ olds = zs.map (fun z => Value.int .u64 (z : Nat)) := by
    refine ⟨zs.map (fun z => Value.int .u64 (z : Nat)), by simp [HLn.out], fun b hb j u hj => ?_, rfl⟩
    rw [List.getElem?_map] at hj
    cases hz : zs[j]? with
    | none => rw [hz] at hj; cases hj
    | some z =>
      rw [hz] at hj
      obtain ⟨hjl, hje⟩ := List.getElem?_eq_some_iff.1 hz
      have := HC.out b hb j hjl
      rw [hje] at this
      simp at hj
      rw [this, hj]
  obtain ⟨olds, ho1, ho2, ho3⟩ := hol
  have HO1 := Lib.hid ho1
  have HO2 := Lib.hid ho2
  have HO3 := Lib.hid ho3
  clear ho1 ho2 ho3
  cases A with
  | none =>
    have hnn : len = 0 ∧ len = 0 := by have h1 := HA.out rfl; have h2 := HLn.out; omega
    have HN := Lib.hid hnn
    clear hnn HA HC
    go_enter Tryd.func9, Tryd.ntmps9
    go_wp2
    go_step3
    go_wp2_with (first | (go_at_call 21; refine (C.out _).mono ?_; rintro e w' ⟨rfl, rfl⟩))
    go_step3
    go_wp2_with (at_builtin; refine wpList_append_grows _ rfl _ _ 24 rfl 23 i0 (.int .u64 0) 1 8 Tryd.underlying24 hi hz0 hz1 hz2 rfl (by decide) none len len olds rfl (fun _ => HN.out) HO1.out (fun b hb => by cases hb) ⟨w.heap.size, 0, none⟩ 1 1 [.int .u64 (may : Nat)] rfl rfl (cell_one_new _ _ _) (by simp [Value.oneCell']) (by omega) (by unfold maxLen; omega) (by omega) ?_; intro v2 w2 hown hgrow; obtain ⟨g, cap2, rfl⟩ := ownsRow_succ hown; have HW := Lib.hid hown; have HG := Lib.hid hgrow; clear hown hgrow)
    have hB : Below w.heap.size w w2 := ((Below.refl _ _).alloc (Nat.le_refl _) _).grown HG.out (by simp) (fun k hk => by cases hk)
    have hL : ∀ i (h : i < (zs ++ [may]).length), w2.cell? ⟨g, i, none⟩ = some (.int .u64 ((zs ++ [may])[i] : Nat)) := fun i h => by
      have h2 := World.ownsRow.cellAt HW.out i (by simp at h; have := HLn.out; omega)
      rw [h2, HO3.out]
      have : (zs.map (fun z => Value.int .u64 (z : Nat)) ++ [Value.int .u64 (may : Nat)]) = (zs ++ [may]).map (fun z => Value.int .u64 (z : Nat)) := by simp
      rw [this, List.getElem?_map, List.getElem?_eq_getElem h]
      rfl
    have hT2 : Tab w2 := fun j hj => (hB.cell (p := ⟨0, j, none⟩) hg).trans (HTab.out j hj)
    have hLs : ∀ z ∈ zs ++ [may], Small z := fun z h => by
      rcases List.mem_append.1 h with h | h
      · exact HZ.out z h
      · simp at h; rw [h]; exact HM.out
    have hLl : (zs ++ [may]).length = len + 1 := by simp [HLn.out]
    have HBl := Lib.hid hB
    have HL := Lib.hid hL
    have HT2 := Lib.hid hT2
    have HLs := Lib.hid hLs
    have HLl := Lib.hid hLl
    generalize zs ++ [may] = L at *
    clear hB hL hT2 hLs hLl HW HG HO1 HO2 HO3 HZ HTab HLn
    go_loop [8, 30] (fun o i => ∃ (k out : Nat), k ≤ len + 1 ∧ i = .int .i64 k ∧ o = .int .u64 out ∧ Hid (Small out ∧ chooseL may width out (L.drop k) = t)) (fun _ i => len + 1 - (intOf i).toNat)
    case atStart => exact ⟨0, 0, Nat.zero_le _, rfl, rfl, Lib.hid ⟨by unfold Small; decide, HT.out⟩⟩
    case round =>
      obtain ⟨k, out, hk, rfl, rfl, H⟩ := hrel
      by_cases hlt : k < len + 1
      · have hkl : k < L.length := by rw [HLl.out]; exact hlt
        have hcell := HL.out k hkl
        have hx : Small L[k] := HLs.out _ (List.getElem_mem hkl)
        have hd : L.drop k = L[k] :: L.drop (k + 1) := List.drop_eq_getElem_cons hkl
        have hc := H.out.2
        rw [hd] at hc
        have ho := H.out.1
        have hpo := pop_le out
        have cl := fun W => len_any out ho W
        by_cases hz : width - (pop out : Int) = 0
        · have et : t = out := by rw [← hc]; unfold chooseL; rw [if_pos hz]
          have CL := Lib.hid cl
          have b2 : IntKind.i64.wrap (width - (pop out : Int)) = 0 := by rw [IntKind.wrap_i64]; omega
          have b3 : wrap64 (width - (pop out : Int)) = 0 := by unfold wrap64; omega
          generalize pop out = q at *
          generalize L[k] = x at *
          have ET := Lib.hid et
          clear cl hx hd hc ho hkl et
          go_wp2_with (first | (go_at_call 21; (with_reducible refine Calls.mono (CL.out _) ?_); rintro e w' ⟨rfl, rfl⟩))
          rw [Exit.noGoto_ret]
          go_ret2
          exact ⟨by rw [ET.out]; rfl, HBl.out⟩
        · have en : chooseL may width (out ||| partOf may width out L[k]) (L.drop (k + 1)) = t := by rw [← hc]; conv => rhs; unfold chooseL; rw [if_neg hz]
          have hm' := HM.out
          have s1 : Small (may &&& L[k]) := and_small hm'
          have s2 : Small (less (may &&& L[k]) out) := less_small s1
          have c1 := fun W => and_any may L[k] hm' hx W
          have c2 := fun W => less_any (may &&& L[k]) out s1 ho W
          have c3 := some_any (less (may &&& L[k]) out) (width - pop out) s2 w2 HT2.out
          have s3 : Small (partOf may width out L[k]) := takeR_small _ _ _ (by unfold Small; decide)
          have c4 := fun W => or_any out (partOf may width out L[k]) ho s3 W
          have s4 : Small (out ||| partOf may width out L[k]) := or_small ho s3
          have c3' : Calls Tryd.prog 35 #[.int .u64 (less (may &&& L[k]) out : Nat), .int .i64 (width - pop out)] w2 fun e w' => e = .returned (.int .u64 (partOf may width out L[k] : Nat)) ∧ w2 = w' := c3
          have HE := Lib.hid (And.intro s4 en)
          have b2 : wrap64 (width - (pop out : Int)) = width - (pop out : Int) := by unfold wrap64; omega
          obtain ⟨D, hD⟩ : ∃ D, width - (pop out : Int) = D := ⟨_, rfl⟩
          have b3 : (D == 0) = false := beq_eq_false_iff_ne.mpr (by omega)
          have b4 : IntKind.i64.wrap (width - (pop out : Int)) = D := by rw [IntKind.wrap_i64]; omega
          rw [hD] at c3' b2
          generalize (out ||| partOf may width out L[k]) = out' at *
          generalize partOf may width out L[k] = pt at *
          generalize less (may &&& L[k]) out = ls at *
          generalize may &&& L[k] = an at *
          generalize L[k] = x at *
          have hq := hpo
          generalize pop out = q at *
          have CL := Lib.hid cl
          have C1 := Lib.hid c1
          have C2 := Lib.hid c2
          have C3 := Lib.hid c3'
          have C4 := Lib.hid c4
          have HD := Lib.hid hD
          clear cl c1 c2 c3 c3' c4 hx hd hc ho hkl en s1 s2 s3 s4 hm' hz hD b2 hpo
          go_wp2_with (first | (go_at_call 21; (with_reducible refine Calls.mono (CL.out _) ?_); rintro e w' ⟨rfl, rfl⟩) | (go_at_call 23; (with_reducible refine Calls.mono (C1.out _) ?_); rintro e w' ⟨rfl, rfl⟩) | (go_at_call 25; (with_reducible refine Calls.mono (C2.out _) ?_); rintro e w' ⟨rfl, rfl⟩) | (go_at_call 35; (with_reducible refine Calls.mono C3.out ?_); rintro e w' ⟨rfl, rfl⟩) | (go_at_call 24; (with_reducible refine Calls.mono (C4.out _) ?_); rintro e w' ⟨rfl, rfl⟩))
          go_round
          case rel => exact ⟨k + 1, out', by omega, by go_num, rfl, HE⟩
          case measure => simp [intOf]; omega
      · have e : t = out := by
          have h1 := H.out.2
          rw [List.drop_of_length_le (by have := HLl.out; omega)] at h1
          exact h1.symm
        go_wp2
        go_ret2
        exact ⟨by rw [e]; rfl, HBl.out⟩
  | some b =>
    have HB := Lib.hid (HO2.out b rfl)
    clear HA HC
    go_enter Tryd.func9, Tryd.ntmps9
    go_wp2
    go_step3
    go_wp2_with (first | (go_at_call 21; refine (C.out _).mono ?_; rintro e w' ⟨rfl, rfl⟩))
    go_step3
    go_wp2_with (at_builtin; refine wpList_append_grows _ rfl _ _ 24 rfl 23 i0 (.int .u64 0) 1 8 Tryd.underlying24 hi hz0 hz1 hz2 rfl (by decide) (some b) len len olds rfl (fun h => by cases h) HO1.out (fun b' hb j u hj => by cases hb; exact (World.cell?_alloc_lt _ _ _ (World.block_lt_of_cell? _ _ (HB.out j u hj))).trans (HB.out j u hj)) ⟨w.heap.size, 0, none⟩ 1 1 [.int .u64 (may : Nat)] rfl rfl (cell_one_new _ _ _) (by simp [Value.oneCell']) (by omega) (by unfold maxLen; omega) (by omega) ?_; intro v2 w2 hown hgrow; obtain ⟨g, cap2, rfl⟩ := ownsRow_succ hown; have HW := Lib.hid hown; have HG := Lib.hid hgrow; clear hown hgrow)
    have hB : Below w.heap.size w w2 := ((Below.refl _ _).alloc (Nat.le_refl _) _).grown HG.out (by simp) (fun k hk => by cases hk)
    have hL : ∀ i (h : i < (zs ++ [may]).length), w2.cell? ⟨g, i, none⟩ = some (.int .u64 ((zs ++ [may])[i] : Nat)) := fun i h => by
      have h2 := World.ownsRow.cellAt HW.out i (by simp at h; have := HLn.out; omega)
      rw [h2, HO3.out]
      have : (zs.map (fun z => Value.int .u64 (z : Nat)) ++ [Value.int .u64 (may : Nat)]) = (zs ++ [may]).map (fun z => Value.int .u64 (z : Nat)) := by simp
      rw [this, List.getElem?_map, List.getElem?_eq_getElem h]
      rfl
    have hT2 : Tab w2 := fun j hj => (hB.cell (p := ⟨0, j, none⟩) hg).trans (HTab.out j hj)
    have hLs : ∀ z ∈ zs ++ [may], Small z := fun z h => by
      rcases List.mem_append.1 h with h | h
      · exact HZ.out z h
      · simp at h; rw [h]; exact HM.out
    have hLl : (zs ++ [may]).length = len + 1 := by simp [HLn.out]
    have HBl := Lib.hid hB
    have HL := Lib.hid hL
    have HT2 := Lib.hid hT2
    have HLs := Lib.hid hLs
    have HLl := Lib.hid hLl
    generalize zs ++ [may] = L at *
    clear hB hL hT2 hLs hLl HW HG HO1 HO2 HO3 HZ HTab HLn
    go_loop [8, 30] (fun o i => ∃ (k out : Nat), k ≤ len + 1 ∧ i = .int .i64 k ∧ o = .int .u64 out ∧ Hid (Small out ∧ chooseL may width out (L.drop k) = t)) (fun _ i => len + 1 - (intOf i).toNat)
    case atStart => exact ⟨0, 0, Nat.zero_le _, rfl, rfl, Lib.hid ⟨by unfold Small; decide, HT.out⟩⟩
    case round =>
      obtain ⟨k, out, hk, rfl, rfl, H⟩ := hrel
      by_cases hlt : k < len + 1
      · have hkl : k < L.length := by rw [HLl.out]; exact hlt
        have hcell := HL.out k hkl
        have hx : Small L[k] := HLs.out _ (List.getElem_mem hkl)
        have hd : L.drop k = L[k] :: L.drop (k + 1) := List.drop_eq_getElem_cons hkl
        have hc := H.out.2
        rw [hd] at hc
        have ho := H.out.1
        have hpo := pop_le out
        have cl := fun W => len_any out ho W
        by_cases hz : width - (pop out : Int) = 0
        · have et : t = out := by rw [← hc]; unfold chooseL; rw [if_pos hz]
          have CL := Lib.hid cl
          have b2 : IntKind.i64.wrap (width - (pop out : Int)) = 0 := by rw [IntKind.wrap_i64]; omega
          have b3 : wrap64 (width - (pop out : Int)) = 0 := by unfold wrap64; omega
          generalize pop out = q at *
          generalize L[k] = x at *
          have ET := Lib.hid et
          clear cl hx hd hc ho hkl et
          go_wp2_with (first | (go_at_call 21; (with_reducible refine Calls.mono (CL.out _) ?_); rintro e w' ⟨rfl, rfl⟩))
          rw [Exit.noGoto_ret]
          go_ret2
          exact ⟨by rw [ET.out]; rfl, HBl.out⟩
        · have en : chooseL may width (out ||| partOf may width out L[k]) (L.drop (k + 1)) = t := by rw [← hc]; conv => rhs; unfold chooseL; rw [if_neg hz]
          have hm' := HM.out
          have s1 : Small (may &&& L[k]) := and_small hm'
          have s2 : Small (less (may &&& L[k]) out) := less_small s1
          have c1 := fun W => and_any may L[k] hm' hx W
          have c2 := fun W => less_any (may &&& L[k]) out s1 ho W
          have c3 := some_any (less (may &&& L[k]) out) (width - pop out) s2 w2 HT2.out
          have s3 : Small (partOf may width out L[k]) := takeR_small _ _ _ (by unfold Small; decide)
          have c4 := fun W => or_any out (partOf may width out L[k]) ho s3 W
          have s4 : Small (out ||| partOf may width out L[k]) := or_small ho s3
          have c3' : Calls Tryd.prog 35 #[.int .u64 (less (may &&& L[k]) out : Nat), .int .i64 (width - pop out)] w2 fun e w' => e = .returned (.int .u64 (partOf may width out L[k] : Nat)) ∧ w2 = w' := c3
          have HE := Lib.hid (And.intro s4 en)
          have b2 : wrap64 (width - (pop out : Int)) = width - (pop out : Int) := by unfold wrap64; omega
          obtain ⟨D, hD⟩ : ∃ D, width - (pop out : Int) = D := ⟨_, rfl⟩
          have b3 : (D == 0) = false := beq_eq_false_iff_ne.mpr (by omega)
          have b4 : IntKind.i64.wrap (width - (pop out : Int)) = D := by rw [IntKind.wrap_i64]; omega
          rw [hD] at c3' b2
          generalize (out ||| partOf may width out L[k]) = out' at *
          generalize partOf may width out L[k] = pt at *
          generalize less (may &&& L[k]) out = ls at *
          generalize may &&& L[k] = an at *
          generalize L[k] = x at *
          have hq := hpo
          generalize pop out = q at *
          have CL := Lib.hid cl
          have C1 := Lib.hid c1
          have C2 := Lib.hid c2
          have C3 := Lib.hid c3'
          have C4 := Lib.hid c4
          have HD := Lib.hid hD
          clear cl c1 c2 c3 c3' c4 hx hd hc ho hkl en s1 s2 s3 s4 hm' hz hD b2 hpo
          go_wp2_with (first | (go_at_call 21; (with_reducible refine Calls.mono (CL.out _) ?_); rintro e w' ⟨rfl, rfl⟩) | (go_at_call 23; (with_reducible refine Calls.mono (C1.out _) ?_); rintro e w' ⟨rfl, rfl⟩) | (go_at_call 25; (with_reducible refine Calls.mono (C2.out _) ?_); rintro e w' ⟨rfl, rfl⟩) | (go_at_call 35; (with_reducible refine Calls.mono C3.out ?_); rintro e w' ⟨rfl, rfl⟩) | (go_at_call 24; (with_reducible refine Calls.mono (C4.out _) ?_); rintro e w' ⟨rfl, rfl⟩))
          go_round
          case rel => exact ⟨k + 1, out', by omega, by go_num, rfl, HE⟩
          case measure => simp [intOf]; omega
      · have e : t = out := by
          have h1 := H.out.2
          rw [List.drop_of_length_le (by have := HLl.out; omega)] at h1
          exact h1.symm
        go_wp2
        go_ret2
        exact ⟨by rw [e]; rfl, HBl.out⟩
end Go.Proofs.YtlecgedmdaenaaaDoor.Bits
