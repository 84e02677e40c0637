/- The plain law of PickChooses: the reference's choice, node by node, is the code's, set by set. -/
import Derived.Test.YtlecgedmdaenaaaDoorRefCh
namespace Go.Proofs.YtlecgedmdaenaaaDoor.Bits
open Go.RowKit Go.Proofs.YtlecgedmdaenaaaDoor.K

theorem ofU_filter (k : Nat) : ∀ n x, ofU k n x = ((List.range' n k).filter (fun i => x.testBit (i - n))).map (fun i : Nat => (i : Int)) := by
  induction k with
  | zero => intro n x; rfl
  | succ k ih =>
    intro n x
    have h : (List.range' (n + 1) k).filter (fun i => (x / 2).testBit (i - (n + 1))) = (List.range' (n + 1) k).filter (fun i => x.testBit (i - n)) := by
      refine List.filter_congr fun i hi => ?_
      rw [List.mem_range'_1] at hi
      rw [show i - n = (i - (n + 1)) + 1 by omega, Nat.testBit_succ]
    rw [ofU, ih, List.range'_succ, List.filter_cons, Nat.sub_self, Nat.testBit_zero, h]
    by_cases hx : x % 2 = 1 <;> simp [hx]
theorem ofL_filter (x : Nat) : ofL x = ((List.range 64).filter (fun i => x.testBit i)).map (fun i : Nat => (i : Int)) := by
  rw [ofL, ofU_filter, List.range_eq_range']; rfl
theorem ofL_iff {x : Nat} {y : Int} : y ∈ ofL x ↔ ∃ i : Nat, i < 64 ∧ tb x i ∧ y = i := by
  rw [ofL_filter, List.mem_map]
  constructor
  · rintro ⟨i, hi, rfl⟩
    rw [List.mem_filter, List.mem_range] at hi
    exact ⟨i, hi.1, hi.2, rfl⟩
  · rintro ⟨i, hi, ht, rfl⟩
    exact ⟨i, by rw [List.mem_filter, List.mem_range]; exact ⟨hi, ht⟩, rfl⟩
theorem ofL_cast {x i : Nat} (hi : i < 64) : (i : Int) ∈ ofL x ↔ tb x i := by
  rw [ofL_iff]
  constructor
  · rintro ⟨j, _, hj, e⟩; rw [show i = j by omega]; exact hj
  · exact fun h => ⟨i, hi, h, rfl⟩
theorem ofL_nodup (x : Nat) : (ofL x).Nodup := by
  rw [ofL_filter]
  exact List.Pairwise.map _ (fun a b h e => h (by omega)) (List.nodup_range.sublist List.filter_sublist)
theorem ofL_nodes (x : Nat) : Nodes (ofL x) := ⟨ofL_nodup x, fun _ h => ofL_mem h⟩
theorem ofL_sub {M M' : Nat} (q : Int → Bool) (h : ∀ i, i < 64 → (tb M' i ↔ tb M i ∧ q i = true)) : (ofL M).filter q = ofL M' := by
  rw [ofL_filter, ofL_filter, List.filter_map, List.filter_filter]
  congr 1
  refine List.filter_congr fun i hi => ?_
  rw [List.mem_range] at hi
  have := h i hi
  unfold tb at this
  rw [Bool.eq_iff_iff, Bool.and_eq_true, this]
  simp only [Function.comp]
  exact And.comm
theorem ofL_zero : ofL 0 = [] := by decide
theorem ofL_ofLow {x : Nat} (hx : Small x) (h : x ≠ 0) : ofL x = low x :: ofL (less x (bitN (low x))) := by
  obtain ⟨i, hi, hlt, ht, hmin⟩ := low_tb hx h
  have e : ofL (less x (bitN (low x))) = (ofL x).filter (fun y => decide (y ≠ (i : Int))) := by
    refine (ofL_sub _ fun j hj => ?_).symm
    rw [tb_less hx (bitN_small _), hi, tb_bitN hlt]
    simp; intro _; omega
  have hs : List.range 64 = List.range' 0 i ++ i :: List.range' (i + 1) (63 - i) := by
    rw [List.range_eq_range', ← List.range'_succ]
    have := List.range'_append_1 (s := 0) (m := i) (n := 63 - i + 1)
    rw [Nat.zero_add] at this
    rw [this]; congr 1; omega
  have h1 : (List.range' 0 i).filter (fun j => x.testBit j) = [] := List.filter_eq_nil_iff.2 fun j hj => hmin j (by rw [List.mem_range'_1] at hj; omega)
  have h2 : x.testBit i = true := ht
  rw [e, ofL_filter, hs, List.filter_append, h1, List.nil_append, List.filter_cons, if_pos h2, List.map_cons, List.filter_cons, if_neg (by simp), hi]
  congr 1
  refine (List.filter_eq_self.2 fun y hy => ?_).symm
  obtain ⟨j, hj, rfl⟩ := List.mem_map.1 hy
  rw [List.mem_filter, List.mem_range'_1] at hj
  simp; omega
theorem foldl_mk (l : List Int) : ∀ a, l.foldl (fun s n => s ||| bitN n) a = a ||| mk l := by
  induction l with
  | nil => intro a; simp [mk]
  | cons x l ih =>
    intro a
    have e : mk (x :: l) = (0 ||| bitN x) ||| mk l := ih (0 ||| bitN x)
    rw [List.foldl_cons, ih, e, Nat.zero_or, Nat.or_assoc]
theorem mk_cons (x : Int) (l : List Int) : mk (x :: l) = bitN x ||| mk l := by
  have e : mk (x :: l) = (0 ||| bitN x) ||| mk l := foldl_mk l (0 ||| bitN x)
  rw [e, Nat.zero_or]
theorem mk_append (a b : List Int) : mk (a ++ b) = mk a ||| mk b := by
  unfold mk
  rw [List.foldl_append]
  exact foldl_mk b _
theorem takeR_of (k : Nat) : ∀ o R, Small R → takeR k o R = o ||| mk ((ofL R).take k) := by
  induction k with
  | zero => intro o R _; simp [takeR, mk]
  | succ k ih =>
    intro o R hR
    rw [takeR, ih _ _ (less_small hR)]
    by_cases h : R = 0
    · subst h
      rw [show low 0 = -1 from rfl, show bitN (-1) = 0 from rfl, show less 0 0 = 0 from rfl, ofL_zero]
      simp [mk]
    · rw [ofL_ofLow hR h, List.take_succ_cons, mk_cons, Nat.or_assoc]
theorem pop_mk : ∀ l : List Int, Nodes l → pop (mk l) = l.length
  | [], _ => pop_zero
  | x :: l, h => by
    obtain ⟨h0, h1⟩ := h.2 x (by simp)
    have hl : Nodes l := ⟨(List.nodup_cons.1 h.1).2, fun y hy => h.2 y (by simp [hy])⟩
    obtain ⟨m, rfl⟩ := Int.eq_ofNat_of_zero_le h0
    rw [mk_cons, pop_or, pop_bitN (by omega), pop_mk l hl, List.length_cons]
    · omega
    · intro i ⟨hi, hj⟩
      rw [tb_bitN (by omega)] at hi
      subst hi
      rw [mk_iff hl.2] at hj
      exact (List.nodup_cons.1 h.1).1 hj
theorem mk_ofL {x : Nat} (hx : Small x) : mk (ofL x) = x := ext fun i => by
  by_cases hi : i < 64
  · rw [mk_iff (fun _ h => ofL_mem h), ofL_cast hi]
  · exact ⟨fun h => absurd (tb_small (mk_small _) h) hi, fun h => absurd (tb_small hx h) hi⟩

theorem roundR_eq (W : Int) (zs : List Nat) (k : Nat) : ∀ (l out : List Int), l.Nodup → roundR W zs l k out = out ++ (l.filter (fun x => !inL out x && wants zs k x)).take (W - out.length).toNat
  | [], out, _ => by simp [roundR]
  | x :: l, out, h => by
    obtain ⟨hx, hl⟩ := List.nodup_cons.1 h
    by_cases hw : (out.length : Int) < W
    · have e : roundR W zs (x :: l) k out = roundR W zs l k (stepR W zs k out x) := rfl
      rw [e]
      by_cases hc : inL out x = false ∧ wants zs k x = true
      · have es : stepR W zs k out x = out ++ [x] := by unfold stepR; rw [if_pos ⟨hw, hc.1, hc.2⟩]
        have ef : l.filter (fun y => !inL (out ++ [x]) y && wants zs k y) = l.filter (fun y => !inL out y && wants zs k y) := by
          refine List.filter_congr fun y hy => ?_
          have : inL (out ++ [x]) y = inL out y := by
            rw [Bool.eq_iff_iff, inL_iff, inL_iff, List.mem_append, List.mem_singleton]
            exact ⟨fun h => h.elim id (fun h' => absurd (h' ▸ hy) hx), .inl⟩
          rw [this]
        rw [es, roundR_eq W zs k l _ hl, ef, List.filter_cons, if_pos (by rw [hc.1, hc.2]; rfl), List.append_assoc]
        have : (W - out.length).toNat = (W - (out ++ [x]).length).toNat + 1 := by simp; omega
        rw [this, List.take_succ_cons]
        rfl
      · have es : stepR W zs k out x = out := by unfold stepR; rw [if_neg (fun h => hc h.2)]
        rw [es, roundR_eq W zs k l _ hl, List.filter_cons, if_neg]
        intro h
        rw [Bool.and_eq_true, Bool.not_eq_true'] at h
        exact hc h
    · rw [roundR_full _ _ hw, show (W - out.length).toNat = 0 by omega]
      simp
theorem outR_full {W : Int} {zs : List Nat} {l : List Int} : ∀ (m k : Nat) (out : List Int), ¬ (out.length : Int) < W → outR W zs l m k out = out
  | 0, _, _, _ => rfl
  | m + 1, k, out, h => by rw [outR, roundR_full _ _ h]; exact outR_full m (k + 1) out h

theorem out_choose {may : Nat} {W : Int} {zs : List Nat} (hm : Small may) (hz : ∀ z ∈ zs, Small z) : ∀ (m k : Nat) (out : List Int), m + k = zs.length + 1 → Nodes out →
    mk (outR W zs (ofL may) m k out) = chooseL may W (mk out) ((zs ++ [may]).drop k)
  | 0, k, out, hk, _ => by
    rw [List.drop_of_length_le (by simp; omega)]
    rfl
  | m + 1, k, out, hk, hn => by
    have hkl : k < (zs ++ [may]).length := by simp; omega
    rw [List.drop_eq_getElem_cons hkl, chooseL, pop_mk out hn]
    by_cases h0 : W - (out.length : Int) = 0
    · rw [if_pos h0, outR_full _ _ _ (by omega)]
    · rw [if_neg h0, outR]
      have hS : Small (zs ++ [may])[k] := by
        rcases List.mem_append.1 (List.getElem_mem hkl) with h | h
        · exact hz _ h
        · simp at h; rw [h]; exact hm
      have hw : ∀ i, i < 64 → tb may i → (wants zs k (i : Int) = true ↔ tb (zs ++ [may])[k] i) := fun i hi ht => by
        unfold wants
        by_cases hkz : k < zs.length
        · rw [List.getElem_append_left hkz, Bool.or_eq_true, inL_iff, decide_eq_true_iff, show zs.getD k 0 = zs[k] by simp [List.getD, hkz], ofL_cast hi]
          exact ⟨fun h => h.elim (fun h => by omega) id, .inr⟩
        · have e : k = zs.length := by simp at hkl; omega
          subst e
          simp [ht]
      have hf : (ofL may).filter (fun x => !inL out x && wants zs k x) = ofL (less (may &&& (zs ++ [may])[k]) (mk out)) := by
        refine ofL_sub _ fun i hi => ?_
        rw [tb_less (and_small hm) (mk_small _), tb_and, mk_iff hn.2, Bool.and_eq_true, Bool.not_eq_true', Bool.eq_false_iff, ne_eq, inL_iff]
        constructor
        · rintro ⟨⟨a, b⟩, c⟩; exact ⟨a, c, (hw i hi a).2 b⟩
        · rintro ⟨a, c, b⟩; exact ⟨⟨a, (hw i hi a).1 b⟩, c⟩
      have hr : roundR W zs (ofL may) k out = out ++ (ofL (less (may &&& (zs ++ [may])[k]) (mk out))).take (W - out.length).toNat := by rw [roundR_eq W zs k _ _ (ofL_nodup may), hf]
      rw [out_choose hm hz m (k + 1) _ (by omega) (roundR_nodes _ _ (fun _ h => ofL_mem h) hn), hr, mk_append]
      congr 2
      unfold partOf
      rw [takeR_of _ _ _ (less_small (and_small hm)), Nat.zero_or, pop_mk out hn]
      congr 1
      rw [← ofL_len]
      generalize ofL (less (may &&& (zs ++ [may])[k]) (mk out)) = R
      by_cases hle : (W - out.length).toNat ≤ R.length
      · congr 1; omega
      · rw [List.take_of_length_le (by omega), List.take_of_length_le (by omega)]
theorem choose_eq {may : Nat} {W : Int} {zs : List Nat} (hm : Small may) (hz : ∀ z ∈ zs, Small z) : mk (outR W zs (ofL may) (zs.length + 1) 0 []) = chooseL may W 0 (zs ++ [may]) := by
  have := out_choose (W := W) hm hz (zs.length + 1) 0 [] (by omega) nodes_nil
  exact this
end Go.Proofs.YtlecgedmdaenaaaDoor.Bits
