/- The walk of the law BitsOrders. -/
import Derived.Test.YtlecgedmdaenaaaDoorTInj
import Derived.Test.YtlecgedmdaenaaaDoorOne7
namespace Go.Proofs.YtlecgedmdaenaaaDoor.Bits
open Go.RowKit Go.Proofs.YtlecgedmdaenaaaDoor.K

theorem and63' (x : Int) : ∃ n : Nat, n < 64 ∧ bits .and .i64 x 63 = (n : Int) := by
  have h : (BitVec.ofInt 64 x &&& BitVec.ofInt 64 63).toNat ≤ 63 := by
    rw [BitVec.toNat_and]
    exact Nat.and_le_right
  refine ⟨(BitVec.ofInt 64 x &&& BitVec.ofInt 64 63).toNat, by omega, ?_⟩
  show IntKind.i64.wrap ((BitVec.ofInt 64 x &&& BitVec.ofInt 64 63).toNat : Int) = _
  rw [IntKind.wrap_i64]
  omega
theorem toList_inj {a b : ByteArray} (h : a.toList = b.toList) : a = b := by
  rw [ByteArray.toList_eq, ByteArray.toList_eq] at h
  exact ByteArray.ext (Array.ext' h)
theorem low_neg {x : Nat} : low x < 0 ↔ x = 0 := by
  unfold low
  split <;> simp [*]
/-- Whatever is taken lies ahead of whatever is left. -/
theorem take_ahead {a m k : Nat} (ha : Small a) (h : tb (takeR m 0 a) k) : low (less a (takeR m 0 a)) < 0 ∨ (k : Int) < low (less a (takeR m 0 a)) := by
  have hX : takeR m 0 a = mk ((ofL a).take m) := by rw [takeR_of _ _ _ ha, Nat.zero_or]
  rw [hX] at h ⊢
  have hXs := mk_small ((ofL a).take m)
  by_cases h0 : less a (mk ((ofL a).take m)) = 0
  · exact .inl (low_neg.2 h0)
  · obtain ⟨i, hi, hlt, hti, _⟩ := low_tb (less_small ha) h0
    refine .inr ?_
    rw [hi]
    rw [tb_less ha hXs, mk_iff_any] at hti
    rw [mk_iff_any] at h
    have hia : (i : Int) ∈ ofL a := (ofL_cast hlt).2 hti.1
    have hs := ofL_sorted a
    rw [← List.take_append_drop m (ofL a)] at hia hs
    rw [List.pairwise_append] at hs
    rcases List.mem_append.1 hia with h' | h'
    · exact absurd ⟨hlt, h'⟩ hti.2
    · exact hs.2.2 _ h.2 _ h'

set_option maxRecDepth 100000 in
set_option maxHeartbeats 8000000 in
theorem orders_any (a b : Nat) (n : Int) (ha : Small a) (hb : Small b) (w : World) (hT : Tab w) (hg : 0 < w.heap.size) :
    Calls Tryd.prog 7 #[.int .u64 a, .int .u64 b, .int .i64 n] w fun e w' => e = .returned (.bool true) ∧ Below w.heap.size w w' := by
  obtain ⟨m, hm, hn⟩ := and63' n
  obtain ⟨p, hp⟩ : ∃ p, pop a = p := ⟨_, rfl⟩
  have hp64 : p ≤ 64 := by rw [← hp]; exact pop_le a
  have CLa := Lib.hid (fun W => len_any a ha W)
  rw [hp] at CLa
  have CNo := Lib.hid (fun W (h : (pop a : Int) < m) => take_no a m ha h W)
  have CYe := Lib.hid (fun W (h : (m : Int) ≤ (pop a : Int)) (hW : Tab W) => take_yes a m ha h W hW)
  rw [hp] at CNo CYe
  rw [show ((m : Int)).toNat = m by omega] at CYe
  have CLo := Lib.hid (fun W (hW : Tab W) => lowest_any a ha W hW)
  have hlz : (low a < 0) ↔ a = 0 := low_neg
  have CTa := Lib.hid (fun W (h1 : Tab W) (h2 : 0 < W.heap.size) => text_call a ha W h1 h2)
  have CTb := Lib.hid (fun W (h1 : Tab W) (h2 : 0 < W.heap.size) => text_call b hb W h1 h2)
  have CO := Lib.hid (fun W (hTW : Tab W) (hgW : 0 < W.heap.size) => one7_any W hTW hgW)
  have hinj : textC a = textC b ↔ a = b := ⟨text_inj ha hb, fun h => by rw [h]⟩
  have HA := Lib.hid ha
  have HT := Lib.hid hT
  have HP := Lib.hid hp
  generalize textC a = ta at *
  generalize textC b = tbb at *
  generalize low a = la at *
  have HI := Lib.hid hinj
  have HZ := Lib.hid hlz
  clear ha hb hT hp hinj hlz
  by_cases hle : (m : Int) ≤ (p : Int)
  · have hd : decide ((m : Int) ≤ (p : Int)) = true := decide_eq_true hle
    have hd2 : decide (m ≤ p) = true := decide_eq_true (by omega)
    have C27 := Lib.hid (fun W (hW : Tab W) => CYe.out W hle hW)
    obtain ⟨x1, x2, x3, _⟩ := takeR_spec m 0 a small_zero HA.out (fun i h => not_tb_zero i h.1) (by rw [HP.out]; omega)
    rw [pop_zero, Nat.zero_add] at x2
    have x3' : ∀ i, tb (takeR m 0 a) i → tb a i := fun i h => (x3 i h).elim (fun h' => absurd h' (not_tb_zero i)) id
    have hah := fun k => take_ahead (m := m) (k := k) HA.out
    have hsp := pop_split HA.out x1 x3'
    rw [HP.out, x2] at hsp
    have hlz0 : less (takeR m 0 a) a = 0 := nil_of fun i h => ((tb_less x1 HA.out).1 h).2 (x3' i ((tb_less x1 HA.out).1 h).1)
    have hrs : Small (less a (takeR m 0 a)) := less_small HA.out
    have D1 := Lib.hid (fun W => less_any a (takeR m 0 a) HA.out x1 W)
    have D2 := Lib.hid (fun W => less_any (takeR m 0 a) a x1 HA.out W)
    rw [hlz0] at D2
    have D3 := Lib.hid (fun W => len_any (takeR m 0 a) x1 W)
    rw [x2] at D3
    have D4 := Lib.hid (fun W => len_any (less a (takeR m 0 a)) hrs W)
    have D5 := Lib.hid (fun k W => has_any (takeR m 0 a) k x1 W)
    have D6 := Lib.hid (fun W (hW : Tab W) => lowest_any (less a (takeR m 0 a)) hrs W hW)
    have hkey : ∀ k : Nat, k < 64 → has (takeR m 0 a) (k : Int) = true → low (less a (takeR m 0 a)) < 0 ∨ (k : Int) < low (less a (takeR m 0 a)) := fun k hk h => hah k ((has_iff hk).1 h)
    have HK := Lib.hid hkey
    clear hkey hah x1 x2 x3 x3' hlz0 hrs
    generalize low (less a (takeR m 0 a)) = lr at *
    generalize pop (less a (takeR m 0 a)) = q at *
    generalize has (takeR m 0 a) = hx at *
    generalize less a (takeR m 0 a) = R at *
    generalize takeR m 0 a = X at *
    have hq : ((q : Int) != (p : Int) - m) = false := by simp; omega
    have hmm : ((m : Int) != (m : Int)) = false := by simp
    clear hsp CNo CYe
    go_enter Tryd.func7, Tryd.ntmps7
    go_wp2_with (first | (go_at_call 27; (with_reducible refine Calls.mono (C27.out _ ?_) ?_); (· exact HT.out); rintro e w' ⟨rfl, rfl⟩) | (go_at_call 21; (with_reducible refine Calls.mono (CLa.out _) ?_); rintro e w' ⟨rfl, rfl⟩) | (go_at_call 25; (with_reducible refine Calls.mono (D1.out _) ?_); rintro e w' ⟨rfl, rfl⟩) | (go_at_call 25; (with_reducible refine Calls.mono (D2.out _) ?_); rintro e w' ⟨rfl, rfl⟩) | (go_at_call 21; (with_reducible refine Calls.mono (D3.out _) ?_); rintro e w' ⟨rfl, rfl⟩) | (go_at_call 21; (with_reducible refine Calls.mono (D4.out _) ?_); rintro e w' ⟨rfl, rfl⟩))
    go_loop [10] (fun s => ∃ k : Nat, k ≤ 64 ∧ s = .int .i64 k) (fun s => 64 - (intOf s).toNat)
    case atStart => exact ⟨0, by omega, rfl⟩
    case round =>
      obtain ⟨k, hk, rfl⟩ := hrel
      by_cases hlt : k < 64
      · have d5 := fun W => D5.out (k : Int) W
        have hkk := HK.out k hlt
        generalize hx (k : Int) = h at *
        have D7 := Lib.hid d5
        clear d5
        have key : h = false ∨ (h = true ∧ lr < 0) ∨ (h = true ∧ 0 ≤ lr ∧ (k : Int) < lr) := by
          cases h
          · exact .inl rfl
          · rcases hkk rfl with h' | h'
            · exact .inr (.inl ⟨rfl, h'⟩)
            · exact .inr (.inr ⟨rfl, by omega, h'⟩)
        clear hkk
        rcases key with rfl | ⟨rfl, h1⟩ | ⟨rfl, h1, h2⟩
        · go_wp2_with (first | (go_at_call 19; (with_reducible refine Calls.mono (D7.out _) ?_); rintro e w' ⟨rfl, rfl⟩))
          go_round
          case rel => exact ⟨k + 1, by omega, by go_num⟩
          case measure => simp [intOf]; omega
        · have g1 : decide (0 ≤ lr) = false := decide_eq_false (by omega)
          go_wp2_with (first | (go_at_call 19; (with_reducible refine Calls.mono (D7.out _) ?_); rintro e w' ⟨rfl, rfl⟩) | (go_at_call 28; (with_reducible refine Calls.mono (D6.out _ ?_) ?_); (· exact HT.out); rintro e w' ⟨rfl, rfl⟩))
          go_round
          case rel => exact ⟨k + 1, by omega, by go_num⟩
          case measure => simp [intOf]; omega
        · have g1 : decide (0 ≤ lr) = true := decide_eq_true h1
          have g2 : decide (lr ≤ (k : Int)) = false := decide_eq_false (by omega)
          go_wp2_with (first | (go_at_call 19; (with_reducible refine Calls.mono (D7.out _) ?_); rintro e w' ⟨rfl, rfl⟩) | (go_at_call 28; (with_reducible refine Calls.mono (D6.out _ ?_) ?_); (· exact HT.out); rintro e w' ⟨rfl, rfl⟩))
          go_round
          case rel => exact ⟨k + 1, by omega, by go_num⟩
          case measure => simp [intOf]; omega
      · obtain rfl : k = 64 := by omega
        clear hlt hk
        by_cases hab : a = b
        · subst hab
          obtain rfl : ta = tbb := HI.out.2 rfl
          have e1 : (ta.toList == ta.toList) = true := by simp
          have e2 : ((a : Int) == (a : Int)) = true := by simp
          by_cases hz : a = 0
          · have z1 : decide (la < 0) = true := decide_eq_true (HZ.out.2 hz)
            have z2 : ((a : Int) == 0) = true := beq_iff_eq.mpr (by omega)
            clear hz
            go_wp2_with (first | (go_at_call 31; (with_reducible refine Calls.mono (CTa.out _ ?_ ?_) ?_); (· exact HT.out); (· exact hg); rintro e w1 ⟨rfl, hb1⟩; have HB1 := Lib.hid hb1; clear hb1 CTa) | (go_at_call 31; (with_reducible refine Calls.mono (CTb.out _ ?_ ?_) ?_); (· exact tab_below HT.out hg HB1.out); (· have := HB1.out.size; omega); rintro e w2 ⟨rfl, hb2⟩; have HB2 := Lib.hid (HB1.out.trans (hb2.mono HB1.out.size)); clear hb2) | (go_at_call 28; (with_reducible refine Calls.mono (CLo.out _ ?_) ?_); (· exact tab_below HT.out hg HB2.out); rintro e w' ⟨rfl, rfl⟩))
            with_reducible refine Calls.mono (CO.out _ ?_ ?_) ?_
            · exact tab_below HT.out hg HB2.out
            · have := HB2.out.size; omega
            rintro e w6 ⟨rfl, hb6⟩
            have HB6 := Lib.hid (HB2.out.trans (hb6.mono HB2.out.size))
            clear hb6
            go_wp2_with fail
            go_ret
            exact ⟨rfl, HB6.out⟩
          · have z1 : decide (la < 0) = false := decide_eq_false (fun h => hz (HZ.out.1 h))
            have z2 : ((a : Int) == 0) = false := beq_eq_false_iff_ne.mpr (by omega)
            clear hz
            go_wp2_with (first | (go_at_call 31; (with_reducible refine Calls.mono (CTa.out _ ?_ ?_) ?_); (· exact HT.out); (· exact hg); rintro e w1 ⟨rfl, hb1⟩; have HB1 := Lib.hid hb1; clear hb1 CTa) | (go_at_call 31; (with_reducible refine Calls.mono (CTb.out _ ?_ ?_) ?_); (· exact tab_below HT.out hg HB1.out); (· have := HB1.out.size; omega); rintro e w2 ⟨rfl, hb2⟩; have HB2 := Lib.hid (HB1.out.trans (hb2.mono HB1.out.size)); clear hb2) | (go_at_call 28; (with_reducible refine Calls.mono (CLo.out _ ?_) ?_); (· exact tab_below HT.out hg HB2.out); rintro e w' ⟨rfl, rfl⟩))
            with_reducible refine Calls.mono (CO.out _ ?_ ?_) ?_
            · exact tab_below HT.out hg HB2.out
            · have := HB2.out.size; omega
            rintro e w6 ⟨rfl, hb6⟩
            have HB6 := Lib.hid (HB2.out.trans (hb6.mono HB2.out.size))
            clear hb6
            go_wp2_with fail
            go_ret
            exact ⟨rfl, HB6.out⟩
        · have e1 : (ta.toList == tbb.toList) = false := beq_eq_false_iff_ne.mpr fun h => hab (HI.out.1 (toList_inj h))
          have e2 : ((a : Int) == (b : Int)) = false := beq_eq_false_iff_ne.mpr (by omega)
          by_cases hz : a = 0
          · have z1 : decide (la < 0) = true := decide_eq_true (HZ.out.2 hz)
            have z2 : ((a : Int) == 0) = true := beq_iff_eq.mpr (by omega)
            clear hz hab
            go_wp2_with (first | (go_at_call 31; (with_reducible refine Calls.mono (CTa.out _ ?_ ?_) ?_); (· exact HT.out); (· exact hg); rintro e w1 ⟨rfl, hb1⟩; have HB1 := Lib.hid hb1; clear hb1 CTa) | (go_at_call 31; (with_reducible refine Calls.mono (CTb.out _ ?_ ?_) ?_); (· exact tab_below HT.out hg HB1.out); (· have := HB1.out.size; omega); rintro e w2 ⟨rfl, hb2⟩; have HB2 := Lib.hid (HB1.out.trans (hb2.mono HB1.out.size)); clear hb2) | (go_at_call 28; (with_reducible refine Calls.mono (CLo.out _ ?_) ?_); (· exact tab_below HT.out hg HB2.out); rintro e w' ⟨rfl, rfl⟩))
            with_reducible refine Calls.mono (CO.out _ ?_ ?_) ?_
            · exact tab_below HT.out hg HB2.out
            · have := HB2.out.size; omega
            rintro e w6 ⟨rfl, hb6⟩
            have HB6 := Lib.hid (HB2.out.trans (hb6.mono HB2.out.size))
            clear hb6
            go_wp2_with fail
            go_ret
            exact ⟨rfl, HB6.out⟩
          · have z1 : decide (la < 0) = false := decide_eq_false (fun h => hz (HZ.out.1 h))
            have z2 : ((a : Int) == 0) = false := beq_eq_false_iff_ne.mpr (by omega)
            clear hz hab
            go_wp2_with (first | (go_at_call 31; (with_reducible refine Calls.mono (CTa.out _ ?_ ?_) ?_); (· exact HT.out); (· exact hg); rintro e w1 ⟨rfl, hb1⟩; have HB1 := Lib.hid hb1; clear hb1 CTa) | (go_at_call 31; (with_reducible refine Calls.mono (CTb.out _ ?_ ?_) ?_); (· exact tab_below HT.out hg HB1.out); (· have := HB1.out.size; omega); rintro e w2 ⟨rfl, hb2⟩; have HB2 := Lib.hid (HB1.out.trans (hb2.mono HB1.out.size)); clear hb2) | (go_at_call 28; (with_reducible refine Calls.mono (CLo.out _ ?_) ?_); (· exact tab_below HT.out hg HB2.out); rintro e w' ⟨rfl, rfl⟩))
            with_reducible refine Calls.mono (CO.out _ ?_ ?_) ?_
            · exact tab_below HT.out hg HB2.out
            · have := HB2.out.size; omega
            rintro e w6 ⟨rfl, hb6⟩
            have HB6 := Lib.hid (HB2.out.trans (hb6.mono HB2.out.size))
            clear hb6
            go_wp2_with fail
            go_ret
            exact ⟨rfl, HB6.out⟩
  · have hd : decide ((m : Int) ≤ (p : Int)) = false := decide_eq_false hle
    have hd2 : decide (m ≤ p) = false := decide_eq_false (by omega)
    have C27 := Lib.hid (fun W => CNo.out W (by omega))
    clear CNo CYe
    go_enter Tryd.func7, Tryd.ntmps7
    by_cases hab : a = b
    · subst hab
      obtain rfl : ta = tbb := HI.out.2 rfl
      have e1 : (ta.toList == ta.toList) = true := by simp
      have e2 : ((a : Int) == (a : Int)) = true := by simp
      by_cases hz : a = 0
      · have z1 : decide (la < 0) = true := decide_eq_true (HZ.out.2 hz)
        have z2 : ((a : Int) == 0) = true := beq_iff_eq.mpr (by omega)
        clear hz
        go_wp2_with (first | (go_at_call 27; (with_reducible refine Calls.mono (C27.out _) ?_); rintro e w' ⟨rfl, rfl⟩) | (go_at_call 21; (with_reducible refine Calls.mono (CLa.out _) ?_); rintro e w' ⟨rfl, rfl⟩) | (go_at_call 31; (with_reducible refine Calls.mono (CTa.out _ ?_ ?_) ?_); (· exact HT.out); (· exact hg); rintro e w1 ⟨rfl, hb1⟩; have HB1 := Lib.hid hb1; clear hb1 CTa) | (go_at_call 31; (with_reducible refine Calls.mono (CTb.out _ ?_ ?_) ?_); (· exact tab_below HT.out hg HB1.out); (· have := HB1.out.size; omega); rintro e w2 ⟨rfl, hb2⟩; have HB2 := Lib.hid (HB1.out.trans (hb2.mono HB1.out.size)); clear hb2) | (go_at_call 28; (with_reducible refine Calls.mono (CLo.out _ ?_) ?_); (· exact tab_below HT.out hg HB2.out); rintro e w' ⟨rfl, rfl⟩))
        with_reducible refine Calls.mono (CO.out _ ?_ ?_) ?_
        · exact tab_below HT.out hg HB2.out
        · have := HB2.out.size; omega
        rintro e w6 ⟨rfl, hb6⟩
        have HB6 := Lib.hid (HB2.out.trans (hb6.mono HB2.out.size))
        clear hb6
        go_wp2_with fail
        go_ret
        exact ⟨rfl, HB6.out⟩
      · have z1 : decide (la < 0) = false := decide_eq_false (fun h => hz (HZ.out.1 h))
        have z2 : ((a : Int) == 0) = false := beq_eq_false_iff_ne.mpr (by omega)
        clear hz
        go_wp2_with (first | (go_at_call 27; (with_reducible refine Calls.mono (C27.out _) ?_); rintro e w' ⟨rfl, rfl⟩) | (go_at_call 21; (with_reducible refine Calls.mono (CLa.out _) ?_); rintro e w' ⟨rfl, rfl⟩) | (go_at_call 31; (with_reducible refine Calls.mono (CTa.out _ ?_ ?_) ?_); (· exact HT.out); (· exact hg); rintro e w1 ⟨rfl, hb1⟩; have HB1 := Lib.hid hb1; clear hb1 CTa) | (go_at_call 31; (with_reducible refine Calls.mono (CTb.out _ ?_ ?_) ?_); (· exact tab_below HT.out hg HB1.out); (· have := HB1.out.size; omega); rintro e w2 ⟨rfl, hb2⟩; have HB2 := Lib.hid (HB1.out.trans (hb2.mono HB1.out.size)); clear hb2) | (go_at_call 28; (with_reducible refine Calls.mono (CLo.out _ ?_) ?_); (· exact tab_below HT.out hg HB2.out); rintro e w' ⟨rfl, rfl⟩))
        with_reducible refine Calls.mono (CO.out _ ?_ ?_) ?_
        · exact tab_below HT.out hg HB2.out
        · have := HB2.out.size; omega
        rintro e w6 ⟨rfl, hb6⟩
        have HB6 := Lib.hid (HB2.out.trans (hb6.mono HB2.out.size))
        clear hb6
        go_wp2_with fail
        go_ret
        exact ⟨rfl, HB6.out⟩
    · have e1 : (ta.toList == tbb.toList) = false := beq_eq_false_iff_ne.mpr fun h => hab (HI.out.1 (toList_inj h))
      have e2 : ((a : Int) == (b : Int)) = false := beq_eq_false_iff_ne.mpr (by omega)
      by_cases hz : a = 0
      · have z1 : decide (la < 0) = true := decide_eq_true (HZ.out.2 hz)
        have z2 : ((a : Int) == 0) = true := beq_iff_eq.mpr (by omega)
        clear hz hab
        go_wp2_with (first | (go_at_call 27; (with_reducible refine Calls.mono (C27.out _) ?_); rintro e w' ⟨rfl, rfl⟩) | (go_at_call 21; (with_reducible refine Calls.mono (CLa.out _) ?_); rintro e w' ⟨rfl, rfl⟩) | (go_at_call 31; (with_reducible refine Calls.mono (CTa.out _ ?_ ?_) ?_); (· exact HT.out); (· exact hg); rintro e w1 ⟨rfl, hb1⟩; have HB1 := Lib.hid hb1; clear hb1 CTa) | (go_at_call 31; (with_reducible refine Calls.mono (CTb.out _ ?_ ?_) ?_); (· exact tab_below HT.out hg HB1.out); (· have := HB1.out.size; omega); rintro e w2 ⟨rfl, hb2⟩; have HB2 := Lib.hid (HB1.out.trans (hb2.mono HB1.out.size)); clear hb2) | (go_at_call 28; (with_reducible refine Calls.mono (CLo.out _ ?_) ?_); (· exact tab_below HT.out hg HB2.out); rintro e w' ⟨rfl, rfl⟩))
        with_reducible refine Calls.mono (CO.out _ ?_ ?_) ?_
        · exact tab_below HT.out hg HB2.out
        · have := HB2.out.size; omega
        rintro e w6 ⟨rfl, hb6⟩
        have HB6 := Lib.hid (HB2.out.trans (hb6.mono HB2.out.size))
        clear hb6
        go_wp2_with fail
        go_ret
        exact ⟨rfl, HB6.out⟩
      · have z1 : decide (la < 0) = false := decide_eq_false (fun h => hz (HZ.out.1 h))
        have z2 : ((a : Int) == 0) = false := beq_eq_false_iff_ne.mpr (by omega)
        clear hz hab
        go_wp2_with (first | (go_at_call 27; (with_reducible refine Calls.mono (C27.out _) ?_); rintro e w' ⟨rfl, rfl⟩) | (go_at_call 21; (with_reducible refine Calls.mono (CLa.out _) ?_); rintro e w' ⟨rfl, rfl⟩) | (go_at_call 31; (with_reducible refine Calls.mono (CTa.out _ ?_ ?_) ?_); (· exact HT.out); (· exact hg); rintro e w1 ⟨rfl, hb1⟩; have HB1 := Lib.hid hb1; clear hb1 CTa) | (go_at_call 31; (with_reducible refine Calls.mono (CTb.out _ ?_ ?_) ?_); (· exact tab_below HT.out hg HB1.out); (· have := HB1.out.size; omega); rintro e w2 ⟨rfl, hb2⟩; have HB2 := Lib.hid (HB1.out.trans (hb2.mono HB1.out.size)); clear hb2) | (go_at_call 28; (with_reducible refine Calls.mono (CLo.out _ ?_) ?_); (· exact tab_below HT.out hg HB2.out); rintro e w' ⟨rfl, rfl⟩))
        with_reducible refine Calls.mono (CO.out _ ?_ ?_) ?_
        · exact tab_below HT.out hg HB2.out
        · have := HB2.out.size; omega
        rintro e w6 ⟨rfl, hb6⟩
        have HB6 := Lib.hid (HB2.out.trans (hb6.mono HB2.out.size))
        clear hb6
        go_wp2_with fail
        go_ret
        exact ⟨rfl, HB6.out⟩
end Go.Proofs.YtlecgedmdaenaaaDoor.Bits
