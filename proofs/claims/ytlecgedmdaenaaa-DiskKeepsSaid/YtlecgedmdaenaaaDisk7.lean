/- Walks of a disk's Safe and Fall. -/
import Derived.Test.YtlecgedmdaenaaaDisk6
import Derived.Deep.Onto
import Derived.RegionTactic
namespace Go.Proofs.Ytlecgedmdaenaaa.Disk
open Go.RowKit Go.Proofs.Ytlecgedmdaenaaa.K

/-- What of a file is safe. -/
def safeP (f : Int) (st : St) : List UInt8 × Int := if 0 ≤ f ∧ f < 4 then ((st.b f.toNat).take (st.s f.toNat), 0) else ([], 13)
theorem safe_any (f : Int) (n₀ D : Nat) (v : Nat → Value) (st : St) (w : World) (h : At w n₀ D v st) :
    Calls Try.prog 22 #[.pointer (some ⟨D, 0, none⟩), .int .i64 f] w fun e w' => ∃ x, e = .returned (.tuple #[x, .int .i64 (safeP f st).2]) ∧ OwnB w' w.heap.size x (safeP f st).1 ∧ Below w.heap.size w w' := by
  have hc := (show w.cell? ⟨D, 0, none⟩ = some (.bool true) from h.blk.cell 0)
  have C := Lib.hid (none_any D true w hc)
  by_cases hf : 0 ≤ f ∧ f < 4
  · have hr : safeP f st = ((st.b f.toNat).take (st.s f.toNat), 0) := by unfold safeP; rw [if_pos hf]
    rw [hr]
    obtain ⟨g, rfl⟩ := Int.eq_ofNat_of_zero_le hf.1
    have hg : g < 4 := by omega
    rw [Int.toNat_natCast]
    obtain ⟨A, c, hv, hH, hlc, hA⟩ := (h.own g hg).read
    have hcell := (h.blk.cell (1 + g * 2)).trans (cells_at _ _ _ _ _ hg).1
    have hcell2 := (h.blk.cell (1 + g * 2 + 1)).trans (cells_at _ _ _ _ _ hg).2
    rw [hv] at hcell
    have hs := h.ok.safe g hg
    have hz := h.ok.size g hg
    obtain ⟨q, hq⟩ : ∃ q, st.s g = q := ⟨_, rfl⟩
    rw [hq] at hs hcell2 ⊢
    have hlen : ((st.b g).take q).length = q := by rw [List.length_take]; omega
    have CC := Lib.hid (fun W (hW : HoldsB W A (st.b g)) => clone_any A c ((st.b g).take q) (by omega) W (hW.take q) (fun e => ⟨hA e, by have := hA e; exact List.eq_nil_of_length_eq_zero (by omega)⟩))
    rw [hlen] at CC
    have HH := Lib.hid hH
    generalize (st.b g).take q = l at *
    generalize (st.b g).length = n at *
    have hi : decide ((g : Int) < 4) = true := decide_eq_true (by omega)
    have hi2 : decide ((g : Int) < 0) = false := decide_eq_false (by omega)
    have hi3 : decide (4 ≤ (g : Int)) = false := decide_eq_false (by omega)
    have hgs : (g : Int) < 4 := by omega
    have hqc : q ≤ c := by omega
    have hA0 : A = none → q = 0 ∧ c = 0 := fun e => by have := hA e; omega
    clear hH hA hv h hc hr hf hlen
    cases A with
    | none =>
      obtain ⟨rfl, rfl⟩ := hA0 rfl
      clear hA0
      go_enter Try.func22, Try.ntmps22
      go_wp2_with (first | (go_at_call 30; (with_reducible refine Calls.mono C.out ?_); rintro e w' ⟨rfl, rfl⟩) | (go_at_call 32; (with_reducible refine Calls.mono (CC.out _ ?_) ?_); (· exact HH.out.keep ((Below.refl _ _).alloc (Nat.le_refl _) _)); rintro e w' ⟨x, rfl, ho, hb⟩; have HO := Lib.hid (And.intro ho hb); clear ho hb))
      go_ret2
      exact ⟨_, rfl, HO.out.1.mono (by simp), ((Below.refl _ _).alloc (Nat.le_refl _) _).trans (HO.out.2.mono (by simp))⟩
    | some ad =>
      clear hA0
      go_enter Try.func22, Try.ntmps22
      go_wp2_with (first | (go_at_call 30; (with_reducible refine Calls.mono C.out ?_); rintro e w' ⟨rfl, rfl⟩) | (go_at_call 32; (with_reducible refine Calls.mono (CC.out _ ?_) ?_); (· exact HH.out.keep ((Below.refl _ _).alloc (Nat.le_refl _) _)); rintro e w' ⟨x, rfl, ho, hb⟩; have HO := Lib.hid (And.intro ho hb); clear ho hb))
      go_ret2
      exact ⟨_, rfl, HO.out.1.mono (by simp), ((Below.refl _ _).alloc (Nat.le_refl _) _).trans (HO.out.2.mono (by simp))⟩
  · have hr : safeP f st = ([], 13) := by unfold safeP; rw [if_neg hf]
    rw [hr]
    by_cases h0 : f < 0
    · have hi2 : decide (f < 0) = true := decide_eq_true h0
      clear hr hf hc h
      go_enter Try.func22, Try.ntmps22
      go_wp2_with (go_at_call 30; (with_reducible refine Calls.mono C.out ?_); rintro e w' ⟨rfl, rfl⟩)
      go_ret2
      exact ⟨_, rfl, OwnB.nil _ _, Below.refl _ _⟩
    · have hi2 : decide (f < 0) = false := decide_eq_false h0
      have hi3 : decide (4 ≤ f) = true := decide_eq_true (by omega)
      clear hr hf hc h
      go_enter Try.func22, Try.ntmps22
      go_wp2_with (go_at_call 30; (with_reducible refine Calls.mono C.out ?_); rintro e w' ⟨rfl, rfl⟩)
      go_ret2
      exact ⟨_, rfl, OwnB.nil _ _, Below.refl _ _⟩

/-- How many bytes of a file stay. -/
def keepN (k : Int) (len s : Nat) : Nat := s + min k.toNat (len - s)
def fallStep (K : Nat → Int) (i : Nat) (st : St) : St := { st with b := upd st.b i ((st.b i).take (keepN (K i) (st.b i).length (st.s i))), s := upd st.s i (keepN (K i) (st.b i).length (st.s i)) }
def fallN (K : Nat → Int) : Nat → St → St
  | 0, st => st
  | n + 1, st => fallStep K n (fallN K n st)
def fallP (K : Nat → Int) (st : St) : St := { fallN K 4 st with left := -1, down := false }
theorem keepN_le {k : Int} {len s : Nat} (h : s ≤ len) : keepN k len s ≤ len := by unfold keepN; omega
theorem fallStep_ok {K : Nat → Int} {i : Nat} {st : St} (ok : st.Ok) (hi : i < 4) : (fallStep K i st).Ok := by
  have hk := keepN_le (k := K i) (ok.safe i hi)
  have hz := ok.size i hi
  refine ⟨fun j hj => ?_, fun j hj => ?_, ok.left⟩
  · unfold fallStep
    dsimp only
    by_cases e : j = i
    · subst e; rw [upd_same, upd_same, List.length_take]; omega
    · rw [upd_other _ _ e, upd_other _ _ e]; exact ok.safe j hj
  · unfold fallStep
    dsimp only
    by_cases e : j = i
    · subst e; rw [upd_same, List.length_take]; omega
    · rw [upd_other _ _ e]; exact ok.size j hj
theorem At0.later {w w' : World} {n₀ D : Nat} {v : Nat → Value} {st : St} (h : At0 w n₀ D v st) (hb : Below w.heap.size w w') : At0 w' n₀ D v st :=
  ⟨h.blk.after hb, fun i hi => (h.own i hi).later hb, h.apart, h.low⟩
theorem Turn.later {w w' : World} {n₀ D : Nat} {v : Nat → Value} (hb : Below w.heap.size w w') (hn : n₀ ≤ w.heap.size) : Turn w n₀ D v w' v :=
  ⟨hb.mono hn, fun k hk _ _ => hb.block k hk, fun _ _ _ h => .inl h⟩
/-- A row that is cut short. -/
theorem At0.cut {w : World} {n₀ D : Nat} {v : Nat → Value} {st : St} (h : At0 w n₀ D v st) {f : Nat} (hf : f < 4) (hn : n₀ ≤ w.heap.size) {m : Nat} (hm : m ≤ (st.b f).length) {A : Option Addr} {c : Nat} (hv : v f = .slice A (st.b f).length c) :
    At0 (w.setCell ⟨D, 1 + f * 2, none⟩ (.slice A m c)) n₀ D (upd v f (.slice A m c)) { st with b := upd st.b f ((st.b f).take m) } ∧ Turn w n₀ D v (w.setCell ⟨D, 1 + f * 2, none⟩ (.slice A m c)) (upd v f (.slice A m c)) := by
  have ho := (h.own f hf).take m hm hv
  refine h.setV hf hn ho ⟨rfl, rfl, rfl, Nat.le_refl _, fun _ _ _ => rfl⟩ (.inl ?_)
  rw [hv]
  cases A <;> rfl

set_option maxHeartbeats 2000000 in
theorem fall_any (K : Nat → Int) (n₀ D : Nat) (v : Nat → Value) (st : St) (w : World) (hn : n₀ ≤ w.heap.size) (h : At w n₀ D v st) (hK : ∀ i, K i ≤ 9223372036854775807 ∧ -9223372036854775808 ≤ K i) :
    Calls Try.prog 16 #[.pointer (some ⟨D, 0, none⟩), .agg #[.int .i64 (K 0), .int .i64 (K 1), .int .i64 (K 2), .int .i64 (K 3)]] w fun e w' => (∃ r, e = .returned r) ∧ ∃ v', At0 w' n₀ D v' (fallP K st) ∧ Turn w n₀ D v w' v' := by
  have hc := (show w.cell? ⟨D, 0, none⟩ = some (.bool true) from h.blk.cell 0)
  have C := Lib.hid (fun W (hW : W.cell? ⟨D, 0, none⟩ = some (.bool true)) => none_any D true W hW)
  have hDw := h.blk.lt
  obtain ⟨w1, hw1⟩ : ∃ w1, w.alloc (.cells #[.int .i64 (K 0), .int .i64 (K 1), .int .i64 (K 2), .int .i64 (K 3)] 26) = w1 := ⟨_, rfl⟩
  have hBK : Blk w1 w.heap.size #[.int .i64 (K 0), .int .i64 (K 1), .int .i64 (K 2), .int .i64 (K 3)] 26 := by rw [← hw1]; exact Blk.new _ _ _
  have hbw : Below w.heap.size w w1 := by rw [← hw1]; exact (Below.refl _ _).alloc (Nat.le_refl _) _
  have hA1 := h.to0.later hbw
  have hT1 : Turn w n₀ D v w1 v := Turn.later hbw hn
  have hc1 : w1.cell? ⟨D, 0, none⟩ = some (.bool true) := hA1.blk.cell 0
  have HA1 := Lib.hid (And.intro h.ok (And.intro hA1 (And.intro hT1 hBK)))
  have hn1 : n₀ ≤ w1.heap.size := Nat.le_trans hn hbw.size
  clear h hc hBK hbw hA1 hT1
  go_enter Try.func16, Try.ntmps16
  go_wp2_with (first | (go_at_call 30; (with_reducible refine Calls.mono (C.out _ ?_) ?_); (· exact hc1); rintro e w' ⟨rfl, rfl⟩))
  go_loopw [9] (fun i wr => ∃ k : Nat, k ≤ 4 ∧ i = .int .i64 k ∧ Hid (∃ v', At0 wr n₀ D v' (fallN K k st) ∧ (fallN K k st).Ok ∧ Turn w n₀ D v wr v') ∧ Hid (Blk wr w.heap.size #[.int .i64 (K 0), .int .i64 (K 1), .int .i64 (K 2), .int .i64 (K 3)] 26)) (fun i _ => 4 - (intOf i).toNat)
  case atStart => exact ⟨0, by omega, rfl, Lib.hid ⟨v, HA1.out.2.1, HA1.out.1, HA1.out.2.2.1⟩, Lib.hid HA1.out.2.2.2⟩
  case round =>
    obtain ⟨k, hk, rfl, HA, HB⟩ := hrel
    by_cases hlt : k < 4
    · obtain ⟨v', ha, hok, ht⟩ := HA.out
      obtain ⟨A, c, hv, hH, hlc, hA⟩ := (ha.own k hlt).read
      have hcell := (ha.blk.cell (1 + k * 2)).trans (cells_at _ _ _ _ _ hlt).1
      have hcell2 := (ha.blk.cell (1 + k * 2 + 1)).trans (cells_at _ _ _ _ _ hlt).2
      have hfr1 := ha.blk.frozen (1 + k * 2)
      have hfr2 := ha.blk.frozen (1 + k * 2 + 1)
      rw [hv] at hcell
      have hs := hok.safe k hlt
      have hz := hok.size k hlt
      have hkc : wr.cell? ⟨w.heap.size, k, none⟩ = some (.int .i64 (K k)) := (HB.out.cell k).trans (by match k, hlt with | 0, _ => rfl | 1, _ => rfl | 2, _ => rfl | 3, _ => rfl)
      have hi : decide ((k : Int) < 4) = true := decide_eq_true (by omega)
      have hi2 : (k : Int) < 4 := by omega
      obtain ⟨kk, hkk⟩ : ∃ kk, K k = kk := ⟨_, rfl⟩
      have hKk := hK k
      rw [hkk] at hkc hKk
      obtain ⟨q, hq⟩ : ∃ q, (fallN K k st).s k = q := ⟨_, rfl⟩
      obtain ⟨n, hn'⟩ : ∃ n, ((fallN K k st).b k).length = n := ⟨_, rfl⟩
      obtain ⟨m, hm⟩ : ∃ m, min kk.toNat (n - q) = m := ⟨_, rfl⟩
      have HM := Lib.hid (And.intro hkk (And.intro hq (And.intro hn' hm)))
      rw [hq] at hs hcell2
      rw [hn'] at hs hz hcell hlc
      clear ha hok ht hH hv hkk hq hn'
      go_wp2_with fail
      go_cut [6] (fun s6 wx => s6 = .int .i64 m ∧ ∃ j, wx = wr.drewN j)
      case first =>
        by_cases h0 : 0 < kk
        · have d0 : decide (0 < kk) = true := decide_eq_true h0
          by_cases h1 : kk < (n : Int) - (q : Int)
          · have d1 : decide (kk < (n : Int) - (q : Int)) = true := decide_eq_true h1
            obtain hmm : kk = (m : Int) := by omega
            go_quiet (fail)
            go_wp2_with fail
            go_meet
            exact ⟨by first | rfl | go_num, _, rfl⟩
          · by_cases h2 : kk = (n : Int) - (q : Int)
            · obtain hmm : kk = (m : Int) := by omega
              have hmn : (n : Int) - (q : Int) = (m : Int) := by omega
              have d1 : decide (kk < (n : Int) - (q : Int)) = false := decide_eq_false h1
              go_quiet (fail)
              go_wp2_with fail
              go_meet
              exact ⟨by first | rfl | go_num, _, rfl⟩
            · obtain hmm : (n : Int) - (q : Int) = (m : Int) := by omega
              have d1 : decide ((n : Int) - (q : Int) < kk) = true := decide_eq_true (by omega)
              have d2 : decide (kk < (n : Int) - (q : Int)) = false := decide_eq_false h1
              have d3 : (n : Int) - (q : Int) < kk := by omega
              go_quiet (fail)
              go_wp2_with fail
              go_meet
              exact ⟨by first | rfl | go_num, _, rfl⟩
        · have e0 : kk.toNat = 0 := by omega
          have hm0 : (m : Int) = 0 := by omega
          by_cases h3 : kk = 0
          · subst h3
            by_cases h1 : 0 < (n : Int) - (q : Int)
            · have d1 : decide (0 < (n : Int) - (q : Int)) = true := decide_eq_true h1
              go_quiet (fail)
              go_wp2_with fail
              go_meet
              exact ⟨by first | rfl | go_num | exact congrArg _ hm0.symm, _, rfl⟩
            · have hmn : (n : Int) - (q : Int) = 0 := by omega
              go_quiet (fail)
              go_wp2_with fail
              go_meet
              exact ⟨by first | rfl | go_num | exact congrArg _ hm0.symm, _, rfl⟩
          · have d4 : decide (kk < 0) = true := decide_eq_true (by omega)
            have d5 : kk < 0 := by omega
            have d6 : decide (0 < kk) = false := decide_eq_false h0
            by_cases h1 : 0 < (n : Int) - (q : Int)
            · have d1 : decide (0 < (n : Int) - (q : Int)) = true := decide_eq_true h1
              go_quiet (fail)
              go_wp2_with fail
              go_meet
              exact ⟨by first | rfl | go_num | exact congrArg _ hm0.symm, _, rfl⟩
            · have hmn : (n : Int) - (q : Int) = 0 := by omega
              go_quiet (fail)
              go_wp2_with fail
              go_meet
              exact ⟨by first | rfl | go_num | exact congrArg _ hm0.symm, _, rfl⟩
      case rest =>
        obtain ⟨rfl, j0, rfl⟩ := hcut
        obtain ⟨v', ha, hok, ht⟩ := HA.out
        obtain ⟨hkk, hq, hn', hm⟩ := HM.out
        obtain ⟨A2, c2, hv, -, hlc2, hA2⟩ := (ha.own k hlt).read
        have hcell' := (ha.blk.cell (1 + k * 2)).trans (cells_at _ _ _ _ _ hlt).1
        rw [hv, hn', hcell] at hcell'
        obtain ⟨rfl, rfl⟩ : A = A2 ∧ c = c2 := by cases hcell'; exact ⟨rfl, rfl⟩
        have hN : keepN (K k) ((fallN K k st).b k).length ((fallN K k st).s k) = q + m := by unfold keepN; rw [hkk, hq, hn', hm]
        have hsz : n₀ ≤ wr.heap.size := Nat.le_trans hn ht.below.size
        have hcut := fun (j : Nat) => (ha.later (below_drewN (Below.refl _ _) j)).cut hlt hsz (m := q + m) (by omega) hv
        have HF := Lib.hid (fun (j : Nat) => (show (∃ v', At0 (((wr.drewN j).setCell ⟨D, 1 + k * 2, none⟩ (.slice A (q + m) c)).setCell ⟨D, 1 + k * 2 + 1, none⟩ (.int .i64 ((q + m : Nat) : Int))) n₀ D v' (fallN K (k + 1) st) ∧ (fallN K (k + 1) st).Ok ∧ Turn w n₀ D v (((wr.drewN j).setCell ⟨D, 1 + k * 2, none⟩ (.slice A (q + m) c)).setCell ⟨D, 1 + k * 2 + 1, none⟩ (.int .i64 ((q + m : Nat) : Int))) v') ∧ Blk (((wr.drewN j).setCell ⟨D, 1 + k * 2, none⟩ (.slice A (q + m) c)).setCell ⟨D, 1 + k * 2 + 1, none⟩ (.int .i64 ((q + m : Nat) : Int))) w.heap.size #[.int .i64 (K 0), .int .i64 (K 1), .int .i64 (K 2), .int .i64 (K 3)] 26 from by
          have h2 := (hcut j).1.setS hlt (q + m)
          refine ⟨⟨_, ?_, fallStep_ok hok hlt, (ht.trans (Turn.later (below_drewN (Below.refl _ _) j) hsz)).trans ((hcut j).2.trans ((hcut j).1.turnD _ _))⟩, ((HB.out.drewN j).far (by show w.heap.size ≠ D; omega) _).far (by show w.heap.size ≠ D; omega) _⟩
          show At0 _ n₀ D _ (fallStep K k (fallN K k st))
          unfold fallStep
          rw [hN]
          exact h2))
        have CK := Lib.hid (fun (j : Nat) => keep_any D (1 + k * 2) (.slice A (q + m) c) (((fallN K k st).b k).take (q + m)) none 0 0 n₀ (.int .i64 q) ((wr.drewN j).setCell ⟨D, 1 + k * 2, none⟩ (.slice A (q + m) c)) (by rw [World.cell?_setCell_same' _ _ _ (by show (wr.cell? _).isSome = true; rw [hcell]; rfl)]) (by rw [World.cell?_setCell_other _ _ _ _ (by intro e; injection e with _ e _; omega)]; exact hcell2) ((hcut j).1.blk.frozen _) (by have := (hcut j).1.own k hlt; dsimp only at this; rw [upd_same, upd_same] at this; exact this))
        simp only [List.length_take, hn', Nat.min_eq_left (show q + m ≤ n by omega)] at CK
        have hNc : q + m ≤ c := by omega
        have hA0 : A = none → q = 0 ∧ m = 0 ∧ c = 0 := fun e => by have := hA e; omega
        clear ha hok ht hcut hcell' hv hkk hq hn' hm hN hlc2 hA2 hA HM
        cases A with
        | none =>
          obtain ⟨rfl, rfl, rfl⟩ := hA0 rfl
          obtain rfl : n = 0 := by omega
          simp only [Nat.add_zero] at CK HF
          clear hA0
          go_wp2_with fail
          go_region
          go_wp2_with (go_at_call 31; (with_reducible refine Calls.mono (CK.out _) ?_); rintro e w2 ⟨⟨r, rfl⟩, rfl⟩)
          obtain ⟨h1, h2⟩ := HF.out (j0 + 1)
          refine ⟨⟨k + 1, by omega, by first | rfl | go_num, Lib.hid h1, Lib.hid h2⟩, ?_⟩
          simp [intOf]; omega
        | some ad =>
          clear hA0
          go_wp2_with fail
          go_region
          go_wp2_with (go_at_call 31; (with_reducible refine Calls.mono (CK.out _) ?_); rintro e w2 ⟨⟨r, rfl⟩, rfl⟩)
          obtain ⟨h1, h2⟩ := HF.out (j0 + 1)
          refine ⟨⟨k + 1, by omega, by first | rfl | go_num, Lib.hid h1, Lib.hid h2⟩, ?_⟩
          simp [intOf]; omega
    · obtain rfl : k = 4 := by omega
      obtain ⟨v', ha, hok, ht⟩ := HA.out
      have f1 := ha.blk.cell 9
      have f2 := ha.blk.cell 10
      have f3 := ha.blk.frozen 9
      have f4 := ha.blk.frozen 10
      have HE := Lib.hid (show ∃ v', At0 ((wr.setCell ⟨D, 9, none⟩ (.int .i64 (-1))).setCell ⟨D, 10, none⟩ (.bool false)) n₀ D v' (fallP K st) ∧ Turn w n₀ D v ((wr.setCell ⟨D, 9, none⟩ (.int .i64 (-1))).setCell ⟨D, 10, none⟩ (.bool false)) v' from ⟨v', (ha.setLeft (-1)).setDown false, (ht.trans (ha.turnD 9 _)).trans ((ha.setLeft (-1)).turnD 10 _)⟩)
      clear ha hok ht
      go_wp2_with fail
      go_end0
      exact ⟨⟨_, rfl⟩, HE.out⟩
end Go.Proofs.Ytlecgedmdaenaaa.Disk
