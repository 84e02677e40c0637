/- Walks of package bits, second part: how many there are; the least ones; sets put together. -/
import Derived.Test.YtlecgedmdaenaaaDoorBits
namespace Go.Proofs.YtlecgedmdaenaaaDoor.Bits
open Go.RowKit Go.Proofs.YtlecgedmdaenaaaDoor.K

theorem pop_le (x : Nat) : pop x ≤ 64 := popU_le 64 x
theorem mask55 : mask 0x55 8 = 6148914691236517205 := by decide
theorem mask33 : mask 0x33 8 = 3689348814741910323 := by decide
theorem mask0f : mask 0x0f 8 = 1085102592571150095 := by decide

theorem cast_and' (a b : Nat) (c : Int) (A : Int) (ha : Small a) (hb : Small b) (hA : (a : Int) = A) (hc : (b : Int) = c) : bits .and .u64 A c = ((a &&& b : Nat) : Int) := by
  rw [← hA, ← hc]; exact cast_and ha hb
theorem ofInt_i64 (a : Nat) (ha : a < 9223372036854775808) : (BitVec.ofInt 64 (a : Int)).toNat = a := by
  rw [BitVec.ofInt_natCast, BitVec.toNat_ofNat]; exact Nat.mod_eq_of_lt (by omega)
theorem i64_and_nat (a b : Nat) (ha : a < 9223372036854775808) (hb : b < 9223372036854775808) : bits .and .i64 (a : Int) (b : Int) = ((a &&& b : Nat) : Int) := by
  have hx : a &&& b < 2 ^ 63 := Nat.and_lt_two_pow _ (by omega)
  show IntKind.i64.wrap ((BitVec.ofInt 64 (a : Int) &&& BitVec.ofInt 64 (b : Int)).toNat : Int) = _
  rw [BitVec.toNat_and, ofInt_i64 a ha, ofInt_i64 b hb, IntKind.wrap_i64]
  omega
theorem mask127 (x p : Nat) (hx : x < 4000000000000000000) (hp : x % 128 = p) : bits .and .i64 (x : Int) 127 = (p : Int) := by
  have h := i64_and_nat x 127 (by omega) (by decide)
  have e : x &&& 127 = x % 128 := Nat.and_two_pow_sub_one_eq_mod x 7
  rw [e, hp] at h
  exact h
theorem ones_any (x : Nat) (hx : Small x) (w : World) :
    Calls Tryd.prog 37 #[.int .u64 x] w fun e w' => e = .returned (.int .i64 (pop x : Nat)) ∧ w = w' := by
  have hxl := hx.lt
  obtain ⟨m1, hm1⟩ : ∃ m1 : Nat, m1 = mask 0x55 8 := ⟨_, rfl⟩
  obtain ⟨a1, ha1⟩ : ∃ a : Nat, a = x / 2 &&& mask 0x55 8 := ⟨_, rfl⟩
  obtain ⟨a2, ha2⟩ : ∃ a : Nat, a = x &&& mask 0x55 8 := ⟨_, rfl⟩
  have l1 : a1 ≤ 6148914691236517205 := by rw [ha1, ← mask55]; exact Nat.and_le_right
  have l2 : a2 ≤ 6148914691236517205 := by rw [ha2, ← mask55]; exact Nat.and_le_right
  obtain ⟨x1, hx1⟩ : ∃ a : Nat, a = a1 + a2 := ⟨_, rfl⟩
  have f1e : x1 = f1 8 x := by rw [hx1, ha1, ha2]; rfl
  obtain ⟨b1, hb1⟩ : ∃ a : Nat, a = x1 / 4 &&& mask 0x33 8 := ⟨_, rfl⟩
  obtain ⟨b2, hb2⟩ : ∃ a : Nat, a = x1 &&& mask 0x33 8 := ⟨_, rfl⟩
  have k1 : b1 ≤ 3689348814741910323 := by rw [hb1, ← mask33]; exact Nat.and_le_right
  have k2 : b2 ≤ 3689348814741910323 := by rw [hb2, ← mask33]; exact Nat.and_le_right
  obtain ⟨x2, hx2⟩ : ∃ a : Nat, a = b1 + b2 := ⟨_, rfl⟩
  have f2e : x2 = f2 8 x1 := by rw [hx2, hb1, hb2]; rfl
  obtain ⟨x3, hx3⟩ : ∃ a : Nat, a = (x2 / 16 + x2) &&& mask 0x0f 8 := ⟨_, rfl⟩
  have f3e : x3 = ff 8 x := by rw [hx3, f2e, f1e]; rfl
  obtain ⟨hp, h60⟩ := ones x hx
  rw [← f3e] at hp h60
  have r1 : bits .and .u64 ((x : Int) / 2) 6148914691236517205 = (a1 : Int) := by
    rw [ha1, mask55]; exact cast_and' (x / 2) 6148914691236517205 _ _ (by unfold Small; omega) (by unfold Small; omega) (by omega) (by omega)
  have r2 : bits .and .u64 (x : Int) 6148914691236517205 = (a2 : Int) := by
    rw [ha2, mask55]; exact cast_and' (x) 6148914691236517205 _ _ hx (by unfold Small; omega) (by omega) (by omega)
  have r3 : IntKind.u64.wrap ((a1 : Int) + a2) = (x1 : Int) := by rw [IntKind.wrap_u64]; omega
  have hx1l : x1 < 18446744073709551616 := by omega
  have r4 : bits .and .u64 ((x1 : Int) / 4) 3689348814741910323 = (b1 : Int) := by
    rw [hb1, mask33]; exact cast_and' (x1 / 4) 3689348814741910323 _ _ (by unfold Small; omega) (by unfold Small; omega) (by omega) (by omega)
  have r5 : bits .and .u64 (x1 : Int) 3689348814741910323 = (b2 : Int) := by
    rw [hb2, mask33]; exact cast_and' (x1) 3689348814741910323 _ _ hx1l (by unfold Small; omega) (by omega) (by omega)
  have r6 : IntKind.u64.wrap ((b1 : Int) + b2) = (x2 : Int) := by rw [IntKind.wrap_u64]; omega
  obtain ⟨c1, hc1⟩ : ∃ a : Nat, a = x2 / 16 + x2 := ⟨_, rfl⟩
  have hx2l : x2 < 8000000000000000000 := by omega
  have r7 : IntKind.u64.wrap ((x2 : Int) / 16 + x2) = (c1 : Int) := by rw [IntKind.wrap_u64]; omega
  have r8 : bits .and .u64 (c1 : Int) 1085102592571150095 = (x3 : Int) := by
    rw [hx3, ← hc1, mask0f]; exact cast_and' (c1) 1085102592571150095 _ _ (by unfold Small; omega) (by unfold Small; omega) (by omega) (by omega)
  obtain ⟨x4, hx4⟩ : ∃ a : Nat, a = x3 + x3 / 256 := ⟨_, rfl⟩
  obtain ⟨x5, hx5⟩ : ∃ a : Nat, a = x4 + x4 / 65536 := ⟨_, rfl⟩
  obtain ⟨x6, hx6⟩ : ∃ a : Nat, a = x5 + x5 / 4294967296 := ⟨_, rfl⟩
  have r9 : IntKind.u64.wrap ((x3 : Int) + (x3 : Int) / 256) = (x4 : Int) := by rw [IntKind.wrap_u64]; omega
  have r10 : IntKind.u64.wrap ((x4 : Int) + (x4 : Int) / 65536) = (x5 : Int) := by rw [IntKind.wrap_u64]; omega
  have r11 : IntKind.u64.wrap ((x5 : Int) + (x5 : Int) / 4294967296) = (x6 : Int) := by rw [IntKind.wrap_u64]; omega
  have hp' : x6 % 128 = pop x := by rw [hx6, hx5, hx4]; exact hp
  have hp6 : x6 < 4000000000000000000 := by omega
  have r12 : wrap64 (x6 : Int) = (x6 : Int) := by unfold wrap64; omega
  have r13 : bits .and .i64 (x6 : Int) 127 = ((pop x : Nat) : Int) := mask127 x6 _ hp6 hp'
  generalize pop x = p at *
  clear hp hp' hx hxl hm1 ha1 ha2 hx1 f1e hb1 hb2 hx2 f2e hx3 f3e hc1 hx4 hx5 hx6 h60 l1 l2 k1 k2 hx1l hx2l hp6
  go_enter Tryd.func37, Tryd.ntmps37
  go_wp2
  go_ret
  exact ⟨rfl, rfl⟩

theorem len_any (x : Nat) (hx : Small x) (w : World) :
    Calls Tryd.prog 21 #[.int .u64 x] w fun e w' => e = .returned (.int .i64 (pop x : Nat)) ∧ w = w' := by
  have c := fun W => ones_any x hx W
  have C := Lib.hid c
  generalize pop x = p at *
  clear c hx
  go_enter Tryd.func21, Tryd.ntmps21
  go_wp2_with (go_at_call 37; refine (C.out _).mono ?_; rintro e w' ⟨rfl, rfl⟩)
  go_ret
  exact ⟨rfl, rfl⟩

/-- What Take's loop leaves behind k rounds more. -/
def takeR : Nat → Nat → Nat → Nat
  | 0, out, _ => out
  | k + 1, out, rest => takeR k (out ||| bitN (low rest)) (less rest (bitN (low rest)))

theorem take_no (x : Nat) (n : Int) (hx : Small x) (h : (pop x : Int) < n) (w : World) :
    Calls Tryd.prog 27 #[.int .u64 x, .int .i64 n] w fun e w' => e = .returned (.tuple #[.int .u64 0, .bool false]) ∧ w = w' := by
  have c := fun W => len_any x hx W
  have C := Lib.hid c
  have b0 : decide ((pop x : Int) < n) = true := decide_eq_true h
  generalize pop x = p at *
  clear c hx
  go_enter Tryd.func27, Tryd.ntmps27
  go_wp2_with (go_at_call 21; refine (C.out _).mono ?_; rintro e w' ⟨rfl, rfl⟩)
  go_ret2
  exact ⟨rfl, rfl⟩

set_option maxHeartbeats 1000000 in
theorem take_yes (x : Nat) (n : Int) (hx : Small x) (h : n ≤ (pop x : Int)) (w : World) (hT : Tab w) :
    Calls Tryd.prog 27 #[.int .u64 x, .int .i64 n] w fun e w' => e = .returned (.tuple #[.int .u64 (takeR n.toNat 0 x : Nat), .bool true]) ∧ w = w' := by
  have c := fun W => len_any x hx W
  have C := Lib.hid c
  have b0 : decide ((pop x : Int) < n) = false := decide_eq_false (by omega)
  have hp := pop_le x
  have hn : n ≤ 64 := by omega
  have HL := Lib.hid (fun y (hy : Small y) => lowest_any y hy w hT)
  have HX := Lib.hid hx
  obtain ⟨t, ht⟩ : ∃ t, takeR n.toNat 0 x = t := ⟨_, rfl⟩
  rw [ht]
  have HT := Lib.hid ht
  generalize pop x = p at *
  clear c hx hT ht h hp
  go_enter Tryd.func27, Tryd.ntmps27
  go_wp2_with (go_at_call 21; refine (C.out _).mono ?_; rintro e w' ⟨rfl, rfl⟩)
  go_loop [1, 6, 7] (fun i o r => ∃ (m : Int) (out rest : Nat), m ≤ 64 ∧ i = .int .i64 m ∧ o = .int .u64 out ∧ r = .int .u64 rest ∧ Hid (takeR m.toNat out rest = t ∧ Small out ∧ Small rest)) (fun i _ _ => (intOf i).toNat)
  case atStart => exact ⟨n, 0, x, hn, rfl, rfl, rfl, Lib.hid ⟨HT.out, by unfold Small; decide, HX.out⟩⟩
  case round =>
    obtain ⟨m, out, rest, hm, rfl, rfl, rfl, H⟩ := hrel
    by_cases h0 : 0 < m
    · obtain ⟨l, hl⟩ : ∃ l, low rest = l := ⟨_, rfl⟩
      have cl := HL.out rest H.out.2.2
      have cw := fun W => with_any out (low rest) H.out.2.1 W
      have co := fun W => without_any rest (low rest) H.out.2.2 W
      have hs : takeR (m - 1).toNat (out ||| bitN (low rest)) (less rest (bitN (low rest))) = t := by
        have h1 := H.out.1
        rw [show m.toNat = (m - 1).toNat + 1 by omega] at h1
        exact h1
      have h1s : Small (out ||| bitN (low rest)) := or_small H.out.2.1 (bitN_small _)
      have h2s : Small (less rest (bitN (low rest))) := less_small H.out.2.2
      have HN := Lib.hid (And.intro hs (And.intro h1s h2s))
      generalize out ||| bitN (low rest) = out' at *
      generalize less rest (bitN (low rest)) = rest' at *
      rw [hl] at cl cw co
      have CL := Lib.hid cl
      have CW := Lib.hid cw
      have CO := Lib.hid co
      clear hs h1s h2s cl cw co hl H
      go_wp2_with (first | (go_at_call 28; (with_reducible refine Calls.mono CL.out ?_); rintro e w' ⟨rfl, rfl⟩) | (go_at_call 16; (with_reducible refine Calls.mono (CW.out _) ?_); rintro e w' ⟨rfl, rfl⟩) | (go_at_call 17; (with_reducible refine Calls.mono (CO.out _) ?_); rintro e w' ⟨rfl, rfl⟩))
      go_round
      case rel => exact ⟨m - 1, out', rest', by omega, rfl, rfl, rfl, HN⟩
      case measure => simp [intOf]; omega
    · have e : t = out := by
        have h1 := H.out.1
        rw [show m.toNat = 0 by omega] at h1
        exact h1.symm
      go_wp2
      go_ret2
      exact ⟨rfl, rfl⟩

theorem some_any (x : Nat) (n : Int) (hx : Small x) (w : World) (hT : Tab w) :
    Calls Tryd.prog 35 #[.int .u64 x, .int .i64 n] w fun e w' => e = .returned (.int .u64 (takeR (min n (pop x)).toNat 0 x : Nat)) ∧ w = w' := by
  have c := fun W => len_any x hx W
  have C := Lib.hid c
  obtain ⟨m, hm⟩ : ∃ m, min n (pop x : Int) = m := ⟨_, rfl⟩
  have ct := take_yes x m hx (by omega) w hT
  rw [hm]
  have CT := Lib.hid ct
  have hmn : (if (pop x : Int) < n then (pop x : Int) else n) = m := by split <;> omega
  generalize takeR m.toNat 0 x = t at *
  generalize pop x = p at *
  clear c hx hT ct hm
  go_enter Tryd.func35, Tryd.ntmps35
  go_wp2_with (first | (go_at_call 21; refine (C.out _).mono ?_; rintro e w' ⟨rfl, rfl⟩) | (go_at_call 27; (with_reducible refine Calls.mono CT.out ?_); rintro e w' ⟨rfl, rfl⟩))
  go_ret
  exact ⟨rfl, rfl⟩

/-- The slice value at A holds the sets zs. -/
def Holds (w : World) (A : Option Addr) (zs : List Nat) : Prop :=
  zs = [] ∨ ∃ b off, A = some ⟨b, off, none⟩ ∧ ∀ i (h : i < zs.length), w.cell? ⟨b, off + i, none⟩ = some (.int .u64 (zs[i] : Nat))
def orAll (zs : List Nat) : Nat := zs.foldl (· ||| ·) 0
theorem orAll_snoc (zs : List Nat) (x : Nat) : orAll (zs ++ [x]) = orAll zs ||| x := by unfold orAll; rw [List.foldl_append]; rfl
theorem orAll_small {zs : List Nat} (h : ∀ z ∈ zs, Small z) : Small (orAll zs) := by
  have : ∀ (l : List Nat) (a : Nat), Small a → (∀ z ∈ l, Small z) → Small (l.foldl (· ||| ·) a) := by
    intro l
    induction l with
    | nil => intro a ha _; exact ha
    | cons x l ih => intro a ha hl; exact ih _ (or_small ha (hl x (by simp))) (fun z hz => hl z (by simp [hz]))
  exact this zs 0 (by unfold Small; decide) h

set_option maxHeartbeats 1000000 in
theorem fold_any (A : Option Addr) (cap : Nat) (zs : List Nat) (hz : ∀ z ∈ zs, Small z) (hlen : zs.length ≤ 4611686018427387904) (w : World) (hH : Holds w A zs) :
    Calls Tryd.prog 38 #[.func (.func 24) #[] #[], .slice A zs.length cap] w fun e w' => e = .returned (.int .u64 (orAll zs : Nat)) ∧ w = w' := by
  obtain ⟨t, ht⟩ : ∃ t, orAll zs = t := ⟨_, rfl⟩
  rw [ht]
  have HT := Lib.hid ht
  have HZ := Lib.hid hz
  have HH := Lib.hid hH
  obtain ⟨len, hl⟩ : ∃ len, zs.length = len := ⟨_, rfl⟩
  have HLn := Lib.hid hl
  rw [hl] at hlen ⊢
  clear ht hz hH hl
  go_enter Tryd.func38, Tryd.ntmps38
  go_wp2
  go_loop [5, 10] (fun s i => ∃ (k : Nat) (o : Nat), k ≤ len ∧ i = .int .i64 k ∧ s = .int .u64 o ∧ Hid (o = orAll (zs.take k))) (fun _ i => len - (intOf i).toNat)
  case atStart => exact ⟨0, 0, Nat.zero_le _, rfl, rfl, Lib.hid rfl⟩
  case round =>
    obtain ⟨k, o, hk, rfl, rfl, HO⟩ := hrel
    by_cases hlt : k < len
    · have hlz : k < zs.length := by rw [HLn.out]; exact hlt
      rcases HH.out with h | ⟨b, off, rfl, hc⟩
      · rw [h] at hlz; simp at hlz
      · have hcell := hc k hlz
        have hx : Small zs[k] := HZ.out _ (List.getElem_mem hlz)
        have ho : Small o := by rw [HO.out]; exact orAll_small (fun z h => HZ.out z (List.mem_of_mem_take h))
        have hs : orAll (zs.take (k + 1)) = o ||| zs[k] := by rw [List.take_succ_eq_append_getElem hlz, orAll_snoc, ← HO.out]
        have co := fun W => or_any o zs[k] ho hx W
        generalize zs[k] = x at *
        have CO := Lib.hid co
        have HS := Lib.hid hs
        clear hs co hc hx ho hlz
        go_wp2_with (go_at_call 24; (with_reducible refine Calls.mono (CO.out _) ?_); rintro e w' ⟨rfl, rfl⟩)
        go_round
        case rel => exact ⟨k + 1, o ||| x, by omega, by go_num, rfl, Lib.hid HS.out.symm⟩
        case measure => simp [intOf]; omega
    · have e : t = o := by rw [HO.out, ← HT.out, List.take_of_length_le (by have := HLn.out; omega)]
      go_wp2
      go_ret
      exact ⟨rfl, rfl⟩
theorem any_any (A : Option Addr) (cap : Nat) (zs : List Nat) (hz : ∀ z ∈ zs, Small z) (hlen : zs.length ≤ 4611686018427387904) (w : World) (hH : Holds w A zs) :
    Calls Tryd.prog 26 #[.slice A zs.length cap] w fun e w' => e = .returned (.int .u64 (orAll zs : Nat)) ∧ w = w' := by
  have c := fold_any A cap zs hz hlen w hH
  have C := Lib.hid c
  generalize orAll zs = t at *
  generalize zs.length = len at *
  clear c hz hH
  go_enter Tryd.func26, Tryd.ntmps26
  go_wp2_with (go_at_call 38; (with_reducible refine Calls.mono C.out ?_); rintro e w' ⟨rfl, rfl⟩)
  go_ret
  exact ⟨rfl, rfl⟩
theorem cost_any (a b : Nat) (ha : Small a) (hb : Small b) (w : World) :
    Calls Tryd.prog 34 #[.int .u64 a, .int .u64 b] w fun e w' => e = .returned (.int .i64 (pop (less a b) : Nat)) ∧ w = w' := by
  have c1 := fun W => less_any a b ha hb W
  have c2 := fun W => len_any (less a b) (less_small ha) W
  generalize pop (less a b) = p at *
  generalize less a b = t at *
  have C1 := Lib.hid c1
  have C2 := Lib.hid c2
  clear c1 c2 ha hb
  go_enter Tryd.func34, Tryd.ntmps34
  go_wp2_with (first | (go_at_call 25; (with_reducible refine Calls.mono (C1.out _) ?_); rintro e w' ⟨rfl, rfl⟩) | (go_at_call 21; (with_reducible refine Calls.mono (C2.out _) ?_); rintro e w' ⟨rfl, rfl⟩))
  go_ret
  exact ⟨rfl, rfl⟩
theorem may_any (a b c : Nat) (ha : Small a) (hb : Small b) (hc : Small c) (w : World) :
    Calls Tryd.prog 33 #[.int .u64 a, .int .u64 b, .int .u64 c] w fun e w' => e = .returned (.int .u64 (less a (b ||| c) : Nat)) ∧ Below w.heap.size w w' := by
  have h1 : orAll [b, c] = b ||| c := by simp [orAll]
  have c1 := fun W A => any_any A 2 [b, c] (by simp [hb, hc]) (by simp) W
  have c2 := fun W => less_any a (b ||| c) ha (or_small hb hc) W
  rw [h1] at c1
  generalize less a (b ||| c) = t at *
  generalize b ||| c = o at *
  have C1 := Lib.hid c1
  have C2 := Lib.hid c2
  clear c1 c2 ha hb hc h1
  go_enter Tryd.func33, Tryd.ntmps33
  go_wp2_with fail
  refine (C1.out _ _ (.inr ⟨w.heap.size, 0, rfl, fun i hi => ?_⟩)).mono ?_
  · match i, hi with
    | 0, _ => simp
    | 1, _ => simp
  rintro e w1 ⟨rfl, rfl⟩
  go_wp2_with (go_at_call 25; (with_reducible refine Calls.mono (C2.out _) ?_); rintro e w' ⟨rfl, rfl⟩)
  go_ret
  exact ⟨rfl, (Below.refl _ _).alloc (Nat.le_refl _) _⟩
end Go.Proofs.YtlecgedmdaenaaaDoor.Bits
