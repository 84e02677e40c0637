/- Walks of the reference's lists: is a node among them; their set. -/
import Derived.Test.YtlecgedmdaenaaaDoorOf
import Derived.Test.YtlecgedmdaenaaaDoorPure
namespace Go.Proofs.YtlecgedmdaenaaaDoor.Bits
open Go.RowKit Go.Proofs.YtlecgedmdaenaaaDoor.K

def inL (xs : List Int) (n : Int) : Bool := decide (n ∈ xs)
set_option maxHeartbeats 1000000 in
theorem lhas_any (A : Option Addr) (cap : Nat) (xs : List Int) (n : Int) (hlen : xs.length ≤ 4611686018427387904) (w : World) (hH : HoldsI w A xs) :
    Calls Tryd.prog 20 #[.slice A xs.length cap, .int .i64 n] w fun e w' => e = .returned (.bool (inL xs n)) ∧ w = w' := by
  obtain ⟨t, ht⟩ : ∃ t, inL xs n = t := ⟨_, rfl⟩
  rw [ht]
  have HT := Lib.hid ht
  have HH := Lib.hid hH
  obtain ⟨len, hl⟩ : ∃ len, xs.length = len := ⟨_, rfl⟩
  have HLn := Lib.hid hl
  rw [hl] at hlen ⊢
  clear ht hH hl
  go_enter Tryd.func20, Tryd.ntmps20
  go_wp2
  go_loop [5] (fun i => ∃ (k : Nat), k ≤ len ∧ i = .int .i64 k ∧ Hid (n ∉ xs.take k)) (fun i => len - (intOf i).toNat)
  case atStart => exact ⟨0, Nat.zero_le _, rfl, Lib.hid (by simp)⟩
  case round =>
    obtain ⟨k, hk, rfl, HO⟩ := hrel
    by_cases hlt : k < len
    · have hlz : k < xs.length := by rw [HLn.out]; exact hlt
      rcases HH.out with h | ⟨b, off, rfl, _, hc⟩
      · rw [h] at hlz; simp at hlz
      · have hcell := hc k hlz
        have hs : xs.take (k + 1) = xs.take k ++ [xs[k]] := List.take_succ_eq_append_getElem hlz
        by_cases e : xs[k] = n
        · have et : t = true := by rw [← HT.out]; exact decide_eq_true (e ▸ List.getElem_mem hlz)
          have b0 : (xs[k] == n) = true := beq_iff_eq.mpr e
          generalize xs[k] = x at *
          have ET := Lib.hid et
          clear hs hc hlz e et
          go_wp2
          go_ret
          exact ⟨by rw [ET.out]; rfl, rfl⟩
        · have b0 : (xs[k] == n) = false := beq_eq_false_iff_ne.mpr e
          have hn : n ∉ xs.take (k + 1) := by rw [hs]; simp only [List.mem_append, List.mem_singleton, not_or]; exact ⟨HO.out, fun h => e h.symm⟩
          generalize xs[k] = x at *
          have HN := Lib.hid hn
          clear hs hc hlz e hn
          go_wp2
          go_round
          case rel => exact ⟨k + 1, by omega, by go_num, HN⟩
          case measure => simp [intOf]; omega
    · have et : t = false := by
        rw [← HT.out]
        have := HO.out
        rw [List.take_of_length_le (by have := HLn.out; omega)] at this
        exact decide_eq_false this
      have ET := Lib.hid et
      clear et
      go_wp2
      go_ret
      exact ⟨by rw [ET.out]; rfl, rfl⟩

/-- Nodes from 0 to 63, none twice. -/
def Nodes (xs : List Int) : Prop := xs.Nodup ∧ ∀ x ∈ xs, 0 ≤ x ∧ x < 64
theorem mk_iff {xs : List Int} (h : ∀ x ∈ xs, 0 ≤ x ∧ x < 64) (i : Nat) : tb (mk xs) i ↔ (i : Int) ∈ xs := by
  have : ∀ (l : List Int) (a : Nat), (∀ x ∈ l, 0 ≤ x ∧ x < 64) → (tb (l.foldl (fun s n => s ||| bitN n) a) i ↔ tb a i ∨ (i : Int) ∈ l) := by
    intro l
    induction l with
    | nil => intro a _; simp
    | cons x l ih =>
      intro a hx
      obtain ⟨h0, h1⟩ := hx x (by simp)
      rw [List.foldl_cons, ih _ (fun y hy => hx y (by simp [hy])), tb_or, List.mem_cons]
      obtain ⟨m, rfl⟩ := Int.eq_ofNat_of_zero_le h0
      rw [tb_bitN (by omega)]
      constructor
      · rintro ((h | rfl) | h)
        · exact .inl h
        · exact .inr (.inl rfl)
        · exact .inr (.inr h)
      · rintro (h | h | h)
        · exact .inl (.inl h)
        · exact .inl (.inr (by omega))
        · exact .inr h
  unfold mk
  rw [this xs 0 h]
  simp [not_tb_zero]
theorem or_addU (k : Nat) : ∀ a b, a < 2 ^ k → b < 2 ^ k → (∀ i, ¬ (tb a i ∧ tb b i)) → a ||| b = a + b := by
  induction k with
  | zero => intro a b ha hb _; obtain rfl : a = 0 := by omega
            obtain rfl : b = 0 := by omega
            rfl
  | succ k ih =>
    intro a b ha hb h
    rw [Nat.pow_succ] at ha hb
    have h2 : (a ||| b) / 2 = a / 2 ||| b / 2 := Nat.or_div_two
    have h3 := ih (a / 2) (b / 2) (by omega) (by omega) (fun i ⟨h1, h2⟩ => h (i + 1) ⟨by unfold tb at *; rw [Nat.testBit_succ]; exact h1, by unfold tb at *; rw [Nat.testBit_succ]; exact h2⟩)
    have h0 := h 0
    unfold tb at h0
    have h4 : (a ||| b) % 2 = a % 2 + b % 2 := by
      have e : decide ((a ||| b) % 2 = 1) = (decide (a % 2 = 1) || decide (b % 2 = 1)) := by have := Nat.testBit_or a b 0; simp only [Nat.testBit_zero] at this; exact this
      simp only [Nat.testBit_zero, decide_eq_true_eq] at h0
      rcases Nat.mod_two_eq_zero_or_one a with ha | ha <;> rcases Nat.mod_two_eq_zero_or_one b with hb | hb <;> rcases Nat.mod_two_eq_zero_or_one (a ||| b) with hc | hc <;> rw [ha, hb, hc] at e <;> first | omega | (exact absurd e (by decide))
    omega
theorem or_add {a b : Nat} (ha : Small a) (hb : Small b) (h : ∀ i, ¬ (tb a i ∧ tb b i)) : a ||| b = a + b := or_addU 64 a b ha hb h
theorem mk_add {xs : List Int} {x : Int} (h : Nodes (xs ++ [x])) : mk xs + bitN x = mk (xs ++ [x]) := by
  obtain ⟨hn, hr⟩ := h
  have hr' : ∀ y ∈ xs, 0 ≤ y ∧ y < 64 := fun y hy => hr y (by simp [hy])
  obtain ⟨h0, h1⟩ := hr x (by simp)
  rw [mk_snoc, or_add (mk_small _) (bitN_small _)]
  intro i ⟨hi, hj⟩
  rw [mk_iff hr'] at hi
  obtain ⟨m, rfl⟩ := Int.eq_ofNat_of_zero_le h0
  rw [tb_bitN (by omega)] at hj
  subst hj
  rw [List.nodup_append] at hn
  exact hn.2.2 _ hi _ (by simp) rfl
theorem Nodes.take {xs : List Int} (h : Nodes xs) (k : Nat) : Nodes (xs.take k) := ⟨h.1.sublist (List.take_sublist _ _), fun x hx => h.2 x (List.mem_of_mem_take hx)⟩

set_option maxHeartbeats 1000000 in
theorem lset_any (A : Option Addr) (cap : Nat) (xs : List Int) (hN : Nodes xs) (hlen : xs.length ≤ 4611686018427387904) (w : World) (hH : HoldsI w A xs) :
    Calls Tryd.prog 15 #[.slice A xs.length cap] w fun e w' => e = .returned (.int .u64 (mk xs : Nat)) ∧ w = w' := by
  obtain ⟨t, ht⟩ : ∃ t, mk xs = t := ⟨_, rfl⟩
  rw [ht]
  have HT := Lib.hid ht
  have HH := Lib.hid hH
  have HN := Lib.hid hN
  obtain ⟨len, hl⟩ : ∃ len, xs.length = len := ⟨_, rfl⟩
  have HLn := Lib.hid hl
  rw [hl] at hlen ⊢
  clear ht hH hl hN
  go_enter Tryd.func15, Tryd.ntmps15
  go_wp2
  go_loop [3, 4] (fun s i => ∃ (k : Nat) (o : Nat), k ≤ len ∧ i = .int .i64 k ∧ s = .int .u64 o ∧ Hid (o = mk (xs.take k))) (fun _ i => len - (intOf i).toNat)
  case atStart => exact ⟨0, 0, Nat.zero_le _, rfl, rfl, Lib.hid rfl⟩
  case round =>
    obtain ⟨k, o, hk, rfl, rfl, HO⟩ := hrel
    by_cases hlt : k < len
    · have hlz : k < xs.length := by rw [HLn.out]; exact hlt
      rcases HH.out with h | ⟨b, off, rfl, _, hc⟩
      · rw [h] at hlz; simp at hlz
      · have hcell := hc k hlz
        have hs : xs.take (k + 1) = xs.take k ++ [xs[k]] := List.take_succ_eq_append_getElem hlz
        have hNk := HN.out.take (k + 1)
        rw [hs] at hNk
        have ha := mk_add hNk
        rw [← hs, ← HO.out] at ha
        have hsm := (mk_small (xs.take (k + 1))).lt
        rw [← ha] at hsm
        obtain ⟨x0, x1⟩ := HN.out.2 _ (List.getElem_mem hlz)
        generalize xs[k] = x at *
        obtain ⟨m, rfl⟩ := Int.eq_ofNat_of_zero_le x0
        have hm : m < 64 := by omega
        have hb : IntKind.u64.wrap (2 ^ m) = ((bitN (m : Int) : Nat) : Int) := by
          have hs := (bitN_small (m : Int)).lt
          have : (2 ^ m : Int) = ((bitN (m : Int) : Nat) : Int) := by unfold bitN; rw [if_pos (by omega)]; simp
          rw [this, IntKind.wrap_u64]
          omega
        have hw : IntKind.u64.wrap ((o : Int) + (bitN (m : Int) : Nat)) = ((o + bitN (m : Int) : Nat) : Int) := by rw [IntKind.wrap_u64]; omega
        generalize hv : bitN (m : Int) = v at *
        generalize hr : o + v = r at *
        have HS := Lib.hid ha
        clear hs hNk ha hsm x0 x1 hc hlz hv hr
        go_wp2
        go_round
        case rel => exact ⟨k + 1, r, by omega, by go_num, rfl, HS⟩
        case measure => simp [intOf]; omega
    · have e : t = o := by rw [HO.out, ← HT.out, List.take_of_length_le (by have := HLn.out; omega)]
      go_wp2
      go_ret
      exact ⟨rfl, rfl⟩
end Go.Proofs.YtlecgedmdaenaaaDoor.Bits
