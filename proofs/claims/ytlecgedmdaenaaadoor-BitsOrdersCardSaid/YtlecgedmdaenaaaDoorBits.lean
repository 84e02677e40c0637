/- Walks of package bits: sets of nodes as natural numbers below 2^64. -/
import Derived.Test.YtlecgedmdaenaaaDoorProg
import Derived.Test.YtlecgedmdaenaaaDoorK
import Derived.Test.YtlecgedmdaenaaaDoorShelf
import Derived.Test.YtlecgedmdaenaaaDoorPop
import Derived.WalkKit
import Derived.Outline
import Derived.Deep.QuietTactic
import Derived.BigQuiet
import Derived.Deep.RegionHeld3
import Derived.Deep.DeepCutAuto
import Derived.Lib.Hide
import Derived.WalkLawsBesides
import Derived.RegionTactic
import Derived.Laws.BitsAllLaws
import Derived.Laws.BitsLemmas
namespace Go.Proofs.YtlecgedmdaenaaaDoor.Bits
open Go.RowKit Go.Proofs.YtlecgedmdaenaaaDoor.K

def bitN (n : Int) : Nat := if 0 ≤ n ∧ n < 64 then 2 ^ n.toNat else 0
def Small (x : Nat) : Prop := x < 2 ^ 64
theorem Small.lt {x : Nat} (h : Small x) : x < 18446744073709551616 := h
theorem bitN_small (n : Int) : Small (bitN n) := by
  unfold bitN Small
  split
  · exact Nat.pow_lt_pow_right (by decide) (by omega)
  · decide
/-- A without what is in b. -/
def less (a b : Nat) : Nat := a &&& (2 ^ 64 - 1 - b)
theorem and_small {a b : Nat} (h : Small a) : Small (a &&& b) := Nat.lt_of_le_of_lt Nat.and_le_left h
theorem or_small {a b : Nat} (h : Small a) (h' : Small b) : Small (a ||| b) := Nat.or_lt_two_pow h h'
theorem less_small {a b : Nat} (h : Small a) : Small (less a b) := and_small h

set_option maxRecDepth 100000 in
theorem bit_any (n : Int) (w : World) :
    Calls Tryd.prog 36 #[.int .i64 n] w fun e w' => e = .returned (.int .u64 (bitN n : Nat)) ∧ w = w' := by
  obtain ⟨b, hb⟩ : ∃ b, bitN n = b := ⟨_, rfl⟩
  rw [hb]
  by_cases h0 : n < 0
  · have e0 : b = 0 := by rw [← hb]; unfold bitN; rw [if_neg (by omega)]
    subst e0
    clear hb
    have b0 : decide (n < 0) = true := decide_eq_true h0
    go_enter Tryd.func36, Tryd.ntmps36
    go_wp2
    go_ret
    exact ⟨rfl, rfl⟩
  · by_cases h1 : 64 ≤ n
    · have e0 : b = 0 := by rw [← hb]; unfold bitN; rw [if_neg (by omega)]
      subst e0
      clear hb
      have b0 : decide (n < 0) = false := decide_eq_false h0
      have b1 : decide (64 ≤ n) = true := decide_eq_true h1
      go_enter Tryd.func36, Tryd.ntmps36
      go_wp2
      go_ret
      exact ⟨rfl, rfl⟩
    · have hb' : IntKind.u64.wrap (2 ^ n.toNat) = (b : Int) := by
        have hs := (bitN_small n).lt
        rw [hb] at hs
        have : (2 ^ n.toNat : Int) = (b : Int) := by rw [← hb]; unfold bitN; rw [if_pos (by omega)]; norm_cast
        rw [this, IntKind.wrap_u64]
        omega
      clear hb
      have b0 : decide (n < 0) = false := decide_eq_false h0
      have b1 : decide (64 ≤ n) = false := decide_eq_false h1
      have l0 : 0 ≤ n := by omega
      have l1 : n ≤ 64 := by omega
      go_enter Tryd.func36, Tryd.ntmps36
      go_wp2
      go_ret
      exact ⟨rfl, rfl⟩

theorem cast_and {a b : Nat} (ha : Small a) (hb : Small b) : bits .and .u64 (a : Int) (b : Int) = ((a &&& b : Nat) : Int) := u64_and_nat a b ha.lt hb.lt
theorem cast_or {a b : Nat} (ha : Small a) (hb : Small b) : bits .or .u64 (a : Int) (b : Int) = ((a ||| b : Nat) : Int) := u64_or_nat a b ha.lt hb.lt
theorem cast_less {a b : Nat} (ha : Small a) (hb : Small b) : bits .andNot .u64 (a : Int) (b : Int) = ((less a b : Nat) : Int) := u64_andNot_nat a b ha.lt hb.lt

theorem and_any (a b : Nat) (ha : Small a) (hb : Small b) (w : World) :
    Calls Tryd.prog 23 #[.int .u64 a, .int .u64 b] w fun e w' => e = .returned (.int .u64 (a &&& b : Nat)) ∧ w = w' := by
  have h := cast_and ha hb
  generalize hc : a &&& b = c at *
  clear hc ha hb
  go_enter Tryd.func23, Tryd.ntmps23
  go_wp2
  go_ret
  exact ⟨rfl, rfl⟩
theorem or_any (a b : Nat) (ha : Small a) (hb : Small b) (w : World) :
    Calls Tryd.prog 24 #[.int .u64 a, .int .u64 b] w fun e w' => e = .returned (.int .u64 (a ||| b : Nat)) ∧ w = w' := by
  have h := cast_or ha hb
  generalize hc : a ||| b = c at *
  clear hc ha hb
  go_enter Tryd.func24, Tryd.ntmps24
  go_wp2
  go_ret
  exact ⟨rfl, rfl⟩
theorem less_any (a b : Nat) (ha : Small a) (hb : Small b) (w : World) :
    Calls Tryd.prog 25 #[.int .u64 a, .int .u64 b] w fun e w' => e = .returned (.int .u64 (less a b : Nat)) ∧ w = w' := by
  have h := cast_less ha hb
  generalize hc : less a b = c at *
  clear hc ha hb
  go_enter Tryd.func25, Tryd.ntmps25
  go_wp2
  go_ret
  exact ⟨rfl, rfl⟩
theorem with_any (a : Nat) (n : Int) (ha : Small a) (w : World) :
    Calls Tryd.prog 16 #[.int .u64 a, .int .i64 n] w fun e w' => e = .returned (.int .u64 (a ||| bitN n : Nat)) ∧ w = w' := by
  have h := cast_or ha (bitN_small n)
  have hb := bit_any n
  generalize hc : a ||| bitN n = c at *
  generalize bitN n = b at *
  have HB := Lib.hid hb
  clear hc ha hb
  go_enter Tryd.func16, Tryd.ntmps16
  go_wp2_with (go_at_call 36; refine (HB.out _).mono ?_; rintro e w' ⟨rfl, rfl⟩)
  go_ret
  exact ⟨rfl, rfl⟩
theorem without_any (a : Nat) (n : Int) (ha : Small a) (w : World) :
    Calls Tryd.prog 17 #[.int .u64 a, .int .i64 n] w fun e w' => e = .returned (.int .u64 (less a (bitN n) : Nat)) ∧ w = w' := by
  have h := cast_less ha (bitN_small n)
  have hb := bit_any n
  generalize hc : less a (bitN n) = c at *
  generalize bitN n = b at *
  have HB := Lib.hid hb
  clear hc ha hb
  go_enter Tryd.func17, Tryd.ntmps17
  go_wp2_with (go_at_call 36; refine (HB.out _).mono ?_; rintro e w' ⟨rfl, rfl⟩)
  go_ret
  exact ⟨rfl, rfl⟩
/-- Is node n in the set a? -/
def has (a : Nat) (n : Int) : Bool := decide (a &&& bitN n ≠ 0)
theorem has_any (a : Nat) (n : Int) (ha : Small a) (w : World) :
    Calls Tryd.prog 19 #[.int .u64 a, .int .i64 n] w fun e w' => e = .returned (.bool (has a n)) ∧ w = w' := by
  have h := cast_and ha (bitN_small n)
  have hb := bit_any n
  have hh : (((a &&& bitN n : Nat) : Int) != 0) = has a n := by
    unfold has
    by_cases e : a &&& bitN n = 0
    · simp [e]
    · simp [e]
  generalize hc : a &&& bitN n = c at *
  generalize bitN n = b at *
  generalize has a n = r at *
  have HB := Lib.hid hb
  clear hc ha hb
  go_enter Tryd.func19, Tryd.ntmps19
  go_wp2_with (go_at_call 36; refine (HB.out _).mono ?_; rintro e w' ⟨rfl, rfl⟩)
  go_ret
  exact ⟨rfl, rfl⟩

/-- The set of the first n nodes. -/
def firstN (n : Int) : Nat := if n < 1 then 0 else if 64 ≤ n then 2 ^ 64 - 1 else 2 ^ n.toNat - 1
theorem first_any (n : Int) (w : World) :
    Calls Tryd.prog 18 #[.int .i64 n] w fun e w' => e = .returned (.int .u64 (firstN n : Nat)) ∧ w = w' := by
  by_cases h0 : n < 1
  · rw [show firstN n = 0 by unfold firstN; rw [if_pos h0]]
    have b0 : decide (n < 1) = true := decide_eq_true h0
    go_enter Tryd.func18, Tryd.ntmps18
    go_wp2
    go_ret
    exact ⟨rfl, rfl⟩
  · by_cases h1 : 64 ≤ n
    · rw [show firstN n = 18446744073709551615 by unfold firstN; rw [if_neg h0, if_pos h1]]
      have b0 : decide (n < 1) = false := decide_eq_false h0
      have b1 : decide (64 ≤ n) = true := decide_eq_true h1
      go_enter Tryd.func18, Tryd.ntmps18
      go_wp2
      go_ret
      exact ⟨rfl, rfl⟩
    · obtain ⟨k, hk⟩ : ∃ k : Nat, n.toNat = k := ⟨_, rfl⟩
      have hk1 : 1 ≤ k := by omega
      have hk2 : k < 64 := by omega
      have hlt : (2 : Nat) ^ k < 2 ^ 64 := Nat.pow_lt_pow_right (by decide) hk2
      have hpos : (0 : Nat) < 2 ^ k := Nat.pow_pos (by decide)
      obtain ⟨p, hp⟩ : ∃ p : Nat, 2 ^ k = p := ⟨_, rfl⟩
      have hf : firstN n = p - 1 := by unfold firstN; rw [if_neg h0, if_neg h1, hk, hp]
      rw [hf]
      rw [hp] at hlt hpos
      have e1 : IntKind.u64.wrap (2 ^ n.toNat) = (p : Int) := by
        have : (2 ^ n.toNat : Int) = (p : Int) := by rw [hk, ← hp]; norm_cast
        rw [this, IntKind.wrap_u64]
        omega
      have e2 : IntKind.u64.wrap ((p : Int) - 1) = ((p - 1 : Nat) : Int) := by rw [IntKind.wrap_u64]; omega
      generalize p - 1 = q at *
      have b0 : decide (n < 1) = false := decide_eq_false h0
      have b1 : decide (64 ≤ n) = false := decide_eq_false h1
      have l0 : 0 ≤ n := by omega
      have l1 : n ≤ 64 := by omega
      clear hf hp hk hlt hpos hk1 hk2
      go_enter Tryd.func18, Tryd.ntmps18
      go_wp2
      go_ret
      exact ⟨rfl, rfl⟩

/-- The table of math/bits in its variable. -/
abbrev Tab (w : World) : Prop := TabAt 0 Lib.deBruijn64tab w
/-- The least node (-1: none). -/
def low (x : Nat) : Int := if x = 0 then -1 else (Lib.ctz 64 x : Nat)
theorem lowest_any (x : Nat) (hx : Small x) (w : World) (hT : Tab w) :
    Calls Tryd.prog 28 #[.int .u64 x] w fun e w' => e = .returned (.int .i64 (low x)) ∧ w = w' := by
  by_cases h : x = 0
  · subst h
    rw [show low 0 = -1 from rfl]
    go_enter Tryd.func28, Tryd.ntmps28
    go_wp2
    go_ret
    exact ⟨rfl, rfl⟩
  · have c : ∀ W, W = w → Calls Tryd.prog 39 #[.int .u64 x] W fun e w' => e = .returned (.int .i64 (low x)) ∧ W = w' := fun W hW => by
      have h1 := Tryd.bits_TrailingZeros64 x W hx.lt (fun _ => by rw [hW]; exact hT)
      rw [show (low x) = ((Lib.ctz 64 x : Nat) : Int) by unfold low; rw [if_neg h]]
      exact h1.mono fun _ _ ⟨a, b⟩ => ⟨a, b.symm⟩
    have C := Lib.hid c
    have b0 : ((x : Int) == 0) = false := beq_eq_false_iff_ne.mpr (by omega)
    generalize low x = l at *
    clear c h hT hx
    go_enter Tryd.func28, Tryd.ntmps28
    go_wp2_with (go_at_call 39; refine (C.out _ rfl).mono ?_; rintro e w' ⟨rfl, rfl⟩)
    go_ret
    exact ⟨rfl, rfl⟩
end Go.Proofs.YtlecgedmdaenaaaDoor.Bits
