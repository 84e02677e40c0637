/- Walks of math/bits.Div64 at a high word 0, and of share.Factor where what was used is at most 2^50. -/
import Derived.Test.YtlecgedmdaenaaaShareF
import Derived.Test.YtlecgedmdaenaaaShelf
import Derived.Laws.StructEq
namespace Go.Proofs.Ytlecgedmdaenaaa.ShareF
open Go.RowKit Go.Proofs.Ytlecgedmdaenaaa.K

set_option maxRecDepth 100000 in
theorem div_zero (lo y q r : Int) (w : World) (h0 : 0 ≤ lo) (h1 : lo ≤ 1152921504606846976) (hy : 1 ≤ y) (hy1 : y ≤ 9223372036854775807) (hq : lo / y = q) (hr : lo % y = r) :
    Calls Try.prog 38 #[.int .u64 0, .int .u64 lo, .int .u64 y] w fun e w' => e = .returned (.tuple #[.int .u64 q, .int .u64 r]) ∧ ∃ n, w' = w.drewN n := by
  have c1 : (y == 0) = false := beq_eq_false_iff_ne.mpr (by omega)
  have c2 : decide (y ≤ 0) = false := decide_eq_false (by omega)
  have HQ := Lib.hid hq
  have HR := Lib.hid hr
  clear hq hr
  go_enter Try.func38, Try.ntmps38
  go_wp2
  go_quiet (fail)
  go_wp2
  go_ret2
  rw [← HQ.out, ← HR.out]
  exact ⟨rfl, _, rfl⟩

def facI (u t : Int) : Int := if t ≤ 0 ∨ u ≤ 0 then 1000 else if t ≤ u then 0 else 1000 - 1000 * u / t

set_option maxRecDepth 100000 in
theorem factor_any (u t : Int) (w : World) (hu : u ≤ 1125899906842624) (ht : t ≤ 9223372036854775807) :
    Calls Try.prog 25 #[.int .i64 u, .int .i64 t] w fun e w' => e = .returned (.int .i64 (facI u t)) ∧ ∃ n, w' = w.drewN n := by
  by_cases c1 : t ≤ 0
  · have r : facI u t = 1000 := by unfold facI; rw [if_pos (.inl c1)]
    rw [r]
    clear r
    have b1 : decide (t ≤ 0) = true := decide_eq_true c1
    go_enter Try.func25, Try.ntmps25
    go_wp2
    go_ret
    exact ⟨rfl, 0, rfl⟩
  · by_cases c2 : u ≤ 0
    · have r : facI u t = 1000 := by unfold facI; rw [if_pos (.inr c2)]
      rw [r]
      clear r
      have b1 : decide (t ≤ 0) = false := decide_eq_false c1
      have b2 : decide (u ≤ 0) = true := decide_eq_true c2
      go_enter Try.func25, Try.ntmps25
      go_wp2
      go_ret
      exact ⟨rfl, 0, rfl⟩
    · by_cases c3 : t ≤ u
      · have r : facI u t = 0 := by unfold facI; rw [if_neg (by omega), if_pos c3]
        rw [r]
        clear r
        have b1 : decide (t ≤ 0) = false := decide_eq_false c1
        have b2 : decide (u ≤ 0) = false := decide_eq_false c2
        have b3 : decide (t ≤ u) = true := decide_eq_true c3
        go_enter Try.func25, Try.ntmps25
        go_wp2
        go_ret
        exact ⟨rfl, 0, rfl⟩
      · obtain ⟨q, hq⟩ : ∃ q, 1000 * u / t = q := ⟨_, rfl⟩
        obtain ⟨m, hm⟩ : ∃ m, 1000 * u % t = m := ⟨_, rfl⟩
        obtain ⟨l, hl⟩ : ∃ l, 1000 * u = l := ⟨_, rfl⟩
        have r : facI u t = 1000 - q := by unfold facI; rw [if_neg (by omega), if_neg c3, hq]
        rw [r]
        clear r
        have hq0 : 0 ≤ q := by rw [← hq]; exact Int.ediv_nonneg (by omega) (by omega)
        have hq1 : q ≤ 1000 := by rw [← hq]; exact Int.le_of_lt_add_one (Int.ediv_lt_of_lt_mul (by omega) (by omega))
        have cm : ∀ W, Calls Try.prog 37 #[.int .u64 1000, .int .u64 u] W fun e w' => e = .returned (.tuple #[.int .u64 0, .int .u64 l]) ∧ w' = W := fun W => by
          have h := Try.bits_Mul64 1000 u.toNat (by omega) (by omega) W
          have e1 : ((u.toNat : Nat) : Int) = u := by omega
          have e2 : ((1000 * u.toNat / 18446744073709551616 : Nat) : Int) = 0 := by omega
          have e3 : ((1000 * u.toNat % 18446744073709551616 : Nat) : Int) = l := by omega
          rw [e1, e2, e3] at h
          exact h
        have cd : ∀ W, Calls Try.prog 38 #[.int .u64 0, .int .u64 l, .int .u64 t] W fun e w' => e = .returned (.tuple #[.int .u64 q, .int .u64 m]) ∧ ∃ n, w' = W.drewN n := fun W =>
          div_zero l t q m W (by omega) (by omega) (by omega) ht (by rw [← hl]; exact hq) (by rw [← hl]; exact hm)
        have CM := Lib.hid cm
        have CD := Lib.hid cd
        have b1 : decide (t ≤ 0) = false := decide_eq_false c1
        have b2 : decide (u ≤ 0) = false := decide_eq_false c2
        have b3 : decide (t ≤ u) = false := decide_eq_false c3
        have hu0 : 0 ≤ u := by omega
        have ht0 : 0 ≤ t := by omega
        have wu : IntKind.u64.wrap u = u := by rw [IntKind.wrap_u64]; omega
        have wt : IntKind.u64.wrap t = t := by rw [IntKind.wrap_u64]; omega
        clear cm cd hq hm hl hu ht c1 c2 c3
        go_enter Try.func25, Try.ntmps25
        go_wp2_with fail
        refine (CM.out _).mono ?_
        rintro e w' ⟨rfl, rfl⟩
        go_wp2_with fail
        refine (CD.out _).mono ?_
        rintro e w' ⟨rfl, k, rfl⟩
        go_wp2
        go_ret
        exact ⟨rfl, _, rfl⟩

theorem eq_share (a b c d : Int) (w : World) : (binOp .eql 56 (.agg #[.int .i64 a, .int .i64 b]) (.agg #[.int .i64 c, .int .i64 d])).run Try.prog w = .ok (.bool (a == c && b == d)) w := by
  have u2 := Try.underlying2
  have u54 := Try.underlying54
  have hS : Try.prog.underlying 56 = some (.struct (Try.prog.fieldsOf 56)) := by kernel_rfl
  have hp : Try.prog.stoodInHeld 56 = false := by kernel_rfl
  rw [run_eql_struct, show (10000 : Nat) = 9999 + 1 from rfl, run_equalIn_struct w 9999 56 _ _ hS hp]
  simp only [Program.fieldsOf, Try.underlying56]
  go_simp
  by_cases h1 : a = c <;> by_cases h2 : b = d <;> simp [h1, h2]
theorem neq_share (a b c d : Int) (w : World) : (binOp .neq 56 (.agg #[.int .i64 a, .int .i64 b]) (.agg #[.int .i64 c, .int .i64 d])).run Try.prog w = .ok (.bool (!(a == c && b == d))) w := by
  have u2 := Try.underlying2
  have u54 := Try.underlying54
  have hS : Try.prog.underlying 56 = some (.struct (Try.prog.fieldsOf 56)) := by kernel_rfl
  have hp : Try.prog.stoodInHeld 56 = false := by kernel_rfl
  rw [run_neq_struct, show (10000 : Nat) = 9999 + 1 from rfl, run_equalIn_struct w 9999 56 _ _ hS hp]
  simp only [Program.fieldsOf, Try.underlying56]
  go_simp
  by_cases h1 : a = c <;> by_cases h2 : b = d <;> simp [h1, h2]

set_option maxRecDepth 100000 in
theorem one_any (w : World) :
    Calls Try.prog 26 #[] w fun e w' => e = .returned (.bool true) ∧ Below w.heap.size w w' := by
  have ca : ∀ W, Calls Try.prog 24 #[.agg #[.int .i64 100, .int .i64 0], .int .i64 25, .int .i64 10] W fun e w' => e = .returned (.agg #[.int .i64 25, .int .i64 20]) ∧ Below W.heap.size W w' := fun W => by
    have h := at_any 100 0 25 10 W
    rw [show atU 100 0 25 10 = 25 by decide, show atT 0 25 10 = 20 by decide] at h
    exact h
  have cf : ∀ W, Calls Try.prog 25 #[.int .i64 1, .int .i64 4] W fun e w' => e = .returned (.int .i64 750) ∧ ∃ n, w' = W.drewN n := fun W => by
    have h := factor_any 1 4 W (by omega) (by omega)
    rw [show facI 1 4 = 750 by decide] at h
    exact h
  have CA := Lib.hid ca
  have CF := Lib.hid cf
  clear ca cf
  go_enter Try.func26, Try.ntmps26
  have hg : ∀ (x y : Operand) (a b c d : Int) (W : World), (eqGuard .eql 56 x y (.agg #[.int .i64 a, .int .i64 b]) (.agg #[.int .i64 c, .int .i64 d])).run Try.prog W = .ok () W := fun x y a b c d W => run_eqGuard_agg W _ _ _ _ _ _ (by kernel_rfl)
  have he := eq_share
  go_wp2_with fail
  refine (CA.out _).mono ?_
  rintro e w1 ⟨rfl, hb⟩
  go_wp2_with fail
  refine (CF.out _).mono ?_
  rintro e w2 ⟨rfl, k, rfl⟩
  go_wp2
  go_ret
  exact ⟨rfl, below_drewN hb k⟩
end Go.Proofs.Ytlecgedmdaenaaa.ShareF
