/- The plain law of ShareFalls: halving by a later time, twice or once; the factor falls as what was used grows. -/
import Derived.Test.YtlecgedmdaenaaaFactor
namespace Go.Proofs.Ytlecgedmdaenaaa.ShareF

theorem count_idem {x : Int} (h0 : 0 ≤ x) (h1 : x ≤ 1125899906842624) : countI x = x := by unfold countI; split <;> (try split) <;> omega
theorem clamp_idem {x : Int} (h0 : 0 ≤ x) (h1 : x ≤ 1099511627776) : clampI x = x := by unfold clampI; split <;> (try split) <;> omega

theorem atU_range (u t n h : Int) : 0 ≤ atU u t n h ∧ atU u t n h ≤ 1125899906842624 := by
  obtain ⟨h0, h1⟩ := count_range u
  unfold atU
  generalize (min (goneI n (clampI t) / lifeI h) 63).toNat = k
  have hp : (0 : Int) < 2 ^ k := Int.pow_pos (by decide)
  exact ⟨Int.ediv_nonneg h0 (by omega), by have := Int.ediv_le_self (2 ^ k) h0; omega⟩

/-- The plain words: S since, G gone, L the half-life. -/
theorem gone_mul (g l : Int) (h0 : 0 ≤ g) (hl : 1 ≤ l) : 0 ≤ g / l ∧ g / l * l ≤ g ∧ g < g / l * l + l := by
  have h1 := Int.emod_nonneg g (show l ≠ 0 by omega)
  have h2 := Int.emod_lt_of_pos g (show 0 < l by omega)
  have h3 := Int.mul_ediv_add_emod g l
  have h4 : l * (g / l) = g / l * l := Int.mul_comm _ _
  exact ⟨Int.ediv_nonneg h0 (by omega), by omega, by omega⟩

theorem atT_range (t n h : Int) : clampI t ≤ atT t n h ∧ 0 ≤ atT t n h ∧ atT t n h ≤ 1099511627776 := by
  obtain ⟨h0, h1⟩ := clamp_range t
  obtain ⟨n0, n1⟩ := clamp_range n
  obtain ⟨l0, l1⟩ := life_range h
  obtain ⟨g0, g1⟩ := gone_range n t
  obtain ⟨q0, q1, q2⟩ := gone_mul _ _ g0 l0
  have q3 := Int.mul_nonneg q0 (show 0 ≤ lifeI h by omega)
  have hg : goneI n (clampI t) ≤ 1099511627776 - clampI t := by unfold goneI; split <;> omega
  unfold atT
  omega

/-- The steps of a look at y behind a look at x. -/
theorem steps (t x y h : Int) (hxy : x ≤ y) : goneI y (atT t x h) / lifeI h = goneI y (clampI t) / lifeI h - goneI x (clampI t) / lifeI h ∧ goneI x (clampI t) / lifeI h ≤ goneI y (clampI t) / lifeI h := by
  obtain ⟨h0, h1⟩ := clamp_range t
  obtain ⟨l0, l1⟩ := life_range h
  obtain ⟨g0, g1⟩ := gone_range x t
  have hc : clampI x ≤ clampI y := by unfold clampI; (repeat' split) <;> omega
  have hm : goneI x (clampI t) ≤ goneI y (clampI t) := by unfold goneI; split <;> split <;> omega
  refine ⟨?_, Int.ediv_le_ediv (by omega) hm⟩
  obtain ⟨q0, q1, q2⟩ := gone_mul _ _ g0 l0
  have hg : goneI y (atT t x h) = goneI y (clampI t) + -(goneI x (clampI t) / lifeI h) * lifeI h := by
    have e : -(goneI x (clampI t) / lifeI h) * lifeI h = -(goneI x (clampI t) / lifeI h * lifeI h) := Int.neg_mul _ _
    rw [e]
    have e0 : goneI x (clampI t) = 0 → goneI x (clampI t) / lifeI h * lifeI h = 0 := fun hz => by rw [hz]; simp
    unfold atT
    generalize goneI x (clampI t) / lifeI h * lifeI h = K at *
    unfold goneI at *
    split <;> split <;> split at q1 <;> omega
  rw [hg, Int.add_mul_ediv_right _ _ (by omega)]
  omega

theorem twice_T (t x y h : Int) (hxy : x ≤ y) : atT (atT t x h) y h = atT t y h := by
  obtain ⟨a0, a1, a2⟩ := atT_range t x h
  have e1 : clampI (atT t x h) = atT t x h := clamp_idem a1 a2
  have hs := (steps t x y h hxy).1
  have : atT (atT t x h) y h = atT t x h + goneI y (atT t x h) / lifeI h * lifeI h := by unfold atT; rw [show clampI (clampI t + goneI x (clampI t) / lifeI h * lifeI h) = clampI t + goneI x (clampI t) / lifeI h * lifeI h from e1]
  rw [this, hs, Int.sub_mul]
  unfold atT
  omega

theorem two_pow (c : Int) (a b d : Int) (h0 : 0 ≤ c) (h1 : c ≤ 1125899906842624) (ha : 0 ≤ a) (hb : 0 ≤ b) (hd : a + b = d) :
    c / 2 ^ (min a 63).toNat / 2 ^ (min b 63).toNat = c / 2 ^ (min d 63).toNat := by
  rw [Int.ediv_ediv_of_nonneg (Int.le_of_lt (Int.pow_pos (by decide))), ← Int.pow_add]
  by_cases h : d ≤ 63
  · have : (min a 63).toNat + (min b 63).toNat = (min d 63).toNat := by omega
    rw [this]
  · have big : ∀ k : Nat, 51 ≤ k → c / 2 ^ k = 0 := fun k hk => by
      refine Int.ediv_eq_zero_of_lt h0 ?_
      have hp := Nat.pow_le_pow_right (n := 2) (by decide) hk
      have e1 : ((2 ^ 51 : Nat) : Int) = 2 ^ 51 := by norm_cast
      have e2 : ((2 ^ k : Nat) : Int) = 2 ^ k := by norm_cast
      have e : (2 : Int) ^ 51 = 2251799813685248 := by decide
      omega
    rw [big _ (by omega), big _ (by omega)]

theorem twice_U (u t x y h : Int) (hxy : x ≤ y) : atU (atU u t x h) (atT t x h) y h = atU u t y h := by
  obtain ⟨c0, c1⟩ := count_range u
  obtain ⟨u0, u1⟩ := atU_range u t x h
  obtain ⟨a0, a1, a2⟩ := atT_range t x h
  obtain ⟨l0, l1⟩ := life_range h
  obtain ⟨g0, g1⟩ := gone_range x t
  obtain ⟨hs, hle⟩ := steps t x y h hxy
  have e1 : clampI (atT t x h) = atT t x h := clamp_idem a1 a2
  have e2 : countI (atU u t x h) = atU u t x h := count_idem u0 u1
  have : atU (atU u t x h) (atT t x h) y h = atU u t x h / 2 ^ (min (goneI y (atT t x h) / lifeI h) 63).toNat := by
    show countI (atU u t x h) / 2 ^ (min (goneI y (clampI (atT t x h)) / lifeI h) 63).toNat = _
    rw [e1, e2]
  rw [this, hs]
  unfold atU
  exact two_pow _ _ _ _ c0 c1 (Int.ediv_nonneg g0 (by omega)) (by omega) (by omega)

theorem less_U (u t x y h : Int) (hxy : x ≤ y) : atU u t y h ≤ atU u t x h := by
  rw [← twice_U u t x y h hxy]
  obtain ⟨u0, u1⟩ := atU_range u t x h
  have e2 : countI (atU u t x h) = atU u t x h := count_idem u0 u1
  show countI (atU u t x h) / _ ≤ _
  rw [e2]
  exact Int.ediv_le_self _ u0

theorem more_T (t x y h : Int) (hxy : x ≤ y) : atT t x h ≤ atT t y h := by
  have := (atT_range (atT t x h) y h).1
  rw [twice_T t x y h hxy, clamp_idem (atT_range t x h).2.1 (atT_range t x h).2.2] at this
  exact this

theorem fac_range (u t : Int) : 0 ≤ facI u t ∧ facI u t ≤ 1000 := by
  unfold facI
  split
  · omega
  · split
    · omega
    · have h0 : 0 ≤ 1000 * u / t := Int.ediv_nonneg (by omega) (by omega)
      have h1 : 1000 * u / t < 1001 := Int.ediv_lt_of_lt_mul (by omega) (by omega)
      omega
theorem fac_mono (u v t : Int) (h : u ≤ v) : facI v t ≤ facI u t := by
  have r := fac_range v t
  have r' := fac_range u t
  unfold facI at *
  by_cases c1 : t ≤ 0 ∨ u ≤ 0
  · rw [if_pos c1]; exact r.2
  · rw [if_neg c1] at r' ⊢
    rw [if_neg (show ¬ (t ≤ 0 ∨ v ≤ 0) by omega)] at r ⊢
    by_cases c2 : t ≤ v
    · rw [if_pos c2]; exact r'.1
    · rw [if_neg c2, if_neg (show ¬ t ≤ u by omega)]
      have : 1000 * u / t ≤ 1000 * v / t := Int.ediv_le_ediv (by omega) (by omega)
      omega
end Go.Proofs.Ytlecgedmdaenaaa.ShareF
