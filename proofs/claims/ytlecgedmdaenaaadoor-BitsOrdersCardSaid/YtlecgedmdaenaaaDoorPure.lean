/- Plain laws of sets of nodes as whole numbers: bits, counts, and what is taken from the lowest on. -/
import Derived.Test.YtlecgedmdaenaaaDoorChoose
namespace Go.Proofs.YtlecgedmdaenaaaDoor.Bits
open Go.RowKit Go.Proofs.YtlecgedmdaenaaaDoor.K
def tb (x i : Nat) : Prop := x.testBit i = true
theorem tb_or {a b i : Nat} : tb (a ||| b) i ↔ tb a i ∨ tb b i := by unfold tb; simp
theorem tb_and {a b i : Nat} : tb (a &&& b) i ↔ tb a i ∧ tb b i := by unfold tb; simp
theorem tb_small {a i : Nat} (h : Small a) (hi : tb a i) : i < 64 := by
  refine Nat.lt_of_not_le fun hle => ?_
  have : a.testBit i = false := Nat.testBit_lt_two_pow (Nat.lt_of_lt_of_le h (Nat.pow_le_pow_right (by decide) hle))
  rw [tb, this] at hi; cases hi
theorem tb_less {a b i : Nat} (ha : Small a) (hb : Small b) : tb (less a b) i ↔ tb a i ∧ ¬ tb b i := by
  unfold less
  rw [tb_and, show (2 ^ 64 - 1 - b) = 2 ^ 64 - (b + 1) by omega]
  constructor
  · rintro ⟨h, h2⟩
    refine ⟨h, fun h3 => ?_⟩
    unfold tb at h2 h3
    rw [Nat.testBit_two_pow_sub_succ hb, h3] at h2
    simp at h2
  · rintro ⟨h, h2⟩
    refine ⟨h, ?_⟩
    have := tb_small ha h
    unfold tb at h2 ⊢
    rw [Nat.testBit_two_pow_sub_succ hb]
    simp [this, h2]
theorem ext {a b : Nat} (h : ∀ i, tb a i ↔ tb b i) : a = b := Nat.eq_of_testBit_eq fun i => by
  have := h i
  unfold tb at this
  exact Bool.eq_iff_iff.2 this
theorem tb_bitN {n i : Nat} (hn : n < 64) : tb (bitN (n : Int)) i ↔ n = i := by
  unfold bitN tb
  rw [if_pos ⟨by omega, by omega⟩, show ((n : Int)).toNat = n by omega, Nat.testBit_two_pow]
  simp
theorem has_iff {a n : Nat} (hn : n < 64) : has a (n : Int) = true ↔ tb a n := by
  unfold has
  rw [decide_eq_true_iff]
  constructor
  · intro h
    refine Classical.byContradiction fun hn' => h (ext fun i => ?_)
    rw [tb_and, tb_bitN hn]
    constructor
    · rintro ⟨h1, rfl⟩; exact absurd h1 hn'
    · intro h1; simp [tb] at h1
  · intro h e
    have : tb (a &&& bitN n) n := tb_and.2 ⟨h, (tb_bitN hn).2 rfl⟩
    rw [e] at this
    simp [tb] at this
theorem popU_or (k : Nat) : ∀ a b, (∀ i, ¬ (tb a i ∧ tb b i)) → popU k (a ||| b) = popU k a + popU k b := by
  induction k with
  | zero => intro a b _; rfl
  | succ k ih =>
    intro a b h
    have h2 : (a ||| b) / 2 = a / 2 ||| b / 2 := Nat.or_div_two
    have h3 := ih (a / 2) (b / 2) (fun i ⟨h1, h2⟩ => h (i + 1) ⟨by unfold tb at *; rw [Nat.testBit_succ]; exact h1, by unfold tb at *; rw [Nat.testBit_succ]; exact h2⟩)
    have h0 := h 0
    unfold tb at h0
    have h4 : (a ||| b) % 2 = a % 2 + b % 2 := by
      have e : decide ((a ||| b) % 2 = 1) = (decide (a % 2 = 1) || decide (b % 2 = 1)) := by have := Nat.testBit_or a b 0; simp only [Nat.testBit_zero] at this; exact this
      simp only [Nat.testBit_zero, decide_eq_true_eq] at h0
      rcases Nat.mod_two_eq_zero_or_one a with ha | ha <;> rcases Nat.mod_two_eq_zero_or_one b with hb | hb <;> rcases Nat.mod_two_eq_zero_or_one (a ||| b) with hc | hc <;> rw [ha, hb, hc] at e <;> first | omega | (exact absurd e (by decide))
    simp only [popU]
    rw [h2, h3, h4]; omega
theorem pop_or {a b : Nat} (h : ∀ i, ¬ (tb a i ∧ tb b i)) : pop (a ||| b) = pop a + pop b := popU_or 64 a b h
theorem pop_two : ∀ i : Fin 64, pop (2 ^ i.val) = 1 := by decide +kernel
theorem pop_bitN {n : Nat} (hn : n < 64) : pop (bitN (n : Int)) = 1 := by
  unfold bitN
  rw [if_pos ⟨by omega, by omega⟩, show ((n : Int)).toNat = n by omega]
  exact pop_two ⟨n, hn⟩
theorem pop_zero : pop 0 = 0 := by decide
theorem popU_zero (k : Nat) : ∀ x, x < 2 ^ k → popU k x = 0 → x = 0 := by
  induction k with
  | zero => intro x h _; omega
  | succ k ih =>
    intro x h hp
    simp only [popU] at hp
    have := ih (x / 2) (by rw [Nat.pow_succ] at h; omega) (by omega)
    omega
theorem pop_pos {x : Nat} (hx : Small x) (h : x ≠ 0) : 0 < pop x := Nat.pos_of_ne_zero fun e => h (popU_zero 64 x hx e)
theorem low_tb {x : Nat} (hx : Small x) (h : x ≠ 0) : ∃ i : Nat, low x = (i : Int) ∧ i < 64 ∧ tb x i ∧ ∀ j, j < i → ¬ tb x j := by
  unfold low
  rw [if_neg h]
  refine ⟨Lib.ctz 64 x, rfl, (Lib.lowest_bit 64 x h hx).2, ?_, ?_⟩
  all_goals
    have hs : Lib.ctz 64 x = Lib.ctzFrom 64 x := by unfold Lib.ctz; rw [if_neg h]
    obtain ⟨m, hm, _⟩ := Lib.ctzFrom_spec 64 x (Nat.pos_of_ne_zero h) hx
    rw [← hs] at hm
    generalize Lib.ctz 64 x = c at *
  · unfold tb; rw [hm, Nat.testBit_two_pow_mul]; simp
  · intro j hj; unfold tb; rw [hm, Nat.testBit_two_pow_mul]; simp; omega
/-- What is taken: as many as asked for, of the rest alone, and what was there stays. -/
theorem takeR_spec : ∀ (k out rest : Nat), Small out → Small rest → (∀ i, ¬ (tb out i ∧ tb rest i)) → k ≤ pop rest →
    Small (takeR k out rest) ∧ pop (takeR k out rest) = pop out + k ∧ (∀ i, tb (takeR k out rest) i → tb out i ∨ tb rest i) ∧ (∀ i, tb out i → tb (takeR k out rest) i)
  | 0, out, rest, ho, _, _, _ => ⟨ho, rfl, fun _ h => .inl h, fun _ h => h⟩
  | k + 1, out, rest, ho, hr, hd, hk => by
    have h0 : rest ≠ 0 := fun e => by rw [e, pop_zero] at hk; omega
    obtain ⟨i, hi, hlt, hti, _⟩ := low_tb hr h0
    have hb : ∀ j, tb (bitN (low rest)) j ↔ i = j := fun j => by rw [hi]; exact tb_bitN hlt
    have hbs : Small (bitN (low rest)) := bitN_small _
    have hl : ∀ j, tb (less rest (bitN (low rest))) j ↔ tb rest j ∧ i ≠ j := fun j => by rw [tb_less hr hbs, hb]
    have e1 : rest = less rest (bitN (low rest)) ||| bitN (low rest) := ext fun j => by
      rw [tb_or, hl, hb]
      constructor
      · intro h; by_cases e : i = j
        · exact .inr e
        · exact .inl ⟨h, e⟩
      · rintro (⟨h, _⟩ | rfl)
        · exact h
        · exact hti
    have e2 : pop rest = pop (less rest (bitN (low rest))) + 1 := by
      have := pop_or (a := less rest (bitN (low rest))) (b := bitN (low rest)) (fun j ⟨h1, h2⟩ => ((hl j).1 h1).2 ((hb j).1 h2))
      rw [← e1] at this
      rw [this, show pop (bitN (low rest)) = 1 by rw [hi]; exact pop_bitN hlt]
    have e3 : pop (out ||| bitN (low rest)) = pop out + 1 := by
      rw [pop_or (fun j ⟨h1, h2⟩ => hd j ⟨h1, by rw [← (hb j).1 h2]; exact hti⟩), show pop (bitN (low rest)) = 1 by rw [hi]; exact pop_bitN hlt]
    obtain ⟨a1, a2, a3, a4⟩ := takeR_spec k (out ||| bitN (low rest)) (less rest (bitN (low rest))) (or_small ho hbs) (less_small hr)
      (fun j ⟨h1, h2⟩ => by
        rcases tb_or.1 h1 with h | h
        · exact hd j ⟨h, ((hl j).1 h2).1⟩
        · exact ((hl j).1 h2).2 ((hb j).1 h)) (by omega)
    refine ⟨a1, by rw [takeR, a2, e3]; omega, fun j h => ?_, fun j h => a4 j (tb_or.2 (.inl h))⟩
    rcases a3 j h with h | h
    · rcases tb_or.1 h with h | h
      · exact .inl h
      · exact .inr (by rw [← (hb j).1 h]; exact hti)
    · exact .inr ((hl j).1 h).1
theorem pop_split {X T : Nat} (hX : Small X) (hT : Small T) (h : ∀ i, tb T i → tb X i) : pop X = pop T + pop (less X T) := by
  have e : X = T ||| less X T := ext fun j => by
    rw [tb_or, tb_less hX hT]
    constructor
    · intro h1; by_cases e : tb T j
      · exact .inl e
      · exact .inr ⟨h1, e⟩
    · rintro (h1 | ⟨h1, _⟩)
      · exact h j h1
      · exact h1
  have := pop_or (a := T) (b := less X T) (fun j ⟨h1, h2⟩ => ((tb_less hX hT).1 h2).2 h1)
  rw [← e] at this
  exact this
theorem full {X T : Nat} (hX : Small X) (hT : Small T) (h : ∀ i, tb T i → tb X i) (hp : pop T = pop X) : ∀ i, tb X i → tb T i := fun i hi => by
  have h1 := pop_split hX hT h
  have h2 : less X T = 0 := popU_zero 64 _ (less_small hX) (by show pop _ = 0; omega)
  refine Classical.byContradiction fun hn => ?_
  have := (tb_less hX hT).2 ⟨hi, hn⟩
  rw [h2] at this
  simp [tb] at this
theorem not_tb_zero (i : Nat) : ¬ tb 0 i := by simp [tb]
theorem small_zero : Small 0 := by unfold Small; decide
theorem nil_of {x : Nat} (h : ∀ i, ¬ tb x i) : x = 0 := ext fun i => ⟨fun h1 => absurd h1 (h i), fun h1 => absurd h1 (not_tb_zero i)⟩
/-- One set's part: as many of it as there are and as are wanted still. -/
theorem part_spec {M S out : Nat} {wd : Nat} (hM : Small M) (_hS : Small S) (ho : Small out) (hw : pop out ≤ wd) :
    Small (partOf M wd out S) ∧ pop (partOf M wd out S) = min (wd - pop out) (pop (less (M &&& S) out)) ∧ (∀ i, tb (partOf M wd out S) i → tb M i ∧ tb S i ∧ ¬ tb out i) := by
  have hR : Small (less (M &&& S) out) := less_small (and_small hM)
  have hk : (min ((wd : Int) - pop out) (pop (less (M &&& S) out))).toNat = min (wd - pop out) (pop (less (M &&& S) out)) := by omega
  unfold partOf
  rw [hk]
  obtain ⟨a1, a2, a3, _⟩ := takeR_spec (min (wd - pop out) (pop (less (M &&& S) out))) 0 (less (M &&& S) out) small_zero hR (fun i h => not_tb_zero i h.1) (Nat.min_le_right _ _)
  refine ⟨a1, by rw [a2, pop_zero, Nat.zero_add], fun i hi => ?_⟩
  rcases a3 i hi with h | h
  · exact absurd h (not_tb_zero i)
  · have := (tb_less (and_small hM) ho).1 h
    exact ⟨(tb_and.1 this.1).1, (tb_and.1 this.1).2, this.2⟩
theorem best {M g wd : Nat} (hM : Small M) (hg : Small g) (hw : wd ≤ pop M) :
    Small (chooseL M wd 0 [g, M]) ∧ less (chooseL M wd 0 [g, M]) M = 0 ∧ pop (chooseL M wd 0 [g, M]) = wd ∧ (pop (less (chooseL M wd 0 [g, M]) g) : Int) = max 0 ((wd : Int) - pop (M &&& g)) := by
  have l0 : ∀ X, Small X → less X 0 = X := fun X hX => ext fun i => by rw [tb_less hX small_zero]; exact ⟨fun h => h.1, fun h => ⟨h, not_tb_zero i⟩⟩
  by_cases h0 : wd = 0
  · subst h0
    have e : chooseL M (0 : Nat) 0 [g, M] = 0 := by simp [chooseL, pop_zero]
    have z : ∀ X, Small X → less 0 X = 0 := fun X hX => nil_of fun i h => not_tb_zero i ((tb_less small_zero hX).1 h).1
    rw [e, z M hM, z g hg, pop_zero]
    exact ⟨small_zero, rfl, rfl, by omega⟩
  obtain ⟨s1, p1, t1⟩ := part_spec (M := M) (S := g) (out := 0) (wd := wd) hM hg small_zero (by rw [pop_zero]; omega)
  rw [pop_zero, l0 _ (and_small hM), Nat.sub_zero] at p1
  have u1 : chooseL M wd 0 [g, M] = chooseL M wd (partOf M wd 0 g) [M] := by
    rw [chooseL, if_neg (by rw [pop_zero]; omega), Nat.zero_or]
  rw [u1]
  generalize partOf M wd 0 g = T1 at *
  have g1 : ∀ i, ¬ tb (less T1 g) i := fun i h => ((tb_less s1 hg).1 h).2 (t1 i ((tb_less s1 hg).1 h).1).2.1
  by_cases h1 : (wd : Int) - pop T1 = 0
  · rw [chooseL, if_pos h1]
    refine ⟨s1, nil_of fun i h => ((tb_less s1 hM).1 h).2 (t1 i ((tb_less s1 hM).1 h).1).1, by omega, ?_⟩
    rw [nil_of g1, pop_zero]
    omega
  · rw [chooseL, if_neg h1, chooseL]
    have hp1 : pop T1 = pop (M &&& g) := by omega
    have hf := full (and_small hM) s1 (fun i h => tb_and.2 ⟨(t1 i h).1, (t1 i h).2.1⟩) hp1
    obtain ⟨s2, p2, t2⟩ := part_spec (M := M) (S := M) (out := T1) (wd := wd) hM hM s1 (by omega)
    have hMM : M &&& M = M := Nat.and_self M
    rw [hMM] at p2
    have hsp := pop_split hM s1 (fun i h => (t1 i h).1)
    generalize partOf M wd T1 M = T2 at *
    have hd : ∀ i, ¬ (tb T1 i ∧ tb T2 i) := fun i h => (t2 i h.2).2.2 h.1
    have hpo := pop_or hd
    refine ⟨or_small s1 s2, nil_of fun i h => ?_, by omega, ?_⟩
    · have := (tb_less (or_small s1 s2) hM).1 h
      rcases tb_or.1 this.1 with h' | h'
      · exact this.2 (t1 i h').1
      · exact this.2 (t2 i h').1
    · have e : less (T1 ||| T2) g = T2 := ext fun i => by
        rw [tb_less (or_small s1 s2) hg, tb_or]
        constructor
        · rintro ⟨h | h, h'⟩
          · exact absurd (t1 i h).2.1 h'
          · exact h
        · intro h
          exact ⟨.inr h, fun h' => (t2 i h).2.2 (hf i (tb_and.2 ⟨(t2 i h).1, h'⟩))⟩
      rw [e]; omega
theorem has_may {a b c n : Nat} (ha : Small a) (hb : Small b) (hc : Small c) (hn : n < 64) : has (less a (b ||| c)) (n : Int) = (has a (n : Int) && !has b (n : Int) && !has c (n : Int)) := by
  rw [Bool.eq_iff_iff, Bool.and_eq_true, Bool.and_eq_true, Bool.not_eq_true', Bool.not_eq_true', has_iff hn, has_iff hn, tb_less ha (or_small hb hc), tb_or, Bool.eq_false_iff, Bool.eq_false_iff, ne_eq, ne_eq, has_iff hn, has_iff hn]
  constructor
  · rintro ⟨h1, h2⟩; exact ⟨⟨h1, fun h => h2 (.inl h)⟩, fun h => h2 (.inr h)⟩
  · rintro ⟨⟨h1, h2⟩, h3⟩; exact ⟨h1, fun h => h.elim h2 h3⟩
end Go.Proofs.YtlecgedmdaenaaaDoor.Bits
