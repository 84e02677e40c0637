/- The plain law that a set's text tells it: a reader of texts, and what it reads. -/
import Derived.Test.YtlecgedmdaenaaaDoorTRef
namespace Go.Proofs.YtlecgedmdaenaaaDoor.Bits
open Go.RowKit Go.Proofs.YtlecgedmdaenaaaDoor.K

/-- A reader's state: what was read, the number at hand, where a run began. -/
structure Rd where
  acc : List Nat
  cur : Nat
  beg : Option Nat
def Rd.commit (s : Rd) : List Nat := s.acc ++ (match s.beg with | none => [s.cur] | some b => List.range' b (s.cur + 1 - b))
def Rd.step (s : Rd) (c : UInt8) : Rd :=
  if c = 44 then ⟨s.commit, 0, none⟩ else if c = 45 then ⟨s.acc, 0, some s.cur⟩ else ⟨s.acc, s.cur * 10 + (c.toNat - 48), s.beg⟩
def Rd.run (s : Rd) (l : List UInt8) : Rd := l.foldl Rd.step s
def Rd.init : Rd := ⟨[], 0, none⟩
def rdAll (l : List UInt8) : List Nat := if l = [] then [] else (Rd.init.run l).commit
theorem run_append (s : Rd) (a b : List UInt8) : s.run (a ++ b) = (s.run a).run b := by unfold Rd.run; rw [List.foldl_append]
theorem run_comma (o l : List UInt8) : Rd.init.run (comma o ++ l) = Rd.run ⟨rdAll o, 0, none⟩ l := by
  rw [run_append]
  unfold comma rdAll
  by_cases h : o = []
  · subst h; rfl
  · rw [if_neg h, if_neg h, run_append]; rfl
theorem step_digit (s : Rd) (d : Nat) (h : d < 10) : s.step (UInt8.ofNat (48 + d)) = ⟨s.acc, s.cur * 10 + d, s.beg⟩ := by
  have e : (UInt8.ofNat (48 + d)).toNat = 48 + d := UInt8.toNat_ofNat_of_lt' (by have : UInt8.size = 256 := rfl; omega)
  unfold Rd.step
  rw [if_neg, if_neg, e]
  · congr 2; omega
  · intro h'; rw [h'] at e; simp at e; omega
  · intro h'; rw [h'] at e; simp at e; omega
theorem run_dgl (acc : List Nat) (beg : Option Nat) (n : Nat) (h : n < 100) : Rd.run ⟨acc, 0, beg⟩ (dgl n) = ⟨acc, n, beg⟩ := by
  unfold dgl
  split
  · show Rd.step _ _ = _
    rw [step_digit _ _ (by assumption)]
    simp
  · show Rd.step (Rd.step _ _) _ = _
    rw [step_digit _ _ (by omega), step_digit _ _ (by omega)]
    congr 1
    simp
    omega
theorem dgl_ne (n : Nat) : dgl n ≠ [] := by unfold dgl; split <;> simp
theorem rd_one (o : List UInt8) (n : Nat) (h : n < 100) : rdAll (comma o ++ dgl n) = rdAll o ++ [n] := by
  rw [rdAll, if_neg (by simp [dgl_ne]), run_comma, run_dgl _ _ _ h]
  rfl
theorem rd_run (o : List UInt8) (n m : Nat) (h : n < 100) (h' : m < 100) : rdAll (comma o ++ dgl n ++ 45 :: dgl m) = rdAll o ++ List.range' n (m + 1 - n) := by
  rw [rdAll, if_neg (by simp), run_append, run_comma, run_dgl _ _ _ h]
  show (Rd.run (Rd.step _ 45) (dgl m)).commit = _
  rw [show Rd.step ⟨rdAll o, n, none⟩ 45 = ⟨rdAll o, 0, some n⟩ from rfl, run_dgl _ _ _ h']
  rfl
theorem rd_text : ∀ (l : List Int) (nx : Int) (o : List UInt8), l.Pairwise (· < ·) → (∀ y ∈ l, 0 ≤ y ∧ y < 64) → ∀ k : Nat,
    (k ∈ rdAll (textT l nx o) ↔ k ∈ rdAll o ∨ ((k : Int) ∈ l ∧ nx ≤ k))
  | [], nx, o, _, _, k => by simp [textT]
  | y :: l, nx, o, hs, hr, k => by
    obtain ⟨hy, hs'⟩ := List.pairwise_cons.1 hs
    have hr' : ∀ z ∈ l, 0 ≤ z ∧ z < 64 := fun z hz => hr z (by simp [hz])
    have hyr := hr y (by simp)
    rw [textT]
    by_cases h1 : y < nx
    · rw [if_pos h1, rd_text l nx o hs' hr' k, List.mem_cons]
      constructor
      · rintro (h | ⟨h, h'⟩)
        · exact .inl h
        · exact .inr ⟨.inr h, h'⟩
      · rintro (h | ⟨h | h, h'⟩)
        · exact .inl h
        · omega
        · exact .inr ⟨h, h'⟩
    · rw [if_neg h1]
      have hl := runLen_le y l
      by_cases h2 : 2 ≤ runLen y l
      · rw [if_pos h2]
        have hat := runLen_at y l
        have hz : y + (runLen y l : Int) ∈ l := by
          have := hat (runLen y l - 1) (by omega)
          rw [show y + ((runLen y l - 1 : Nat) : Int) + 1 = y + (runLen y l : Int) by omega] at this
          exact List.mem_of_getElem? this
        have hzr := hr' _ hz
        rw [rd_text l _ _ hs' hr' k, rd_run _ _ _ (by omega) (by omega), List.mem_append, List.mem_range'_1, List.mem_cons]
        constructor
        · rintro ((h | h) | ⟨h, h'⟩)
          · exact .inl h
          · refine .inr ⟨?_, by omega⟩
            by_cases he : (k : Int) = y
            · exact .inl he
            · have := hat (k - y.toNat - 1) (by omega)
              rw [show y + ((k - y.toNat - 1 : Nat) : Int) + 1 = (k : Int) by omega] at this
              exact .inr (List.mem_of_getElem? this)
          · exact .inr ⟨.inr h, by omega⟩
        · rintro (h | ⟨h | h, h'⟩)
          · exact .inl (.inl h)
          · exact .inl (.inr (by omega))
          · have := hy _ h
            by_cases he : y + (runLen y l : Int) + 1 ≤ k
            · exact .inr ⟨h, he⟩
            · exact .inl (.inr (by omega))
      · rw [if_neg h2, rd_text l _ _ hs' hr' k, rd_one _ _ (by omega), List.mem_append, List.mem_singleton, List.mem_cons]
        constructor
        · rintro ((h | h) | ⟨h, h'⟩)
          · exact .inl h
          · exact .inr ⟨.inl (by omega), by omega⟩
          · exact .inr ⟨.inr h, h'⟩
        · rintro (h | ⟨h | h, h'⟩)
          · exact .inl (.inl h)
          · exact .inl (.inr (by omega))
          · exact .inr ⟨h, h'⟩
theorem rd_ofL (x k : Nat) : k ∈ rdAll (textT (ofL x) (-1) []) ↔ (k : Int) ∈ ofL x := by
  rw [rd_text _ _ _ (ofL_sorted x) (fun y hy => ofL_mem hy)]
  constructor
  · rintro (h | h)
    · simp [rdAll] at h
    · exact h.1
  · exact fun h => .inr ⟨h, by omega⟩
theorem str_inj {a b : List UInt8} (h : str a = str b) : a = b := by rw [← str_empty a, ← str_empty b, h]
theorem none_ne {x : Nat} : textT (ofL x) (-1) [] ≠ [110, 111, 110, 101] := fun h => by
  have h1 : 68973 ∈ rdAll (textT (ofL x) (-1) []) := by rw [h]; decide
  rw [rd_ofL] at h1
  have := ofL_mem h1
  omega
theorem text_inj {a b : Nat} (ha : Small a) (hb : Small b) (h : textC a = textC b) : a = b := by
  unfold textC at h
  by_cases h1 : a = 0 <;> by_cases h2 : b = 0
  · rw [h1, h2]
  · rw [if_pos h1, if_neg h2, stC_text] at h
    exact absurd (str_inj (a := [110, 111, 110, 101]) h).symm none_ne
  · rw [if_neg h1, if_pos h2, stC_text] at h
    exact absurd (str_inj (b := [110, 111, 110, 101]) h) none_ne
  · rw [if_neg h1, if_neg h2, stC_text, stC_text] at h
    have h3 := str_inj h
    refine ext fun i => ?_
    by_cases hi : i < 64
    · rw [← ofL_cast hi, ← ofL_cast hi, ← rd_ofL, ← rd_ofL, h3]
    · exact ⟨fun h => absurd (tb_small ha h) hi, fun h => absurd (tb_small hb h) hi⟩
end Go.Proofs.YtlecgedmdaenaaaDoor.Bits
