/- The walk of the reference's choice (berthingref20). -/
import Derived.Test.YtlecgedmdaenaaaDoorLists
namespace Go.Proofs.YtlecgedmdaenaaaDoor.Bits
open Go.RowKit Go.Proofs.YtlecgedmdaenaaaDoor.K

def HoldsU (w : World) (A : Option Addr) (xs : List Nat) : Prop :=
  xs = [] ∨ ∃ b off, A = some ⟨b, off, none⟩ ∧ b < w.heap.size ∧ ∀ i (h : i < xs.length), w.cell? ⟨b, off + i, none⟩ = some (.int .u64 (xs[i] : Nat))
theorem HoldsU.keep {w w' : World} {A : Option Addr} {xs : List Nat} (h : HoldsU w A xs) (hb : Below w.heap.size w w') : HoldsU w' A xs := by
  rcases h with h | ⟨b, off, rfl, hlt, hc⟩
  · exact .inl h
  · exact .inr ⟨b, off, rfl, Nat.lt_of_lt_of_le hlt hb.size, fun i hi => (hb.cell (p := ⟨b, off + i, none⟩) hlt).trans (hc i hi)⟩
theorem HoldsI.drewN {w : World} {A : Option Addr} {xs : List Int} (h : HoldsI w A xs) (n : Nat) : HoldsI (w.drewN n) A xs := h
theorem HoldsU.drewN {w : World} {A : Option Addr} {xs : List Nat} (h : HoldsU w A xs) (n : Nat) : HoldsU (w.drewN n) A xs := h
theorem grown_of_below {w w' : World} (h : Below w.heap.size w w') : w.grownBy w' none := ⟨h.os, h.tape, h.output, h.size, fun k hk _ => h.block k hk⟩
theorem Own.later {w w' : World} {B : Nat} {v : Value} {xs : List Int} (h : Own w B v xs) (hb : Below w.heap.size w w') : Own w' B v xs :=
  World.ownsRow.kept h (grown_of_below hb) (by cases v.ownBlock <;> simp)
theorem Own.drewN {w : World} {B : Nat} {v : Value} {xs : List Int} (h : Own w B v xs) (n : Nat) : Own (w.drewN n) B v xs := h
def wants (zs : List Nat) (k : Nat) (x : Int) : Bool := decide (k = zs.length) || inL (ofL (zs.getD k 0)) x
def stepR (W : Int) (zs : List Nat) (k : Nat) (out : List Int) (x : Int) : List Int := if (out.length : Int) < W ∧ inL out x = false ∧ wants zs k x = true then out ++ [x] else out
def roundR (W : Int) (zs : List Nat) (l : List Int) (k : Nat) (out : List Int) : List Int := l.foldl (stepR W zs k) out
def outR (W : Int) (zs : List Nat) (l : List Int) : Nat → Nat → List Int → List Int
  | 0, _, out => out
  | m + 1, k, out => outR W zs l m (k + 1) (roundR W zs l k out)

theorem inL_iff {xs : List Int} {n : Int} : inL xs n = true ↔ n ∈ xs := by unfold inL; exact decide_eq_true_iff
theorem stepR_cases (W : Int) (zs : List Nat) (k : Nat) (out : List Int) (x : Int) : stepR W zs k out x = out ∨ (stepR W zs k out x = out ++ [x] ∧ x ∉ out) := by
  unfold stepR
  split
  · rename_i h
    exact .inr ⟨rfl, fun hx => by rw [inL_iff.2 hx] at h; simp at h⟩
  · exact .inl rfl
theorem stepR_nodes {W : Int} {zs : List Nat} {k : Nat} {out : List Int} {x : Int} (h : Nodes out) (hx : 0 ≤ x ∧ x < 64) : Nodes (stepR W zs k out x) := by
  rcases stepR_cases W zs k out x with e | ⟨e, hn⟩
  · rw [e]; exact h
  · rw [e]
    refine ⟨List.nodup_append.2 ⟨h.1, by simp, fun a ha b hb e => ?_⟩, fun y hy => ?_⟩
    · simp at hb; exact hn (by rw [← hb, ← e]; exact ha)
    · rcases List.mem_append.1 hy with hy | hy
      · exact h.2 y hy
      · simp at hy; rw [hy]; exact hx
theorem roundR_nodes {W : Int} {zs : List Nat} {k : Nat} : ∀ (l out : List Int), (∀ x ∈ l, 0 ≤ x ∧ x < 64) → Nodes out → Nodes (roundR W zs l k out)
  | [], _, _, h => h
  | x :: l, out, hl, h => roundR_nodes l _ (fun y hy => hl y (by simp [hy])) (stepR_nodes h (hl x (by simp)))
theorem outR_nodes {W : Int} {zs : List Nat} {l : List Int} (hl : ∀ x ∈ l, 0 ≤ x ∧ x < 64) : ∀ (m k : Nat) (out : List Int), Nodes out → Nodes (outR W zs l m k out)
  | 0, _, _, h => h
  | m + 1, k, _, h => outR_nodes hl m (k + 1) _ (roundR_nodes l _ hl h)
theorem nodes_nil : Nodes [] := ⟨by simp, by simp⟩
theorem Nodes.len {xs : List Int} (h : Nodes xs) : xs.length ≤ 64 := by
  have h2 : xs ⊆ (List.range 64).map (fun n : Nat => (n : Int)) := fun x hx => by
    have := h.2 x hx
    exact List.mem_map.2 ⟨x.toNat, by simp; omega, by omega⟩
  simpa using List.Nodup.length_le_of_subset h.1 h2
theorem ofU_mem (k : Nat) : ∀ n x y, y ∈ ofU k n x → (n : Int) ≤ y ∧ y < n + k := by
  induction k with
  | zero => intro n x y h; simp [ofU] at h
  | succ k ih =>
    intro n x y h
    simp only [ofU, List.mem_append] at h
    rcases h with h | h
    · split at h
      · simp at h; subst h; omega
      · simp at h
    · have := ih _ _ _ h; omega
theorem ofL_mem {x : Nat} {y : Int} (h : y ∈ ofL x) : 0 ≤ y ∧ y < 64 := by have := ofU_mem 64 0 x y h; omega
/-- A round beyond the width asked for adds nothing. -/
theorem roundR_full {W : Int} {zs : List Nat} {k : Nat} : ∀ (l out : List Int), ¬ (out.length : Int) < W → roundR W zs l k out = out
  | [], _, _ => rfl
  | x :: l, out, h => by
    show roundR W zs l k (stepR W zs k out x) = out
    have e : stepR W zs k out x = out := by unfold stepR; rw [if_neg (fun h' => h h'.1)]
    rw [e]; exact roundR_full l out h
end Go.Proofs.YtlecgedmdaenaaaDoor.Bits
