/- The plain law of a set's text: the code's fold over the nodes and the reference's runs give the same bytes. -/
import Derived.Test.YtlecgedmdaenaaaDoorText
namespace Go.Proofs.YtlecgedmdaenaaaDoor.Bits
open Go.RowKit Go.Proofs.YtlecgedmdaenaaaDoor.K

/-- How many nodes follow y one by one. -/
def runLen : Int → List Int → Nat
  | _, [] => 0
  | y, z :: l => if z = y + 1 then runLen z l + 1 else 0
def comma (o : List UInt8) : List UInt8 := if o = [] then o else o ++ [44]
/-- The text of the nodes l that are not below nx, behind o. -/
def textT : List Int → Int → List UInt8 → List UInt8
  | [], _, o => o
  | y :: l, nx, o =>
    if y < nx then textT l nx o
    else if 2 ≤ runLen y l then textT l (y + runLen y l + 1) (comma o ++ dgl y.toNat ++ 45 :: dgl (y + runLen y l).toNat)
    else textT l nx (comma o ++ dgl y.toNat)
theorem runLen_le : ∀ (y : Int) (l : List Int), runLen y l ≤ l.length
  | _, [] => Nat.le_refl _
  | y, z :: l => by
    unfold runLen
    split
    · have := runLen_le z l; simp; omega
    · omega
theorem runLen_at : ∀ (y : Int) (l : List Int) (j : Nat), j < runLen y l → l[j]? = some (y + j + 1)
  | _, [], _, h => by simp [runLen] at h
  | y, z :: l, j, h => by
    unfold runLen at h
    split at h
    · rename_i hz
      cases j with
      | zero => simp [hz]
      | succ j =>
        rw [List.getElem?_cons_succ, runLen_at z l j (by omega), hz]
        congr 1
        push_cast
        omega
    · omega
theorem textT_skip : ∀ (r : Nat) (l : List Int) (nx : Int) (o : List UInt8), (∀ j, j < r → ∃ z, l[j]? = some z ∧ z < nx) → textT l nx o = textT (l.drop r) nx o
  | 0, _, _, _, _ => rfl
  | r + 1, [], _, _, h => by obtain ⟨z, hz, _⟩ := h 0 (by omega); simp at hz
  | r + 1, y :: l, nx, o, h => by
    obtain ⟨z, hz, hlt⟩ := h 0 (by omega)
    have e : y = z := by simpa using hz
    rw [textT, if_pos (by rw [e]; exact hlt), List.drop_succ_cons]
    exact textT_skip r l nx o (fun j hj => by have := h (j + 1) (by omega); simpa using this)

/-- The nodes from m on. -/
def ofG (x m : Nat) : List Int := ((List.range' m (64 - m)).filter (fun i => x.testBit i)).map (fun i : Nat => (i : Int))
theorem ofG_step (x : Nat) {m : Nat} (h : m < 64) : ofG x m = if x.testBit m = true then (m : Int) :: ofG x (m + 1) else ofG x (m + 1) := by
  unfold ofG
  rw [show 64 - m = (64 - (m + 1)) + 1 by omega, List.range'_succ, List.filter_cons]
  split <;> simp
theorem ofG_end (x : Nat) {m : Nat} (h : 64 ≤ m) : ofG x m = [] := by unfold ofG; rw [show 64 - m = 0 by omega]; rfl
theorem ofG_ge {x m : Nat} {y : Int} (h : y ∈ ofG x m) : (m : Int) ≤ y ∧ y < 64 := by
  unfold ofG at h
  obtain ⟨i, hi, rfl⟩ := List.mem_map.1 h
  rw [List.mem_filter, List.mem_range'_1] at hi
  omega
theorem ofG_zero (x : Nat) : ofG x 0 = ofL x := by rw [ofL_filter, List.range_eq_range']; rfl
theorem run_eq {x : Nat} : ∀ (d y : Nat), 64 - y = d → y < 64 → (runE x y : Int) = y + runLen y (ofG x (y + 1))
  | 0, y, h, h' => by omega
  | d + 1, y, h, h' => by
    rw [runE_step x h']
    by_cases hy : y + 1 < 64
    · rw [ofG_step x hy]
      have hh := @has_iff x (y + 1) hy
      unfold tb at hh
      by_cases hb : x.testBit (y + 1) = true
      · rw [if_pos (hh.2 hb), if_pos hb, run_eq d (y + 1) (by omega) hy, runLen, if_pos (by push_cast; rfl)]
        push_cast
        omega
      · rw [if_neg (fun h => hb (hh.1 h)), if_neg hb]
        have : runLen (y : Int) (ofG x (y + 1 + 1)) = 0 := by
          cases hl : ofG x (y + 1 + 1) with
          | nil => rfl
          | cons z l =>
            have := (ofG_ge (show z ∈ ofG x (y + 1 + 1) by rw [hl]; simp)).1
            unfold runLen
            rw [if_neg (by push_cast at this; omega)]
        rw [this]; omega
    · obtain rfl : y = 63 := by omega
      rw [ofG_end x (by omega), if_neg]
      · simp [runLen]
      · unfold has bitN; simp
theorem stepC_text {x : Nat} {y : Nat} (hy : y < 64) (o : List UInt8) (nx : Int) : stepC x (o, nx) y =
    if (y : Int) < nx then (o, nx) else if 2 ≤ runLen y (ofG x (y + 1)) then (comma o ++ dgl y ++ 45 :: dgl ((y : Int) + runLen y (ofG x (y + 1))).toNat, (y : Int) + runLen y (ofG x (y + 1)) + 1) else (comma o ++ dgl y, nx) := by
  have h := run_eq (x := x) (64 - y) y rfl hy
  unfold stepC comma
  dsimp only
  by_cases h1 : (y : Int) < nx
  · rw [if_pos h1, if_pos h1]
  · rw [if_neg h1, if_neg h1]
    by_cases h2 : 2 ≤ runLen y (ofG x (y + 1))
    · rw [if_pos h2, if_pos (by omega), h, ← h, show ((runE x y : Int)).toNat = runE x y by omega]
    · rw [if_neg h2, if_neg (by omega)]
theorem fold_text {x : Nat} : ∀ (d m : Nat), 64 - m = d → ∀ (o : List UInt8) (nx : Int), ((ofG x m).foldl (fun st (y : Int) => stepC x st y.toNat) (o, nx)).1 = textT (ofG x m) nx o
  | 0, m, h, o, nx => by rw [ofG_end x (by omega)]; rfl
  | d + 1, m, h, o, nx => by
    rw [ofG_step x (by omega)]
    split
    · rw [List.foldl_cons, show ((m : Int)).toNat = m by omega, stepC_text (by omega), textT, show ((m : Int)).toNat = m by omega]
      split
      · exact fold_text d (m + 1) (by omega) _ _
      · split
        · exact fold_text d (m + 1) (by omega) _ _
        · exact fold_text d (m + 1) (by omega) _ _
    · exact fold_text d (m + 1) (by omega) _ _
theorem stC_text (x : Nat) : (stC x (ofF x)).1 = textT (ofL x) (-1) [] := by
  have h := fold_text (x := x) 64 0 rfl [] (-1)
  rw [ofG_zero, ← ofF_map, List.foldl_map] at h
  rw [← ofF_map, ← h]
  rfl
end Go.Proofs.YtlecgedmdaenaaaDoor.Bits
