/- Walks of the reference's lists of nodes (berthingref07), but for their text. -/
import Derived.Test.YtlecgedmdaenaaaDoorBits2
import Derived.ArgAppend
import Derived.RowKit3
import Derived.Deep.LoopGhost
import Derived.WalkMore
import Derived.Maps.AppendAt
import Derived.RangeFuncBox
import Derived.Sort.OwnSorted
namespace Go.Proofs.YtlecgedmdaenaaaDoor.Bits
open Go.RowKit Go.Proofs.YtlecgedmdaenaaaDoor.K

theorem info3 : (Tryd.prog.info? 3).map (fun i => (i.zero, i.size, i.bytes)) = some (some (.int .i64 0), 1, 8) := by kernel_rfl
/-- v is a slice of the call's own (blocks from B on) of the whole numbers xs. -/
def Own (w : World) (B : Nat) (v : Value) (xs : List Int) : Prop := w.ownsRow B 3 1 v xs.length (xs.map (Value.int .i64))
/-- The slice at A holds the whole numbers xs. -/
def HoldsI (w : World) (A : Option Addr) (xs : List Int) : Prop :=
  xs = [] ∨ ∃ b off, A = some ⟨b, off, none⟩ ∧ b < w.heap.size ∧ ∀ i (h : i < xs.length), w.cell? ⟨b, off + i, none⟩ = some (.int .i64 xs[i])
theorem Own.read {w : World} {B : Nat} {v : Value} {xs : List Int} (h : Own w B v xs) : ∃ A cap, v = .slice A xs.length cap ∧ HoldsI w A xs := by
  by_cases hx : xs.length = 0
  · rcases h.2 with ⟨rfl, _⟩ | ⟨g, cap, _, rfl, _⟩
    · exact ⟨none, 0, by rw [hx], .inl (List.eq_nil_of_length_eq_zero hx)⟩
    · exact ⟨_, cap, rfl, .inl (List.eq_nil_of_length_eq_zero hx)⟩
  · obtain ⟨k, hk⟩ : ∃ k, xs.length = k + 1 := ⟨xs.length - 1, by omega⟩
    unfold Own at h
    rw [hk] at h
    obtain ⟨g, cap, rfl⟩ := ownsRow_succ h
    have hc : ∀ i (h : i < xs.length), w.cell? ⟨g, 0 + i, none⟩ = some (.int .i64 xs[i]) := fun i hi => by
      rw [Nat.zero_add, World.ownsRow.cellAt h i (by omega), List.getElem?_map, List.getElem?_eq_getElem hi]
      rfl
    exact ⟨_, cap, by rw [hk], .inr ⟨g, 0, rfl, World.block_lt_of_cell? _ _ (hc 0 (by omega)), hc⟩⟩
theorem HoldsI.keep {w w' : World} {A : Option Addr} {xs : List Int} (h : HoldsI w A xs) (hb : Below w.heap.size w w') : HoldsI w' A xs := by
  rcases h with h | ⟨b, off, rfl, hlt, hc⟩
  · exact .inl h
  · exact .inr ⟨b, off, rfl, Nat.lt_of_lt_of_le hlt hb.size, fun i hi => (hb.cell (p := ⟨b, off + i, none⟩) hlt).trans (hc i hi)⟩

theorem Own.low {w : World} {B : Nat} {v : Value} {xs : List Int} (h : Own w B v xs) : ∀ k, v.ownBlock = some k → B ≤ k := fun _ hk =>
  Nat.le_of_not_lt fun hlt => row_ne_low h hlt hk.symm
/-- The nodes of a set: those of the k lowest bits of x, told from n on. -/
def ofU : Nat → Nat → Nat → List Int
  | 0, _, _ => []
  | k + 1, n, x => (if x % 2 = 1 then [(n : Int)] else []) ++ ofU k (n + 1) (x / 2)
def ofL (x : Nat) : List Int := ofU 64 0 x
theorem ofU_len (k : Nat) : ∀ n x, (ofU k n x).length = popU k x := by
  induction k with
  | zero => intro n x; rfl
  | succ k ih =>
    intro n x
    simp only [ofU, popU, List.length_append, ih]
    split <;> simp <;> omega
theorem ofL_len (x : Nat) : (ofL x).length = pop x := ofU_len 64 0 x

set_option maxHeartbeats 2000000 in
theorem of_any (x : Nat) (hx : Small x) (w : World) :
    Calls Tryd.prog 12 #[.int .u64 x] w fun e w' => ∃ v, e = .returned v ∧ Own w' w.heap.size v (ofL x) ∧ Below w.heap.size w w' := by
  obtain ⟨L, hL⟩ : ∃ L, ofL x = L := ⟨_, rfl⟩
  rw [hL]
  have HL := Lib.hid hL
  have HX := Lib.hid hx
  have hlen : L.length ≤ 64 := by rw [← hL, ofL_len]; exact pop_le x
  have HLen := Lib.hid hlen
  clear hL hx hlen
  obtain ⟨i0, hi, hz0, hz1, hz2⟩ := info_parts info3
  go_enter Tryd.func12, Tryd.ntmps12
  go_wp2
  go_loopw [0, 3, 4] (fun s v i wr => ∃ (k y : Nat) (pre : List Int), k ≤ 64 ∧ s = .int .u64 y ∧ i = .int .i64 k ∧ Hid (Small y ∧ pre ++ ofU (64 - k) k y = L) ∧ Hid (Own wr w.heap.size v pre) ∧ Hid (Below w.heap.size w wr)) (fun _ _ i _ => 64 - (intOf i).toNat)
  case atStart => exact ⟨0, x, [], by omega, rfl, rfl, Lib.hid ⟨HX.out, HL.out⟩, Lib.hid (World.ownsRow_nil _ _ _ _), Lib.hid (Below.refl _ _)⟩
  case round =>
    obtain ⟨k, y, pre, hk, rfl, rfl, HY, HO, HB⟩ := hrel
    by_cases hlt : k < 64
    · have hs : Small (y / 2) := Nat.lt_of_le_of_lt (Nat.div_le_self _ _) HY.out.1
      have hd : pre ++ ((if y % 2 = 1 then [(k : Int)] else []) ++ ofU (64 - (k + 1)) (k + 1) (y / 2)) = L := by
        have h := HY.out.2
        rw [show 64 - k = (64 - (k + 1)) + 1 by omega] at h
        exact h
      obtain ⟨z, hz⟩ : ∃ z, y / 2 = z := ⟨_, rfl⟩
      have e2 : (y : Int) / 2 = (z : Int) := by omega
      rw [hz] at hs hd
      have hp : pre.length ≤ 64 := by have := congrArg List.length hd; simp at this; have := HLen.out; omega
      by_cases hm : y % 2 = 1
      · have b0 : ((y : Int) % 2 == 1) = true := beq_iff_eq.mpr (by omega)
        rw [if_pos hm, ← List.append_assoc] at hd
        have HN := Lib.hid (And.intro hs hd)
        have hw : IntKind.u64.wrap (z : Int) = (z : Int) := by have := hs.lt; rw [IntKind.wrap_u64]; omega
        clear hs hd hz hm HY
        go_wp2_with (at_builtin; refine wpList_append_own _ rfl _ _ 33 rfl w.heap.size 3 i0 (.int .i64 0) 1 8 Tryd.underlying33 hi hz0 hz1 hz2 rfl (by decide) _ _ _ rfl (World.ownsRow.alloc HO.out _) ⟨wr.heap.size, 0, none⟩ 1 1 [.int .i64 (k : Int)] rfl rfl (cell_one_new _ _ _) (by simp [Value.oneCell']) (by unfold maxLen; omega) (by omega) (by have := HB.out.size; simp; omega) ?_; intro v' w1 hown hgrow _)
        refine ⟨⟨k + 1, z, pre ++ [(k : Int)], by omega, rfl, rfl, HN, Lib.hid ?_, Lib.hid ?_⟩, ?_⟩
        · unfold Own; simp only [List.length_append, List.length_cons, List.length_nil, List.map_append, List.map_cons, List.map_nil]; exact hown
        · exact (HB.out.alloc HB.out.size _).grown hgrow (by have := HB.out.size; simp; omega) HO.out.low
        · simp [intOf]; omega
      · have b0 : ((y : Int) % 2 == 1) = false := beq_eq_false_iff_ne.mpr (by omega)
        rw [if_neg hm, List.nil_append] at hd
        have HN := Lib.hid (And.intro hs hd)
        have hw : IntKind.u64.wrap ((y : Int) / 2) = (z : Int) := by have := hs.lt; rw [e2, IntKind.wrap_u64]; omega
        clear hs hd hz hm HY e2
        go_wp2_with fail
        exact ⟨⟨k + 1, z, pre, by omega, rfl, rfl, HN, HO, HB⟩, by simp [intOf]; omega⟩
    · obtain rfl : k = 64 := by omega
      have hd : pre = L := by have h := HY.out.2; simpa [ofU] using h
      clear HY
      go_wp2_with fail
      go_ret
      exact ⟨_, rfl, hd ▸ HO.out, HB.out⟩
end Go.Proofs.YtlecgedmdaenaaaDoor.Bits
