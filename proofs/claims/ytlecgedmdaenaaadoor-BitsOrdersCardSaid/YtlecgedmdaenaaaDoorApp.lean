/- append where the source's type is another slice type over the same elements. -/
import Derived.Test.YtlecgedmdaenaaaDoorOf
import Derived.Laws.AppendOwn
import Derived.Laws.AppendOwnNone
import Derived.Laws.OwnMore
namespace Go.Proofs.YtlecgedmdaenaaaDoor.Bits
open Go.RowKit Go.Proofs.YtlecgedmdaenaaaDoor.K

theorem append_types {P : Program} (t t2 ty e e2 : TypeId) (i : TypeInfo) (ht : P.underlying t = some (.slice e)) (ht2 : P.underlying t2 = some (.slice e2)) (hi : P.info? e = some i) (a b : Option Addr) (n c m d : Nat) (w : World) :
    (Builtin.append_ #[t, t2] ty #[.slice a n c, .slice b m d]).run P w = (Builtin.append_ #[t, t] ty #[.slice a n c, .slice b m d]).run P w := by
  simp only [Builtin.append_]
  simp [run_underlying ht, run_underlying ht2, sizeOf, typeInfo, hi, Builtin.lenOf]
theorem run_append_list (w : World) (ty : TypeId) (B B2 : Nat) (v v2 : Value) (xs ys : List Int) (hv : Own w B v xs) (hv2 : Own w B2 v2 ys) (hx : xs.length ≤ 1000) (hy : ys.length ≤ 1000) (hB : B ≤ w.heap.size) :
    ∃ v' w', (Builtin.append_ #[32, 33] ty #[v, v2]).run Tryd.prog w = .ok v' w' ∧ Own w' B v' (xs ++ ys) ∧ w.grownBy w' v.ownBlock := by
  obtain ⟨i0, hi, hz0, hz1, hz2⟩ := info_parts info3
  have hsl : ∃ a n c, v = .slice a n c := by
    rcases hv.2 with ⟨rfl, _⟩ | ⟨g, cap, cur, rfl, _⟩
    · exact ⟨_, _, _, rfl⟩
    · exact ⟨_, _, _, rfl⟩
  obtain ⟨a, n, c, hva⟩ := hsl
  obtain ⟨A2, cap2, h2, hh2⟩ := hv2.read
  have ht : (Builtin.append_ #[32, 33] ty #[v, v2]).run Tryd.prog w = (Builtin.append_ #[32, 32] ty #[v, v2]).run Tryd.prog w := by
    rw [hva, h2]
    exact append_types 32 33 ty 3 3 i0 Tryd.underlying32 Tryd.underlying33 hi _ _ _ _ _ _ w
  rw [ht]
  cases A2 with
  | none =>
    rcases hv2.2 with ⟨h3, h4⟩ | ⟨g, cap, cur, h3, _⟩
    · obtain rfl : ys = [] := List.eq_nil_of_length_eq_zero h4
      rw [h3]
      refine ⟨v, w, run_append_owned_none w B 32 ty 3 i0 1 Tryd.underlying32 hi v xs.length _ hv, by rw [List.append_nil]; exact hv, ⟨rfl, rfl, rfl, Nat.le_refl _, fun _ _ _ => rfl⟩⟩
    · rw [h2] at h3; cases h3
  | some ad =>
    rw [h2]
    have hc : ∀ j u, (ys.map (Value.int .i64))[j]? = some u → w.cell? (ad.add j) = some u := fun j u hj => by
      rw [List.getElem?_map] at hj
      rcases hh2 with h | ⟨b, off, hA, _, hc⟩
      · rw [h] at hj; simp at hj
      · cases hA
        cases hz : ys[j]? with
        | none => rw [hz] at hj; cases hj
        | some z =>
          rw [hz] at hj
          obtain ⟨hjl, hje⟩ := List.getElem?_eq_some_iff.1 hz
          have := hc j hjl
          rw [hje] at this
          simp at hj
          rw [show (Addr.add ⟨b, off, none⟩ j) = ⟨b, off + j, none⟩ by unfold Addr.add; split <;> simp_all, this, hj]
    obtain ⟨v', w', hr, h5, h6, _⟩ := run_append_own (P := Tryd.prog) w B 32 ty 3 i0 (.int .i64 0) 1 8 Tryd.underlying32 hi hz0 hz1 hz2 rfl (by decide) v xs.length _ hv ad ys.length cap2 (ys.map (Value.int .i64)) (by simp) hc (by intro u hu; obtain ⟨z, _, rfl⟩ := List.mem_map.1 hu; rfl) (by unfold maxLen; omega) (by omega) hB
    refine ⟨v', w', hr, ?_, h6⟩
    unfold Own
    rw [List.length_append, List.map_append]
    exact h5
theorem wpList_append_list {w : World} {ops : Array Oper} {rest : List Oper} {o : Oper} {a : Act} {Q : Exit → Act → World → Prop} (hgd : o.guard = none) (s x : Operand)
    (ho : o.op = .call { callee := .builtin .append, args := #[s, x], argTypes := #[32, 33] })
    (B B2 : Nat) (v v2 : Value) (xs ys : List Int) (hs : a.eval s = v) (hx : a.eval x = v2) (hv : Own w B v xs) (hv2 : Own w B2 v2 ys) (hlx : xs.length ≤ 1000) (hly : ys.length ≤ 1000) (hB : B ≤ w.heap.size)
    (h : ∀ v' w', Own w' B v' (xs ++ ys) → w.grownBy w' v.ownBlock → wpList Tryd.prog ops Q rest (a.put o.dst v') w') : wpList Tryd.prog ops Q (o :: rest) a w := by
  refine wpList_plain hgd fun K hK => ?_
  obtain ⟨v', w', hr, h2, h3⟩ := run_append_list w o.type B B2 v v2 xs ys hv hv2 hlx hly hB
  unfold Oper.wp execOp
  simp only [ho, resolve, invoke, builtin, Sem.run_bind, Sem.run_pure, Result.andThen_ok, List.map_toArray, List.map_cons, List.map_nil, hs, hx, hr]
  exact hK _ _ (h v' w' h2 h3)
end Go.Proofs.YtlecgedmdaenaaaDoor.Bits
