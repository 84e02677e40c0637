/- Slices of bytes: a slice of the call's own, one that is read; append between them; slices.Clone. -/
import Derived.Test.YtlecgedmdaenaaaProg
import Derived.Test.YtlecgedmdaenaaaK
import Derived.WalkKit
import Derived.Outline
import Derived.ArgAppend
import Derived.RowKit3
import Derived.Deep.LoopGhost
import Derived.Deep.QuietTactic
import Derived.BigQuiet
import Derived.Deep.DeepCutAuto
import Derived.Deep.Light
import Derived.Lib.Hide
import Derived.WalkMore
import Derived.WalkLawsBesides
import Derived.WalkSpells
import Derived.RegionTactic
import Derived.Laws.AppendOwn
import Derived.Laws.AppendOwnNone
import Derived.Laws.OwnMore
import Derived.Laws.BytesString
import Derived.Laws.IdiomStrings
import Derived.Laws.Strings
import Derived.Laws.Strings2
import Derived.Laws.Concat
import Derived.Lib.SliceRun
import Derived.RangeFuncBox
namespace Go.Proofs.Ytlecgedmdaenaaa.Disk
open Go.RowKit Go.Proofs.Ytlecgedmdaenaaa.K

theorem info5 : (Try.prog.info? 5).map (fun i => (i.zero, i.size, i.bytes)) = some (some (.int .u8 0), 1, 1) := by kernel_rfl
def bv (l : List UInt8) : List Value := l.map (fun c => .int .u8 (c.toNat : Int))
theorem bv_append (a b : List UInt8) : bv (a ++ b) = bv a ++ bv b := by simp [bv]
theorem bv_len (a : List UInt8) : (bv a).length = a.length := by simp [bv]
/-- v is a slice of the call's own (blocks from B on) of the bytes l. -/
def OwnB (w : World) (B : Nat) (v : Value) (l : List UInt8) : Prop := w.ownsRow B 5 1 v l.length (bv l)
/-- The slice at A holds the bytes l. -/
def HoldsB (w : World) (A : Option Addr) (l : List UInt8) : Prop :=
  l = [] ∨ ∃ b off, A = some ⟨b, off, none⟩ ∧ b < w.heap.size ∧ ∀ i (h : i < l.length), w.cell? ⟨b, off + i, none⟩ = some (.int .u8 (l[i].toNat : Int))
theorem HoldsB.keep {w w' : World} {A : Option Addr} {l : List UInt8} (h : HoldsB w A l) (hb : Below w.heap.size w w') : HoldsB w' A l := by
  rcases h with h | ⟨b, off, rfl, hlt, hc⟩
  · exact .inl h
  · exact .inr ⟨b, off, rfl, Nat.lt_of_lt_of_le hlt hb.size, fun i hi => (hb.cell (p := ⟨b, off + i, none⟩) hlt).trans (hc i hi)⟩
theorem HoldsB.take {w : World} {A : Option Addr} {l : List UInt8} (h : HoldsB w A l) (m : Nat) : HoldsB w A (l.take m) := by
  rcases h with h | ⟨b, off, rfl, hlt, hc⟩
  · exact .inl (by rw [h]; simp)
  · refine .inr ⟨b, off, rfl, hlt, fun i hi => ?_⟩
    rw [List.length_take] at hi
    rw [hc i (by omega)]
    simp
theorem OwnB.read {w : World} {B : Nat} {v : Value} {l : List UInt8} (h : OwnB w B v l) : ∃ A cap, v = .slice A l.length cap ∧ HoldsB w A l ∧ l.length ≤ cap ∧ (A = none → cap = 0) := by
  rcases h.2 with ⟨rfl, h0⟩ | ⟨g, cap, cur, rfl, hb, hg, hn, hm, hs, ht⟩
  · exact ⟨none, 0, by rw [h0], .inl (List.eq_nil_of_length_eq_zero h0), by omega, fun _ => rfl⟩
  · refine ⟨_, cap, rfl, ?_, hn, fun h => by cases h⟩
    have hc : ∀ i (h : i < l.length), w.cell? ⟨g, 0 + i, none⟩ = some (.int .u8 (l[i].toNat : Int)) := fun i hi => by
      rw [Nat.zero_add, World.ownsRow.cellAt h i (by omega)]
      simp [bv, List.getElem?_map, List.getElem?_eq_getElem hi]
    exact .inr ⟨g, 0, rfl, (Array.getElem?_eq_some_iff.1 hg).1, hc⟩
theorem grown_of_below {w w' : World} (h : Below w.heap.size w w') : w.grownBy w' none := ⟨h.os, h.tape, h.output, h.size, fun k hk _ => h.block k hk⟩
theorem OwnB.later {w w' : World} {B : Nat} {v : Value} {l : List UInt8} (h : OwnB w B v l) (hb : Below w.heap.size w w') : OwnB w' B v l :=
  World.ownsRow.kept h (grown_of_below hb) (by cases v.ownBlock <;> simp)
theorem OwnB.take {w : World} {B : Nat} {v : Value} {l : List UInt8} (h : OwnB w B v l) (m : Nat) (hm : m ≤ l.length) {A : Option Addr} {c : Nat} (hv : v = .slice A l.length c) : OwnB w B (.slice A m c) (l.take m) := by
  have hl : (l.take m).length = m := by rw [List.length_take]; omega
  refine ⟨by simp [bv], ?_⟩
  rcases h.2 with ⟨h1, h0⟩ | ⟨g, cap, cur, h1, hb, hg, hn, hmx, hs, ht⟩
  · rw [hv] at h1
    injection h1 with e1 e2 e3
    exact .inl ⟨by rw [e1, e3, show m = 0 by omega], by rw [hl]; omega⟩
  · rw [hv] at h1
    injection h1 with e1 e2 e3
    refine .inr ⟨g, cap, cur, by rw [hl, e1, e3], hb, hg, by rw [hl]; omega, hmx, hs, ?_⟩
    rw [hl]
    have e : cur.toList.take (m * 1) = (cur.toList.take (l.length * 1)).take m := by rw [List.take_take]; congr 1; omega
    rw [e, ht]
    simp [bv, List.map_take]
theorem OwnB.nil (w : World) (B : Nat) : OwnB w B (.slice none 0 0) [] := World.ownsRow_nil _ _ _ _
theorem OwnB.low {w : World} {B : Nat} {v : Value} {l : List UInt8} (h : OwnB w B v l) : ∀ k, v.ownBlock = some k → B ≤ k := fun k hk => (World.ownsRow.lt h k hk).1

theorem run_append_bytes (w : World) (ty : TypeId) (B : Nat) (v : Value) (l bs : List UInt8) (A : Option Addr) (c : Nat) (hv : OwnB w B v l) (hx : HoldsB w A bs) (hA : A = none → c = 0) (hl : l.length ≤ 4000000) (hb : bs.length ≤ 4000000) (hB : B ≤ w.heap.size) :
    ∃ v' w', (Builtin.append_ #[30, 30] ty #[v, .slice A bs.length c]).run Try.prog w = .ok v' w' ∧ OwnB w' B v' (l ++ bs) ∧ w.grownBy w' v.ownBlock ∧ (v'.ownBlock = v.ownBlock ∨ ∀ k, v'.ownBlock = some k → w.heap.size ≤ k) := by
  obtain ⟨i0, hi, hz0, hz1, hz2⟩ := info_parts info5
  cases A with
  | none =>
    rcases hx with h | ⟨_, _, h, _⟩
    · subst h
      obtain rfl := hA rfl
      exact ⟨v, w, run_append_owned_none w B 30 ty 5 i0 1 Try.underlying30 hi v l.length _ hv, by rw [List.append_nil]; exact hv, ⟨rfl, rfl, rfl, Nat.le_refl _, fun _ _ _ => rfl⟩, .inl rfl⟩
    · cases h
  | some ad =>
    have hc : ∀ j u, (bv bs)[j]? = some u → w.cell? (ad.add j) = some u := fun j u hj => by
      rw [bv, List.getElem?_map] at hj
      rcases hx with h | ⟨b, off, hA, _, hc⟩
      · rw [h] at hj; simp at hj
      · cases hA
        cases hz : bs[j]? with
        | none => rw [hz] at hj; cases hj
        | some z =>
          rw [hz] at hj
          obtain ⟨hjl, hje⟩ := List.getElem?_eq_some_iff.1 hz
          have := hc j hjl
          rw [hje] at this
          simp at hj
          rw [Addr.add_lit, this, hj]
    have h1 : ∀ u ∈ bv bs, u.oneCell' = true := by intro u hu; obtain ⟨z, _, rfl⟩ := List.mem_map.1 hu; rfl
    have hol : ∀ (A' : Option Addr) (cap : Nat), v = .slice A' l.length cap → cap < l.length + bs.length → ∃ v' w', (Builtin.append_ #[30, 30] ty #[v, .slice (some ad) bs.length c]).run Try.prog w = .ok v' w' ∧ w'.ownsRow w.heap.size 5 1 v' (l.length + bs.length) (bv l ++ bv bs) ∧ w.grownBy w' none := fun A' cap hve hfull => by
      obtain ⟨A2, cap2, h2, hh2, hcp, hcn⟩ := hv.read
      rw [hve] at h2
      injection h2 with e1 _ e3
      subst e1 e3
      rw [hve]
      cases A' with
      | none =>
        obtain rfl := hcn rfl
        have hl0 : l = [] := List.eq_nil_of_length_eq_zero (by omega)
        subst hl0
        obtain ⟨v', w', hrun, r1, r2, _⟩ := run_append_own (P := Try.prog) w w.heap.size 30 ty 5 i0 (.int .u8 0) 1 1 Try.underlying30 hi hz0 hz1 hz2 rfl (by decide) (.slice none 0 0) 0 [] (World.ownsRow_nil w _ 5 1) ad bs.length c (bv bs) (by rw [bv_len]; omega) hc h1 (by unfold maxLen; omega) (by omega) (Nat.le_refl _)
        exact ⟨v', w', hrun, by simpa [bv] using r1, r2⟩
      | some a' =>
        have ho : ∀ j u, (bv l)[j]? = some u → w.cell? (a'.add j) = some u := fun j u hj => by
          rw [bv, List.getElem?_map] at hj
          rcases hh2 with h | ⟨b, off, hA, _, hc'⟩
          · rw [h] at hj; simp at hj
          · cases hA
            cases hz : l[j]? with
            | none => rw [hz] at hj; cases hj
            | some z =>
              rw [hz] at hj
              obtain ⟨hjl, hje⟩ := List.getElem?_eq_some_iff.1 hz
              have := hc' j hjl
              rw [hje] at this
              simp at hj
              rw [Addr.add_lit, this, hj]
        obtain ⟨v', w', hrun, r1, r2⟩ := run_append_arg_grows (P := Try.prog) w 30 ty 5 i0 (.int .u8 0) 1 1 Try.underlying30 hi hz0 hz1 hz2 rfl (by decide) a' l.length cap (bv l) (by rw [bv_len]; omega) ho ad bs.length c (bv bs) (by rw [bv_len]; omega) hc hfull (by unfold maxLen; omega) (by omega)
        exact ⟨v', w', hrun, r1, r2⟩
    have wide : ∀ (v' : Value) (w' : World), w'.ownsRow w.heap.size 5 1 v' (l.length + bs.length) (bv l ++ bv bs) → OwnB w' B v' (l ++ bs) := fun v' w' h => by
      unfold OwnB
      rw [List.length_append, bv_append]
      refine ⟨h.1, ?_⟩
      rcases h.2 with h' | ⟨g, cap, cur, h1', hb', hr⟩
      · exact .inl h'
      · exact .inr ⟨g, cap, cur, h1', Nat.le_trans hB hb', hr⟩
    have fresh : ∀ (v' : Value) (w' : World), w'.ownsRow w.heap.size 5 1 v' (l.length + bs.length) (bv l ++ bv bs) → ∀ k, v'.ownBlock = some k → w.heap.size ≤ k := fun v' w' h k hk => (World.ownsRow.lt h k hk).1
    have grow : ∀ (w' : World), w.grownBy w' none → w.grownBy w' v.ownBlock := fun w' h => ⟨h.os, h.tape, h.output, h.size, fun k hk hn => h.block k hk (by simp)⟩
    obtain ⟨A', cap, hve, _, hcp, _⟩ := hv.read
    by_cases hr : l.length + bs.length ≤ cap
    · rcases hv.2 with ⟨h1', h0⟩ | ⟨g, cap', cur, h1', hb', _⟩
      · rw [hve] at h1'
        injection h1' with e1 e2 e3
        have hbs : bs = [] := List.eq_nil_of_length_eq_zero (by omega)
        obtain ⟨v', w', hrun, r1, r2, r3⟩ := run_append_own (P := Try.prog) w B 30 ty 5 i0 (.int .u8 0) 1 1 Try.underlying30 hi hz0 hz1 hz2 rfl (by decide) v l.length (bv l) hv ad bs.length c (bv bs) (by rw [bv_len]; omega) hc h1 (by unfold maxLen; omega) (by omega) hB
        have hv' : v' = .slice none 0 0 := r3.2 ⟨by rw [hve, e1, e2, e3], by rw [hbs]; rfl⟩
        refine ⟨v', w', hrun, by unfold OwnB; rw [List.length_append, bv_append]; exact r1, r2, .inl (by rw [hv', hve, e1]; rfl)⟩
      · rw [hve] at h1'
        injection h1' with e1 e2 e3
        subst e1 e3
        rw [hve] at hv ⊢
        obtain ⟨w', hrun, r1, r2⟩ := run_append_fits (P := Try.prog) w B 30 ty 5 i0 1 Try.underlying30 hi hz1 g l.length cap (bv l) hv ad bs.length c (bv bs) (by rw [bv_len]; omega) hc h1 hr
        exact ⟨_, w', hrun, by unfold OwnB; rw [List.length_append, bv_append]; exact r1, r2, .inl rfl⟩
    · obtain ⟨v', w', hrun, r1, r2⟩ := hol A' cap hve (by omega)
      exact ⟨v', w', hrun, wide v' w' r1, grow w' r2, .inr (fresh v' w' r1)⟩
end Go.Proofs.Ytlecgedmdaenaaa.Disk
