/- For every share s, every three times t and every number a, ShareFalls returns true and leaves its arguments as they were. Conditions: none beyond the given row's own. -/
import Derived.Test.YtlecgedmdaenaaaRows
import Derived.Test.YtlecgedmdaenaaaFallsLaw
import Derived.WalkKit
import Derived.ProofKit
import Derived.OpenShut
import Derived.ChangeOld
import Derived.Below
import Derived.Lib.SmallJoins
namespace Go.Proofs.Ytlecgedmdaenaaa.shareFallsRowProof
open Go.ChangeShapes Go.WideShapes Go.ChangeAt Go.RowKit Go.Joins

theorem own : ownKnob Try.prog.godebug = none := by kernel_rfl
theorem laidOut : laidOutB Try.prog = true := by kernel_rfl
theorem cells56 : Try.prog.cellsOf 56 = 2 := by kernel_rfl
theorem cells57 : Try.prog.cellsOf 57 = 3 := by kernel_rfl
theorem cells54 : Try.prog.cellsOf 54 = 1 := by kernel_rfl

theorem okWide_array {P : Program} {w : World} {r : Reach} {base n : Nat} {t e : TypeId} {v : Value} (ht : P.underlying t = some (.array n e)) (h : Value.okWide P w r base t v) : ∃ cs, v = .agg cs ∧ cs.size = P.cellsOf t := by
  simp only [Value.okWide, ht] at h
  obtain ⟨cs, h1, h2, _⟩ := h
  exact ⟨cs, h1, h2⟩

theorem open_times {H : Type} {enc : TypeId × Value → H} {w : World} {r : Reach} {b0 base : Nat} {spare : Nat → Bool} {held : Bool} {v : Value} {d : DataW H} {p : List MemPlace}
    (hv : Value.okWide Try.prog w r b0 57 v) (h : DataW.Trod enc Try.prog w base spare held 57 v d p) : ∃ t0 t1 t2 : Int, v = .agg #[.int .i64 t0, .int .i64 t1, .int .i64 t2] := by
  obtain ⟨cs, rfl, hsz⟩ := okWide_array Try.underlying57 hv
  rw [cells57] at hsz
  obtain ⟨l⟩ := cs
  match l, hsz with
  | [c0, c1, c2], _ =>
    obtain ⟨fuel, hf⟩ := h
    obtain ⟨xs, m, _, _, _, hn, hel⟩ := DataW.trod_array Try.underlying57 hf
    have g : ∀ i, i < 3 → ∃ y, DataW.trod enc Try.prog w base spare held m 54 ((([c0, c1, c2] : List Value).drop (i * 1)).take 1) = some y := fun i hi => by
      have := hel i hi
      rw [cells54] at this
      exact ⟨xs[i]'(by omega), this.trans (List.getElem?_eq_getElem (by omega))⟩
    obtain ⟨_, h0⟩ := g 0 (by omega)
    obtain ⟨_, h1⟩ := g 1 (by omega)
    obtain ⟨_, h2⟩ := g 2 (by omega)
    obtain ⟨a, e0, _, _⟩ := DataW.trod_int Try.underlying54 h0
    obtain ⟨b, e1, _, _⟩ := DataW.trod_int Try.underlying54 h1
    obtain ⟨c, e2, _, _⟩ := DataW.trod_int Try.underlying54 h2
    simp at e0 e1 e2
    exact ⟨a, b, c, by rw [e0, e1, e2]⟩

set_option maxRecDepth 100000 in
theorem lifted (os : Os) (started : os.Started) (H : Type) (enc : TypeId × Value → H) :
    ReturnsInHanded {} Try.checked os 6 .any (Rows.shareFallsSpec.pre6 enc Try.prog Try.f6 Rows.shareFallsRow.domain false) (Rows.shareFallsSpec.post enc Try.prog Try.f6 false true false false) := by
  refine returnsInHanded_of_change (C := Try.checked) own started (by kernel_rfl) Try.func6
    (ChangeSpec.witness6 (enc := enc) (C := Try.checked) false ⟨#[], #[.agg #[.int .i64 0, .int .i64 0], .agg #[.int .i64 0, .int .i64 0, .int .i64 0], .int .i64 0], []⟩ 8 (by kernel_rfl) (by kernel_rfl) (by kernel_rfl) (by kernel_rfl)) ?_
  intro W base args ds gs before hval0 hW hcnd _
  have hval : ∀ (j : Nat) t v, Try.f6.params[j]? = some t → args[j]? = some v → Value.okWide Try.prog W .any base t v := hval0
  have hW' := hW
  obtain ⟨p, q, hA0, hV, rfl, hfz, hnd⟩ := hW
  have hA : DataW.TrodAll enc Try.prog W 0 (fun _ => true) true Try.f6.params.toList args.toList ds p := hA0
  rw [Try.params6] at hA hval
  obtain ⟨v0, vs0, d0, ds0, p0, q0, hargs, rfl, rfl, h0, r0⟩ := trodAll_cons hA
  obtain ⟨v1, vs1, d1, ds1, p1, q1, rfl, rfl, rfl, h1, r1⟩ := trodAll_cons r0
  obtain ⟨v2, vs2, d2, ds2, p2, q2, rfl, rfl, rfl, h2, r2⟩ := trodAll_cons r1
  obtain ⟨rfl, rfl, rfl⟩ := trodAll_nil r2
  obtain rfl : args = #[v0, v1, v2] := by cases args; simp_all
  obtain ⟨rfl, rfl⟩ := trodVars_none hV
  have k0 := h0
  have k1 := h1
  have k2 := h2
  have lt0 : ∀ x ∈ p0, x.block < W.heap.size := by obtain ⟨m, hm⟩ := k0; exact DataW.trod_lt m _ _ _ hm
  have lt1 : ∀ x ∈ p1, x.block < W.heap.size := by obtain ⟨m, hm⟩ := k1; exact DataW.trod_lt m _ _ _ hm
  have lt2 : ∀ x ∈ p2, x.block < W.heap.size := by obtain ⟨m, hm⟩ := k2; exact DataW.trod_lt m _ _ _ hm
  obtain ⟨c0, c1, y0, y1, n, rfl, _, _, g0, g1⟩ := open_agg2 Try.underlying56 (by kernel_rfl) cells56 (hval 0 56 v0 rfl rfl) h0
  obtain ⟨u, e0, _, _⟩ := DataW.trod_int Try.underlying2 g0
  obtain ⟨t, e1, _, _⟩ := DataW.trod_int Try.underlying54 g1
  simp at e0 e1
  subst e0 e1
  obtain ⟨t0, t1, t2, rfl⟩ := open_times (hval 1 57 v1 rfl rfl) h1
  obtain ⟨a, rfl, _, _, wa⟩ := open_int Try.underlying2 (hval 2 2 v2 rfl rfl) h2
  clear hA0 hval0
  refine (ShareF.law_any u t a t0 t1 t2 W (bounds_i64 wa).2).mono fun e W' ⟨he, bel⟩ => ?_
  subst he
  exact ⟨_, rfl, _, _, _, [], _, [], hW', trodAll_mk1 (shut_bool Try.underlying4 _),
    trodAll_cons_mk (Below.trod laidOut (by kernel_rfl) (of_decide_eq_true (by kernel_rfl)) k0 bel lt0) (trodAll_cons_mk (Below.trod laidOut (by kernel_rfl) (of_decide_eq_true (by kernel_rfl)) k1 bel lt1) (trodAll_cons_mk (Below.trod laidOut (by kernel_rfl) (of_decide_eq_true (by kernel_rfl)) k2 bel lt2) trodAll_mk0)),
    rfl, bel.frame _, fun h => by cases h⟩

theorem shareFalls_holds : Rows.ShareFallsSaid :=
  OpenClaim.holds_of_wide 6 Try.f6 rfl rfl rfl rfl rfl rfl rfl ⟨rfl, rfl, rfl, rfl, rfl⟩ rfl rfl rfl rfl rfl (by kernel_rfl) Try.func6 (by kernel_rfl)
    (of_decide_eq_true (by kernel_rfl)) (by unfold Func.isWrapper; first | (rw [if_pos (by decide +kernel)]; kernel_rfl) | (rw [if_neg (by decide +kernel)]; exact ⟨rfl, rfl⟩))
    (fun os started H enc _ => lifted os started H enc)
end Go.Proofs.Ytlecgedmdaenaaa.shareFallsRowProof
namespace Go.Proofs.Ytlecgedmdaenaaa
/-- The statement, under a short name. -/
theorem shareFalls_holds : Rows.ShareFallsSaid := shareFallsRowProof.shareFalls_holds
#print axioms shareFalls_holds
end Go.Proofs.Ytlecgedmdaenaaa
