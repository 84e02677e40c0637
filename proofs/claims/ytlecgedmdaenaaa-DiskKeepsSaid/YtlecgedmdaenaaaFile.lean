/- Walks of slices.Clone and of a disk's files: lay, keep, clear, does. -/
import Derived.Test.YtlecgedmdaenaaaBytes
namespace Go.Proofs.Ytlecgedmdaenaaa.Disk
open Go.RowKit Go.Proofs.Ytlecgedmdaenaaa.K

theorem wpList_append_bytes {w : World} {ops : Array Oper} {rest : List Oper} {o : Oper} {a : Act} {Q : Exit → Act → World → Prop} (hgd : o.guard = none) (s x : Operand)
    (ho : o.op = .call { callee := .builtin .append, args := #[s, x], argTypes := #[30, 30] })
    (B : Nat) (v : Value) (l bs : List UInt8) (A : Option Addr) (c n : Nat) (hn : bs.length = n) (hs : a.eval s = v) (hx : a.eval x = .slice A n c) (hv : OwnB w B v l) (hh : HoldsB w A bs) (hA : A = none → c = 0) (hl : l.length ≤ 4000000) (hb : bs.length ≤ 4000000) (hB : B ≤ w.heap.size)
    (h : ∀ v' w', OwnB w' B v' (l ++ bs) → w.grownBy w' v.ownBlock → (v'.ownBlock = v.ownBlock ∨ ∀ k, v'.ownBlock = some k → w.heap.size ≤ k) → wpList Try.prog ops Q rest (a.put o.dst v') w') : wpList Try.prog ops Q (o :: rest) a w := by
  refine wpList_plain hgd fun K hK => ?_
  subst hn
  obtain ⟨v', w', hr, h2, h3, h4⟩ := run_append_bytes w o.type B v l bs A c hv hh hA hl hb hB
  unfold Oper.wp execOp
  simp only [ho, resolve, invoke, builtin, Sem.run_bind, Sem.run_pure, Result.andThen_ok, List.map_toArray, List.map_cons, List.map_nil, hs, hx, hr]
  exact hK _ _ (h v' w' h2 h3 h4)

theorem clone_any (A : Option Addr) (c : Nat) (l : List UInt8) (hl : l.length ≤ 4000000) (w : World) (hH : HoldsB w A l) (hA : A = none → c = 0 ∧ l = []) :
    Calls Try.prog 32 #[.slice A l.length c] w fun e w' => ∃ v, e = .returned v ∧ OwnB w' w.heap.size v l ∧ Below w.heap.size w w' := by
  cases A with
  | none =>
    obtain ⟨rfl, rfl⟩ := hA rfl
    have hn := fun (W : World) => Lib.run_eql_slice_nil (P := Try.prog) W 30 5 none 0 0 0 0 Try.underlying30
    simp only [List.length_nil]
    go_enter Try.func32, Try.ntmps32
    go_wp2
    go_ret
    exact ⟨_, rfl, OwnB.nil _ _, Below.refl _ _⟩
  | some ad =>
    have hn := fun (W : World) => Lib.run_eql_slice_nil (P := Try.prog) W 30 5 (some ad) l.length c 0 0 Try.underlying30
    obtain ⟨n, hne⟩ : ∃ n, l.length = n := ⟨_, rfl⟩
    have HN := Lib.hid hne
    have HH := Lib.hid hH
    rw [hne] at hn hl ⊢
    clear hne hH hA
    go_enter Try.func32, Try.ntmps32
    go_wp2_with (at_builtin; refine wpList_append_bytes rfl _ _ rfl w.heap.size _ [] l (some ad) c n HN.out rfl rfl (World.ownsRow_lit w #[] 0 (Nat.le_refl _) (by unfold maxLen; omega) (by simp)) (HH.out.keep ((Below.refl _ _).alloc (Nat.le_refl _) _)) (fun h => by cases h) (by simp) (by have := HN.out; omega) (by simp) ?_; intro v' w1 ho hg _; have HO := Lib.hid ho; have HB := Lib.hid (show Below w.heap.size w w1 from ((Below.refl _ w).alloc (Nat.le_refl _) _).grown hg (by simp) (fun k e => by cases e; exact Nat.le_refl _)); clear ho hg)
    go_ret
    exact ⟨_, rfl, by have := HO.out; rwa [List.nil_append] at this, HB.out⟩

/-- What became of a file that bytes were laid behind. -/
def Laid (w : World) (B : Nat) (D o : Nat) (v : Value) (l : List UInt8) (w' : World) : Prop :=
  ∃ v' w1, OwnB w1 B v' l ∧ w.grownBy w1 v.ownBlock ∧ (v'.ownBlock = v.ownBlock ∨ ∀ k, v'.ownBlock = some k → w.heap.size ≤ k) ∧ w' = w1.setCell ⟨D, o, none⟩ v'
theorem cell_grown {w w1 : World} {r : Option Nat} {D o : Nat} {v : Value} (hg : w.grownBy w1 r) (hr : r ≠ some D) (h : w.cell? ⟨D, o, none⟩ = some v) : w1.cell? ⟨D, o, none⟩ = some v :=
  hg.cell h (fun e => hr e.symm)
theorem frozen_grown {w w1 : World} {r : Option Nat} {D o : Nat} {v : Value} (hg : w.grownBy w1 r) (hr : r ≠ some D) (h : w.cell? ⟨D, o, none⟩ = some v) (hf : w.frozen? ⟨D, o, none⟩ = false) : w1.frozen? ⟨D, o, none⟩ = false :=
  (World.frozen?_of_block (w := w) (w' := w1) (a := ⟨D, o, none⟩) (hg.block D (World.block_lt_of_cell? _ _ h) (fun e => hr e.symm))).trans hf

theorem lay_any (D o : Nat) (v : Value) (l bs : List UInt8) (A : Option Addr) (c n₀ : Nat) (w : World) (hl : l.length ≤ 4000000) (hb : bs.length ≤ 4000000) (hn : n₀ ≤ w.heap.size) (hc : w.cell? ⟨D, o, none⟩ = some v) (hf : w.frozen? ⟨D, o, none⟩ = false)
    (hv : OwnB w n₀ v l) (hD : v.ownBlock ≠ some D) (hH : HoldsB w A bs) (hA : A = none → c = 0) :
    Calls Try.prog 43 #[.pointer (some ⟨D, o, none⟩), .slice A bs.length c] w fun e w' => (∃ r, e = .returned r) ∧ Laid w n₀ D o v (l ++ bs) w' := by
  obtain ⟨n, hne⟩ : ∃ n, bs.length = n := ⟨_, rfl⟩
  have HN := Lib.hid hne
  have HH := Lib.hid hH
  have HA := Lib.hid hA
  have HV := Lib.hid hv
  have HC := Lib.hid (And.intro hc hf)
  rw [hne] at hb ⊢
  clear hne hH hA hv
  go_enter Try.func43, Try.ntmps43
  go_wp2_with (at_builtin; refine wpList_append_bytes rfl _ _ rfl n₀ v l bs A c n HN.out rfl rfl HV.out HH.out HA.out hl (by have := HN.out; omega) hn ?_; intro v' w1 ho hg hfr; obtain ⟨A', c', rfl, _⟩ := ho.read; have k1 := cell_grown hg hD HC.out.1; have k2 := frozen_grown hg hD HC.out.1 HC.out.2; have HO := Lib.hid (And.intro ho (And.intro hg hfr)); clear ho hg hfr)
  go_end0
  exact ⟨⟨_, rfl⟩, _, w1, HO.out.1, HO.out.2.1, HO.out.2.2, by rw [List.length_append]⟩
theorem keep_any (D o : Nat) (v : Value) (l : List UInt8) (A : Option Addr) (n c n₀ : Nat) (s : Value) (w : World) (hc : w.cell? ⟨D, o, none⟩ = some v) (hs : w.cell? ⟨D, o + 1, none⟩ = some s) (hf : w.frozen? ⟨D, o + 1, none⟩ = false) (hv : OwnB w n₀ v l) :
    Calls Try.prog 31 #[.pointer (some ⟨D, o, none⟩), .slice A n c] w fun e w' => (∃ r, e = .returned r) ∧ w' = w.setCell ⟨D, o + 1, none⟩ (.int .i64 (l.length : Int)) := by
  obtain ⟨A', c', rfl, _⟩ := hv.read
  generalize l.length = m at *
  clear hv
  go_enter Try.func31, Try.ntmps31
  go_wp2
  go_end0
  exact ⟨⟨_, rfl⟩, rfl⟩
theorem clear_any (D o : Nat) (v s : Value) (A : Option Addr) (n c : Nat) (w : World) (hc : w.cell? ⟨D, o, none⟩ = some v) (hs : w.cell? ⟨D, o + 1, none⟩ = some s) (hf : w.frozen? ⟨D, o, none⟩ = false) (hf2 : w.frozen? ⟨D, o + 1, none⟩ = false) :
    Calls Try.prog 44 #[.pointer (some ⟨D, o, none⟩), .slice A n c] w fun e w' => (∃ r, e = .returned r) ∧ w' = (w.setCell ⟨D, o, none⟩ (.slice none 0 0)).setCell ⟨D, o + 1, none⟩ (.int .i64 0) := by
  go_enter Try.func44, Try.ntmps44
  go_wp2
  go_end0
  exact ⟨⟨_, rfl⟩, rfl⟩
end Go.Proofs.Ytlecgedmdaenaaa.Disk
