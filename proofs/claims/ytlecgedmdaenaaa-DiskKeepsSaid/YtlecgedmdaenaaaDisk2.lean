/- What a call to a disk's file leaves: the disk's cells and rows, and all else as it lay. -/
import Derived.Test.YtlecgedmdaenaaaDisk1
namespace Go.Proofs.Ytlecgedmdaenaaa.Disk
open Go.RowKit Go.Proofs.Ytlecgedmdaenaaa.K

def upd {α : Type} (g : Nat → α) (f : Nat) (x : α) : Nat → α := fun i => if i = f then x else g i
theorem upd_same {α : Type} (g : Nat → α) (f : Nat) (x : α) : upd g f x f = x := by simp [upd]
theorem upd_other {α : Type} (g : Nat → α) {f i : Nat} (x : α) (h : i ≠ f) : upd g f x i = g i := by simp [upd, h]
/-- What turns between two worlds when the disk at D, with rows v, is called: it, its rows, and new blocks. -/
structure Turn (w : World) (n₀ D : Nat) (v : Nat → Value) (w' : World) (v' : Nat → Value) : Prop where
  below : Below n₀ w w'
  keep : ∀ k, k < w.heap.size → k ≠ D → (∀ i, i < 4 → (v i).ownBlock ≠ some k) → w'.heap[k]? = w.heap[k]?
  fresh : ∀ i, i < 4 → ∀ k, (v' i).ownBlock = some k → (v i).ownBlock = some k ∨ w.heap.size ≤ k
theorem Turn.refl (w : World) (n₀ D : Nat) (v : Nat → Value) : Turn w n₀ D v w v := ⟨Below.refl _ _, fun _ _ _ _ => rfl, fun _ _ _ h => .inl h⟩
theorem Turn.trans {w w1 w2 : World} {n₀ D : Nat} {v v1 v2 : Nat → Value} (h : Turn w n₀ D v w1 v1) (h' : Turn w1 n₀ D v1 w2 v2) : Turn w n₀ D v w2 v2 := by
  refine ⟨h.below.trans h'.below, fun k hk hD hv => ?_, fun i hi k hk => ?_⟩
  · rw [h'.keep k (Nat.lt_of_lt_of_le hk h.below.size) hD (fun i hi e => ?_)]
    · exact h.keep k hk hD hv
    · rcases h.fresh i hi k e with h1 | h1
      · exact hv i hi h1
      · omega
  · rcases h'.fresh i hi k hk with h1 | h1
    · exact h.fresh i hi k h1
    · exact .inr (Nat.le_trans h.below.size h1)
theorem grown_setCell (W : World) (p : Addr) (v : Value) : W.grownBy (W.setCell p v) (some p.block) :=
  ⟨rfl, rfl, rfl, (KeepsWalks.setCell W _ v).size, fun k _ hk => Below.heap_setCell _ _ _ k (fun e => hk (by rw [e]))⟩
theorem OwnB.set {w : World} {B : Nat} {v : Value} {l : List UInt8} (h : OwnB w B v l) {p : Addr} (hp : v.ownBlock ≠ some p.block) (u : Value) : OwnB (w.setCell p u) B v l :=
  World.ownsRow.kept h (grown_setCell w p u) (.inr hp)
theorem Blk.turn {w w' : World} {n₀ D : Nat} {v v' : Nat → Value} (h : Turn w n₀ D v w' v') {b : Nat} {cs : Array Value} {t : TypeId} (hb : Blk w b cs t) (ht : t ≠ 5) (hD : b ≠ D) (hv : ∀ i, i < 4 → ∃ l, OwnB w n₀ (v i) l) : Blk w' b cs t := by
  refine (h.keep b hb.lt hD fun i hi e => ?_).trans hb
  obtain ⟨l, ho⟩ := hv i hi
  rcases ho.2 with ⟨h1, _⟩ | ⟨g, cap, cur, h1, _, hg, _⟩
  · rw [h1] at e; cases e
  · rw [h1] at e
    obtain rfl : g = b := by simpa [Value.ownBlock] using e
    unfold Blk at hb
    rw [hb] at hg
    injection hg with hg
    injection hg with _ ht' _
    exact ht ht'
theorem cells_at (m : Bool) (v : Nat → Value) (s : Nat → Nat) (l : Int) (d : Bool) {f : Nat} (hf : f < 4) : (cells m v s l d)[1 + f * 2]? = some (v f) ∧ (cells m v s l d)[1 + f * 2 + 1]? = some (.int .i64 (s f)) := by
  match f, hf with
  | 0, _ => exact ⟨rfl, rfl⟩
  | 1, _ => exact ⟨rfl, rfl⟩
  | 2, _ => exact ⟨rfl, rfl⟩
  | 3, _ => exact ⟨rfl, rfl⟩
theorem cells_setV (m : Bool) (v : Nat → Value) (s : Nat → Nat) (l : Int) (d : Bool) {f : Nat} (hf : f < 4) (x : Value) : (cells m v s l d).setIfInBounds (1 + f * 2) x = cells m (upd v f x) s l d := by
  match f, hf with
  | 0, _ => rfl
  | 1, _ => rfl
  | 2, _ => rfl
  | 3, _ => rfl
theorem cells_setS (m : Bool) (v : Nat → Value) (s : Nat → Nat) (l : Int) (d : Bool) {f : Nat} (hf : f < 4) (x : Nat) : (cells m v s l d).setIfInBounds (1 + f * 2 + 1) (.int .i64 (x : Int)) = cells m v (upd s f x) l d := by
  match f, hf with
  | 0, _ => rfl
  | 1, _ => rfl
  | 2, _ => rfl
  | 3, _ => rfl

/-- A disk without what is said of its numbers: its cells and rows. -/
structure At0 (w : World) (n₀ D : Nat) (v : Nat → Value) (st : St) : Prop where
  blk : Blk w D (cells true v st.s st.left st.down) 52
  own : ∀ i, i < 4 → OwnB w n₀ (v i) (st.b i)
  apart : ∀ i j, i < 4 → j < 4 → i ≠ j → (v i).ownBlock = none ∨ (v i).ownBlock ≠ (v j).ownBlock
  low : n₀ ≤ D
theorem At0.notD {w : World} {n₀ D : Nat} {v : Nat → Value} {st : St} (h : At0 w n₀ D v st) {i : Nat} (hi : i < 4) : (v i).ownBlock ≠ some D := fun e => by
  rcases (h.own i hi).2 with ⟨h1, _⟩ | ⟨g, cap, cur, h1, _, hg, _⟩
  · rw [h1] at e; cases e
  · rw [h1] at e
    obtain rfl : g = D := by simpa [Value.ownBlock] using e
    have hb := h.blk
    unfold Blk at hb
    rw [hb] at hg
    injection hg with hg
    injection hg with _ ht _
    exact absurd ht (by decide)
theorem At.to0 {w : World} {n₀ D : Nat} {v : Nat → Value} {st : St} (h : At w n₀ D v st) : At0 w n₀ D v st := ⟨h.blk, h.own, h.apart, h.low⟩
theorem At0.to {w : World} {n₀ D : Nat} {v : Nat → Value} {st : St} (h : At0 w n₀ D v st) (ok : st.Ok) : At w n₀ D v st := ⟨h.blk, h.own, h.apart, ok, h.low⟩
theorem At0.turnD {w : World} {n₀ D : Nat} {v : Nat → Value} {st : St} (h : At0 w n₀ D v st) (o : Nat) (u : Value) : Turn w n₀ D v (w.setCell ⟨D, o, none⟩ u) v :=
  ⟨(Below.refl _ _).setCell h.low _, fun k _ hD _ => Below.heap_setCell _ _ _ k hD, fun _ _ _ h => .inl h⟩
theorem At0.setLeft {w : World} {n₀ D : Nat} {v : Nat → Value} {st : St} (h : At0 w n₀ D v st) (n : Int) : At0 (w.setCell ⟨D, 9, none⟩ (.int .i64 n)) n₀ D v { st with left := n } :=
  ⟨h.blk.set 9 _, fun i hi => (h.own i hi).set (h.notD hi) _, h.apart, h.low⟩
theorem At0.setDown {w : World} {n₀ D : Nat} {v : Nat → Value} {st : St} (h : At0 w n₀ D v st) (d : Bool) : At0 (w.setCell ⟨D, 10, none⟩ (.bool d)) n₀ D v { st with down := d } :=
  ⟨h.blk.set 10 _, fun i hi => (h.own i hi).set (h.notD hi) _, h.apart, h.low⟩
theorem At0.setS {w : World} {n₀ D : Nat} {v : Nat → Value} {st : St} (h : At0 w n₀ D v st) {f : Nat} (hf : f < 4) (x : Nat) : At0 (w.setCell ⟨D, 1 + f * 2 + 1, none⟩ (.int .i64 (x : Int))) n₀ D v { st with s := upd st.s f x } :=
  ⟨by have := h.blk.set (1 + f * 2 + 1) (.int .i64 (x : Int)); rw [cells_setS _ _ _ _ _ hf] at this; exact this, fun i hi => (h.own i hi).set (h.notD hi) _, h.apart, h.low⟩
/-- A file's row is another one from now on. -/
theorem At0.setV {w w1 : World} {n₀ D : Nat} {v : Nat → Value} {st : St} (h : At0 w n₀ D v st) {f : Nat} (hf : f < 4) {v' : Value} {l : List UInt8} (hn : n₀ ≤ w.heap.size) (ho : OwnB w1 n₀ v' l) (hg : w.grownBy w1 (v f).ownBlock) (hfr : v'.ownBlock = (v f).ownBlock ∨ ∀ k, v'.ownBlock = some k → w.heap.size ≤ k) :
    At0 (w1.setCell ⟨D, 1 + f * 2, none⟩ v') n₀ D (upd v f v') { st with b := upd st.b f l } ∧ Turn w n₀ D v (w1.setCell ⟨D, 1 + f * 2, none⟩ v') (upd v f v') := by
  have hblk : Blk w1 D (cells true v st.s st.left st.down) 52 := (hg.block D h.blk.lt (fun e => h.notD hf e.symm)).trans h.blk
  have hDw := h.blk.lt
  have hv'D : v'.ownBlock ≠ some D := fun e => by
    rcases hfr with h1 | h1
    · rw [h1] at e; exact h.notD hf e
    · have := h1 D e; omega
  have hold : ∀ i, i < 4 → i ≠ f → OwnB w1 n₀ (v i) (st.b i) := fun i hi hne => World.ownsRow.kept (h.own i hi) hg (by
    rcases h.apart i f hi hf hne with h1 | h1
    · exact .inl h1
    · exact .inr h1)
  have hlt : ∀ i, i < 4 → ∀ k, (v i).ownBlock = some k → k < w.heap.size := fun i hi k hk => (World.ownsRow.lt (h.own i hi) k hk).2
  refine ⟨⟨?_, fun i hi => ?_, fun i j hi hj hij => ?_, h.low⟩, ⟨?_, fun k hk hD hv => ?_, fun i hi k hk => ?_⟩⟩
  · have := hblk.set (1 + f * 2) v'
    rw [cells_setV _ _ _ _ _ hf] at this
    exact this
  · by_cases e : i = f
    · subst e
      dsimp only
      rw [upd_same, upd_same]
      exact ho.set hv'D _
    · dsimp only
      rw [upd_other _ _ e, upd_other _ _ e]
      exact (hold i hi e).set (h.notD hi) _
  · by_cases e : i = f
    · subst e
      rw [upd_same, upd_other _ _ (Ne.symm hij)]
      rcases hfr with h1 | h1
      · rw [h1]; exact h.apart i j hi hj hij
      · cases hk : v'.ownBlock with
        | none => exact .inl rfl
        | some k =>
          refine .inr fun e' => ?_
          have h2 := h1 k hk
          have h3 := hlt j hj k e'.symm
          omega
    · rw [upd_other _ _ e]
      by_cases e2 : j = f
      · subst e2
        rw [upd_same]
        rcases hfr with h1 | h1
        · rw [h1]; exact h.apart i j hi hj hij
        · cases hk : (v i).ownBlock with
          | none => exact .inl rfl
          | some k =>
            refine .inr fun e' => ?_
            have h2 := h1 k e'.symm
            have h3 := hlt i hi k hk
            omega
      · rw [upd_other _ _ e2]
        exact h.apart i j hi hj hij
  · refine Below.setCell ?_ h.low _
    exact (Below.refl _ _).grown hg hn (fun k e => (h.own f hf).low k e)
  · rw [Below.heap_setCell _ _ _ k hD]
    exact hg.block k hk (fun e => hv f hf e.symm)
  · by_cases e : i = f
    · subst e
      rw [upd_same] at hk
      rcases hfr with h1 | h1
      · rw [h1] at hk; exact .inl hk
      · exact .inr (h1 k hk)
    · rw [upd_other _ _ e] at hk
      exact .inl hk
end Go.Proofs.Ytlecgedmdaenaaa.Disk
