/- What holds at each round of the law DiskKeeps: the disk, and the other one that is as it was. -/
import Derived.Test.YtlecgedmdaenaaaPref
import Derived.Test.YtlecgedmdaenaaaActs
namespace Go.Proofs.Ytlecgedmdaenaaa.Disk
open Go.RowKit Go.Proofs.Ytlecgedmdaenaaa.K

/-- The slice at L holds the steps. -/
def HoldsA (w : World) (L : Option Addr) (acts : List Act1) : Prop :=
  acts = [] ∨ ∃ b off, L = some ⟨b, off, none⟩ ∧ b < w.heap.size ∧ ∀ i (h : i < acts.length) j, j < 8 → w.cell? ⟨b, off + i * 8 + j, none⟩ = acts[i].cells[j]?
theorem HoldsA.keep {w w' : World} {L : Option Addr} {acts : List Act1} (h : HoldsA w L acts) (hb : Below w.heap.size w w') : HoldsA w' L acts := by
  rcases h with h | ⟨b, off, rfl, hlt, hc⟩
  · exact .inl h
  · exact .inr ⟨b, off, rfl, Nat.lt_of_lt_of_le hlt hb.size, fun i hi j hj => (hb.cell (p := ⟨b, off + i * 8 + j, none⟩) hlt).trans (hc i hi j hj)⟩
/-- The blocks from lo on that were there at wc lie as they lay, and are none of the disk's at D. -/
structure Sep (wr : World) (D : Nat) (v : Nat → Value) (wc : World) (lo : Nat) : Prop where
  size : wc.heap.size ≤ wr.heap.size
  same : ∀ k, lo ≤ k → k < wc.heap.size → wr.heap[k]? = wc.heap[k]?
  off : ∀ k, lo ≤ k → k < wc.heap.size → k ≠ D ∧ ∀ i, i < 4 → (v i).ownBlock ≠ some k
theorem Sep.turn {wr w' wc : World} {n₀ D lo : Nat} {v v' : Nat → Value} (h : Sep wr D v wc lo) (t : Turn wr n₀ D v w' v') : Sep w' D v' wc lo := by
  refine ⟨Nat.le_trans h.size t.below.size, fun k h1 h2 => ?_, fun k h1 h2 => ⟨(h.off k h1 h2).1, fun i hi e => ?_⟩⟩
  · rw [t.keep k (Nat.lt_of_lt_of_le h2 h.size) (h.off k h1 h2).1 (h.off k h1 h2).2]
    exact h.same k h1 h2
  · rcases t.fresh i hi k e with h3 | h3
    · exact (h.off k h1 h2).2 i hi h3
    · have := h.size; omega
theorem Sep.fresh {wa wq : World} {n₀ D : Nat} {v : Nat → Value} {st : St} (h : At0 wa n₀ D v st) (_hb : Below wa.heap.size wa wq) : Sep wq D v wq wa.heap.size :=
  ⟨Nat.le_refl _, fun _ _ _ => rfl, fun k h1 _ => ⟨fun e => by have := h.blk.lt; omega, fun i hi e => by have := (World.ownsRow.lt (h.own i hi) k e).2; omega⟩⟩
theorem Sep.later {wr w' wc : World} {D lo : Nat} {v : Nat → Value} (h : Sep wr D v wc lo) (hb : Below wr.heap.size wr w') : Sep w' D v wc lo :=
  ⟨Nat.le_trans h.size hb.size, fun k h1 h2 => (hb.block k (Nat.lt_of_lt_of_le h2 h.size)).trans (h.same k h1 h2), h.off⟩
theorem OwnB.as {w w' : World} {B : Nat} {v : Value} {l : List UInt8} (h : OwnB w B v l) (hs : ∀ k, B ≤ k → k < w.heap.size → w'.heap[k]? = w.heap[k]?) : OwnB w' B v l := by
  refine ⟨h.1, ?_⟩
  rcases h.2 with h1 | ⟨g, cap, cur, e, hb, hg, hr⟩
  · exact .inl h1
  · exact .inr ⟨g, cap, cur, e, hb, (hs g hb (Array.getElem?_eq_some_iff.1 hg).1).trans hg, hr⟩
theorem At.sep {wr wc : World} {D E lo : Nat} {v v2 : Nat → Value} {sc : St} (h : At wc lo E v2 sc) (s : Sep wr D v wc lo) : At wr lo E v2 sc :=
  ⟨(s.same E h.low h.blk.lt).trans h.blk, fun i hi => (h.own i hi).as s.same, h.apart, h.ok, h.low⟩
/-- What holds at each round. -/
structure Inv (w : World) (g : Nat) (bs : List UInt8) (wc : World) (lo : Nat) (wr : World) (v : Nat → Value) (sd : St) : Prop where
  at0 : At0 wr w.heap.size w.heap.size v sd
  pref : Pref g bs sd
  sep : Sep wr w.heap.size v wc lo
  below : Below w.heap.size w wr
theorem Inv.at {w wc wr : World} {g lo : Nat} {bs : List UInt8} {v : Nat → Value} {sd : St} (h : Inv w g bs wc lo wr v sd) : At wr w.heap.size w.heap.size v sd := h.at0.to h.pref.ok
theorem Inv.turn {w wc wr w' : World} {g lo : Nat} {bs : List UInt8} {v v' : Nat → Value} {sd sd' : St} (h : Inv w g bs wc lo wr v sd) (a : At0 w' w.heap.size w.heap.size v' sd') (t : Turn wr w.heap.size w.heap.size v w' v') (p : Pref g bs sd') : Inv w g bs wc lo w' v' sd' :=
  ⟨a, p, h.sep.turn t, h.below.trans t.below⟩
theorem Inv.later {w wc wr w' : World} {g lo : Nat} {bs : List UInt8} {v : Nat → Value} {sd : St} (h : Inv w g bs wc lo wr v sd) (hb : Below wr.heap.size wr w') : Inv w g bs wc lo w' v sd :=
  h.turn (h.at0.later hb) (Turn.later hb h.below.size) h.pref
end Go.Proofs.Ytlecgedmdaenaaa.Disk
