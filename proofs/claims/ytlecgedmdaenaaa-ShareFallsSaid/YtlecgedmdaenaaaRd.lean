/- Reading a cell through stores, new blocks and calls: one step each, to be applied again and again. -/
import Derived.Test.YtlecgedmdaenaaaK
import Derived.Deep.RegionHeld
namespace Go.Proofs.Ytlecgedmdaenaaa.K
open Go.RowKit
theorem size_drewN (w : World) (n : Nat) : (w.drewN n).heap.size = w.heap.size := rfl
theorem cdrewN {w : World} {a : Addr} {v : Value} {n : Nat} (h : w.cell? a = some v) : (w.drewN n).cell? a = some v := h
theorem idrewN {w : World} {a : Addr} {n : Nat} (h : (w.cell? a).isSome = true) : ((w.drewN n).cell? a).isSome = true := h
section
variable {w wx : World} {a p : Addr} {v u : Value} {o : Obj}
theorem cnew {cs : Array Value} {t : TypeId} {b i : Nat} (h : b = w.heap.size) (hv : cs[i]? = some v) : (w.alloc (.cells cs t)).cell? ⟨b, i, none⟩ = some v := by
  subst h; rw [World.cell?_alloc_new]; exact hv
theorem cold (h : w.cell? a = some v) : (w.alloc o).cell? a = some v := by rw [World.cell?_alloc_some w a o (by rw [h]; rfl)]; exact h
theorem csame (h : (w.cell? a).isSome = true) : (w.setCell a v).cell? a = some v := World.cell?_setCell_same' w a v h
theorem cother (h : p ≠ a) (hv : w.cell? a = some v) : (w.setCell p u).cell? a = some v := by rw [World.cell?_setCell_other w p a u h]; exact hv
theorem ne_off {b c i j : Nat} (h : i ≠ j) : (⟨b, i, none⟩ : Addr) ≠ ⟨c, j, none⟩ := fun e => h (by cases e; rfl)
theorem ne_blk {b c i j : Nat} (h : b ≠ c) : (⟨b, i, none⟩ : Addr) ≠ ⟨c, j, none⟩ := fun e => h (by cases e; rfl)
theorem inew {cs : Array Value} {t : TypeId} {b i : Nat} (h : b = w.heap.size) (hv : i < cs.size) : ((w.alloc (.cells cs t)).cell? ⟨b, i, none⟩).isSome = true := by
  subst h; rw [World.cell?_alloc_new]; simp [hv]
theorem iof (h : w.cell? a = some v) : (w.cell? a).isSome = true := by rw [h]; rfl
theorem iold (h : (w.cell? a).isSome = true) : ((w.alloc o).cell? a).isSome = true := by rw [World.cell?_alloc_some w a o h]; exact h
theorem iset (h : (w.cell? a).isSome = true) : ((w.setCell p u).cell? a).isSome = true := by
  by_cases e : p = a
  · subst e; rw [World.cell?_setCell_same' w p u h]; rfl
  · rw [World.cell?_setCell_other w p a u e]; exact h
theorem ilater (hb : Below w.heap.size w wx) (h : (w.cell? a).isSome = true) : (wx.cell? a).isSome = true := by
  obtain ⟨x, hx⟩ := Option.isSome_iff_exists.1 h
  rw [cell_later hb hx]; rfl
end
end Go.Proofs.Ytlecgedmdaenaaa.K
