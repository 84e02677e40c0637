/- What a step of a disk's laws is made of, where it was read as data. -/
import Derived.Test.YtlecgedmdaenaaaDisk1
import Derived.WalkKit
import Derived.ProofKit
import Derived.OpenShut
import Derived.ChangeOld
import Derived.Below
import Derived.Lib.SmallJoins
namespace Go.Proofs.Ytlecgedmdaenaaa.Disk
open Go.RowKit Go.Proofs.Ytlecgedmdaenaaa.K Go.Joins Go.ChangeShapes Go.WideShapes Go.ChangeAt
theorem cells3 : Try.prog.cellsOf 3 = 1 := by kernel_rfl
theorem cells5 : Try.prog.cellsOf 5 = 1 := by kernel_rfl
theorem cells26 : Try.prog.cellsOf 26 = 4 := by kernel_rfl
theorem cells30 : Try.prog.cellsOf 30 = 1 := by kernel_rfl
theorem cells32 : Try.prog.cellsOf 32 = 8 := by kernel_rfl

variable {H : Type} {enc : TypeId × Value → H} {w : World} {base fuel : Nat} {spare : Nat → Bool} {held : Bool} {cs : List Value} {x : DataW H × List MemPlace}
def InI (n : Int) : Prop := -9223372036854775808 ≤ n ∧ n ≤ 9223372036854775807
/-- A slice of bytes that was read as data. -/
theorem bytes_read (h : DataW.trod enc Try.prog w base spare held fuel 30 cs = some x) :
    ∃ (A : Option Addr) (c : Nat) (bs : List UInt8), cs = [.slice A bs.length c] ∧ HoldsB w A bs ∧ (A = none → c = 0) ∧ bs.length ≤ c := by
  rcases open_ints Try.underlying30 Try.underlying5 cells5 h with ⟨hcs, hx⟩ | ⟨a, len', cap', zs, hcs, _, hl, hm, hz, hx, hcell, hwz⟩
  · exact ⟨none, 0, [], hcs, .inl rfl, fun _ => rfl, Nat.le_refl _⟩
  · have hz' : len' ≤ zs.length := by rw [hz]; split <;> omega
    have hlen : ((zs.take len').map (fun z => UInt8.ofNat z.toNat)).length = len' := by rw [List.length_map, List.length_take]; omega
    refine ⟨some a, cap', (zs.take len').map (fun z => UInt8.ofNat z.toNat), by rw [hlen]; exact hcs, ?_, (fun h => by cases h), by rw [hlen]; exact hl⟩
    by_cases h0 : len' = 0
    · exact .inl (by rw [h0]; rfl)
    · obtain ⟨b, off, spot⟩ := a
      have hspot : spot = none := by simpa [Addr.add] using World.cell?_spot (hcell 0 (by omega))
      subst hspot
      refine .inr ⟨b, off, rfl, World.block_lt_of_cell? _ _ (hcell 0 (by omega)), fun i hi => ?_⟩
      rw [List.length_map, List.length_take] at hi
      have h1 := hcell i (by omega)
      rw [show Addr.add ⟨b, off, none⟩ i = ⟨b, off + i, none⟩ by unfold Addr.add; split <;> simp_all] at h1
      rw [h1]
      have h2 := bounds_u8 (hwz _ (show zs.getD i 0 ∈ zs by rw [List.getD_eq_getElem?_getD, List.getElem?_eq_getElem (by omega)]; exact List.getElem_mem _))
      simp only [List.getElem_map, List.getElem_take, List.getD_eq_getElem?_getD, List.getElem?_eq_getElem (show i < zs.length by omega), Option.getD_some] at h2 ⊢
      have h3 : (UInt8.ofNat zs[i].toNat).toNat = zs[i].toNat := by simp [UInt8.toNat_ofNat']; omega
      rw [h3, Int.toNat_of_nonneg h2.1]
theorem ints4_read (h : DataW.trod enc Try.prog w base spare held fuel 26 cs = some x) :
    ∃ k : Nat → Int, cs = [.int .i64 (k 0), .int .i64 (k 1), .int .i64 (k 2), .int .i64 (k 3)] ∧ ∀ i, InI (k i) := by
  obtain ⟨xs, m, _, _, hsz, hn, hel⟩ := DataW.trod_array Try.underlying26 h
  rw [cells26] at hsz
  match cs, hsz with
  | [c0, c1, c2, c3], _ =>
    have g : ∀ i, i < 4 → ∃ y, DataW.trod enc Try.prog w base spare held m 3 ((([c0, c1, c2, c3] : List Value).drop (i * 1)).take 1) = some y := fun i hi => by
      have := hel i hi
      rw [cells3] at this
      exact ⟨xs[i]'(by omega), this.trans (List.getElem?_eq_getElem (by omega))⟩
    obtain ⟨_, h0⟩ := g 0 (by omega)
    obtain ⟨_, h1⟩ := g 1 (by omega)
    obtain ⟨_, h2⟩ := g 2 (by omega)
    obtain ⟨_, h3⟩ := g 3 (by omega)
    obtain ⟨a, e0, _, b0⟩ := DataW.trod_int Try.underlying3 h0
    obtain ⟨b, e1, _, b1⟩ := DataW.trod_int Try.underlying3 h1
    obtain ⟨c, e2, _, b2⟩ := DataW.trod_int Try.underlying3 h2
    obtain ⟨d, e3, _, b3⟩ := DataW.trod_int Try.underlying3 h3
    simp at e0 e1 e2 e3
    refine ⟨fun i => if i = 0 then a else if i = 1 then b else if i = 2 then c else d, by rw [e0, e1, e2, e3]; rfl, fun i => ?_⟩
    unfold InI
    dsimp only
    split
    · exact bounds_i64 ‹_›
    · split
      · exact bounds_i64 ‹_›
      · split
        · exact bounds_i64 ‹_›
        · exact bounds_i64 ‹_›
/-- A step's numbers and bytes, and where they lie. -/
structure Act1 where
  kd : Int
  f : Int
  n : Int
  A : Option Addr
  c : Nat
  bs : List UInt8
  k : Nat → Int
def Act1.cells (a : Act1) : List Value := [.int .i64 a.kd, .int .i64 a.f, .int .i64 a.n, .slice a.A a.bs.length a.c, .int .i64 (a.k 0), .int .i64 (a.k 1), .int .i64 (a.k 2), .int .i64 (a.k 3)]
structure Act1.Ok (a : Act1) (w : World) : Prop where
  kd : InI a.kd
  f : InI a.f
  n : InI a.n
  k : ∀ i, InI (a.k i)
  bytes : HoldsB w a.A a.bs
  nil : a.A = none → a.c = 0
  room : a.bs.length ≤ a.c
theorem act_read (h : DataW.trod enc Try.prog w base spare held fuel 32 cs = some x) : ∃ a : Act1, cs = a.cells ∧ a.Ok w := by
  obtain ⟨xs, n, _, _, hl, hn, hf⟩ := DataW.trod_struct Try.underlying32 h
  rw [cells32] at hl
  match cs, hl with
  | [c0, c1, c2, c3, c4, c5, c6, c7], _ =>
    have h0 := hf 0 { name := "Kind", type := 3, offset := 0, embedded := false, tag := "", pkgPath := "", byteOffset := 0 } rfl
    have h1 := hf 1 { name := "F", type := 3, offset := 1, embedded := false, tag := "", pkgPath := "", byteOffset := 8 } rfl
    have h2 := hf 2 { name := "N", type := 3, offset := 2, embedded := false, tag := "", pkgPath := "", byteOffset := 16 } rfl
    have h3 := hf 3 { name := "B", type := 30, offset := 3, embedded := false, tag := "", pkgPath := "", byteOffset := 24 } rfl
    have h4 := hf 4 { name := "Keep", type := 26, offset := 4, embedded := false, tag := "", pkgPath := "", byteOffset := 48 } rfl
    have hn : xs.length = 5 := hn
    match xs, hn with
    | [y0, y1, y2, y3, y4], _ =>
      simp only [cells3, cells30, cells26] at h0 h1 h2 h3 h4
      obtain ⟨a, e0, _, b0⟩ := DataW.trod_int Try.underlying3 h0
      obtain ⟨b, e1, _, b1⟩ := DataW.trod_int Try.underlying3 h1
      obtain ⟨c, e2, _, b2⟩ := DataW.trod_int Try.underlying3 h2
      obtain ⟨A, cp, bs, e3, hH, hA, hr⟩ := bytes_read h3
      obtain ⟨k, e4, hk⟩ := ints4_read h4
      simp at e0 e1 e2 e3 e4
      exact ⟨⟨a, b, c, A, cp, bs, k⟩, by simp [Act1.cells, e0, e1, e2, e3, e4], ⟨bounds_i64 b0, bounds_i64 b1, bounds_i64 b2, hk, hH, hA, hr⟩⟩
end Go.Proofs.Ytlecgedmdaenaaa.Disk
