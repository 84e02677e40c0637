/- Walks of all that a disk that nobody made is asked, and of Read and Safe of one that was made. -/
import Derived.Test.YtlecgedmdaenaaaDisk5
namespace Go.Proofs.Ytlecgedmdaenaaa.Disk
open Go.RowKit Go.Proofs.Ytlecgedmdaenaaa.K

/-- p points to no disk that was made. -/
def No (p : Value) (w : World) : Prop := Calls Try.prog 30 #[p] w fun e w' => e = .returned (.bool true) ∧ w = w'
theorem call_nobody (p : Value) (what f : Int) (A : Option Addr) (n c : Nat) (w : World) (hn : No p w) :
    Calls Try.prog 29 #[p, .int .i64 what, .int .i64 f, .slice A n c] w fun e w' => e = .returned (.int .i64 1) ∧ w = w' := by
  have C := Lib.hid (may_no p f w hn)
  clear hn
  go_enter Try.func29, Try.ntmps29
  go_wp2_with (go_at_call 33; (with_reducible refine Calls.mono C.out ?_); rintro e w' ⟨rfl, rfl⟩)
  go_ret
  exact ⟨rfl, rfl⟩
theorem append_nobody (p : Value) (f : Int) (A : Option Addr) (n c : Nat) (w : World) (hn : No p w) :
    Calls Try.prog 10 #[p, .int .i64 f, .slice A n c] w fun e w' => e = .returned (.int .i64 1) ∧ w = w' := by
  have C := Lib.hid (call_nobody p 0 f A n c w hn)
  clear hn
  go_enter Try.func10, Try.ntmps10
  go_wp2_with (go_at_call 29; (with_reducible refine Calls.mono C.out ?_); rintro e w' ⟨rfl, rfl⟩)
  go_ret
  exact ⟨rfl, rfl⟩
theorem sync_nobody (p : Value) (f : Int) (w : World) (hn : No p w) :
    Calls Try.prog 12 #[p, .int .i64 f] w fun e w' => e = .returned (.int .i64 1) ∧ w = w' := by
  have C := Lib.hid (call_nobody p 1 f none 0 0 w hn)
  clear hn
  go_enter Try.func12, Try.ntmps12
  go_wp2_with (go_at_call 29; (with_reducible refine Calls.mono C.out ?_); rintro e w' ⟨rfl, rfl⟩)
  go_ret
  exact ⟨rfl, rfl⟩
theorem reset_nobody (p : Value) (f : Int) (w : World) (hn : No p w) :
    Calls Try.prog 14 #[p, .int .i64 f] w fun e w' => e = .returned (.int .i64 1) ∧ w = w' := by
  have C := Lib.hid (call_nobody p 2 f none 0 0 w hn)
  clear hn
  go_enter Try.func14, Try.ntmps14
  go_wp2_with (go_at_call 29; (with_reducible refine Calls.mono C.out ?_); rintro e w' ⟨rfl, rfl⟩)
  go_ret
  exact ⟨rfl, rfl⟩
theorem read_nobody (p : Value) (f : Int) (w : World) (hn : No p w) :
    Calls Try.prog 21 #[p, .int .i64 f] w fun e w' => e = .returned (.tuple #[.slice none 0 0, .int .i64 1]) ∧ w = w' := by
  have C := Lib.hid (may_no p f w hn)
  clear hn
  go_enter Try.func21, Try.ntmps21
  go_wp2_with (go_at_call 33; (with_reducible refine Calls.mono C.out ?_); rintro e w' ⟨rfl, rfl⟩)
  go_ret2
  exact ⟨rfl, rfl⟩
theorem safe_nobody (p : Value) (f : Int) (w : World) (hn : No p w) :
    Calls Try.prog 22 #[p, .int .i64 f] w fun e w' => e = .returned (.tuple #[.slice none 0 0, .int .i64 1]) ∧ w = w' := by
  have C := Lib.hid hn
  clear hn
  unfold No at C
  go_enter Try.func22, Try.ntmps22
  go_wp2_with (go_at_call 30; (with_reducible refine Calls.mono C.out ?_); rintro e w' ⟨rfl, rfl⟩)
  go_ret2
  exact ⟨rfl, rfl⟩
theorem clone_nobody (p : Value) (w : World) (hn : No p w) :
    Calls Try.prog 20 #[p] w fun e w' => e = .returned (.pointer none) ∧ w = w' := by
  have C := Lib.hid hn
  clear hn
  unfold No at C
  go_enter Try.func20, Try.ntmps20
  go_wp2_with (go_at_call 30; (with_reducible refine Calls.mono C.out ?_); rintro e w' ⟨rfl, rfl⟩)
  go_ret
  exact ⟨rfl, rfl⟩
theorem fall_nobody (p : Value) (k0 k1 k2 k3 : Int) (w : World) (hn : No p (w.alloc (.cells #[.int .i64 k0, .int .i64 k1, .int .i64 k2, .int .i64 k3] 26))) :
    Calls Try.prog 16 #[p, .agg #[.int .i64 k0, .int .i64 k1, .int .i64 k2, .int .i64 k3]] w fun e w' => (∃ r, e = .returned r) ∧ w' = w.alloc (.cells #[.int .i64 k0, .int .i64 k1, .int .i64 k2, .int .i64 k3] 26) := by
  have C := Lib.hid hn
  clear hn
  unfold No at C
  go_enter Try.func16, Try.ntmps16
  go_wp2_with (go_at_call 30; (with_reducible refine Calls.mono C.out ?_); rintro e w' ⟨rfl, rfl⟩)
  refine bodyPost_ret (results_none rfl _ _ _) rfl ?_
  exact ⟨⟨_, rfl⟩, rfl⟩
/-- What is read of a file. -/
def readP (down : Bool) (f : Int) (b : Nat → List UInt8) : List UInt8 × Int := if mayP down f = 0 then (b f.toNat, 0) else ([], mayP down f)
theorem read_any (f : Int) (n₀ D : Nat) (v : Nat → Value) (st : St) (w : World) (h : At w n₀ D v st) :
    Calls Try.prog 21 #[.pointer (some ⟨D, 0, none⟩), .int .i64 f] w fun e w' => ∃ x, e = .returned (.tuple #[x, .int .i64 (readP st.down f st.b).2]) ∧ OwnB w' w.heap.size x (readP st.down f st.b).1 ∧ Below w.heap.size w w' := by
  have hc := (show w.cell? ⟨D, 0, none⟩ = some (.bool true) from h.blk.cell 0)
  have hd := (show w.cell? ⟨D, 10, none⟩ = some (.bool st.down) from h.blk.cell 10)
  have C := Lib.hid (may_any D st.down f w hc hd)
  by_cases hm : mayP st.down f = 0
  · have hr : readP st.down f st.b = (st.b f.toNat, 0) := by unfold readP; rw [if_pos hm]
    rw [hr]
    rw [hm] at C
    have hf : 0 ≤ f ∧ f < 4 := by
      unfold mayP at hm
      split at hm
      · omega
      · split at hm
        · omega
        · omega
    obtain ⟨g, rfl⟩ := Int.eq_ofNat_of_zero_le hf.1
    have hg : g < 4 := by omega
    rw [Int.toNat_natCast]
    obtain ⟨A, c, hv, hH, hlc, hA⟩ := (h.own g hg).read
    have hcell := (h.blk.cell (1 + g * 2)).trans (cells_at _ _ _ _ _ hg).1
    rw [hv] at hcell
    have CC := Lib.hid (clone_any A c (st.b g) (by have := h.ok.size g hg; omega) w hH (fun e => ⟨hA e, by have := hA e; exact List.eq_nil_of_length_eq_zero (by omega)⟩))
    generalize (st.b g).length = n at *
    have hi : decide ((g : Int) < 4) = true := decide_eq_true (by omega)
    have hi2 : decide (0 ≤ (g : Int)) = true := decide_eq_true (by omega)
    clear hm hf hlc hH hA hv h hc hd hr
    go_enter Try.func21, Try.ntmps21
    go_wp2_with (first | (go_at_call 33; (with_reducible refine Calls.mono C.out ?_); rintro e w' ⟨rfl, rfl⟩) | (go_at_call 32; (with_reducible refine Calls.mono CC.out ?_); rintro e w' ⟨x, rfl, ho, hb⟩; have HO := Lib.hid (And.intro ho hb); clear ho hb))
    go_ret2
    exact ⟨_, rfl, HO.out.1, HO.out.2⟩
  · have hr : readP st.down f st.b = ([], mayP st.down f) := by unfold readP; rw [if_neg hm]
    rw [hr]
    generalize mayP st.down f = m at *
    have hb : (m == 0) = false := beq_eq_false_iff_ne.mpr hm
    clear hc hd hr h
    go_enter Try.func21, Try.ntmps21
    go_wp2_with (go_at_call 33; (with_reducible refine Calls.mono C.out ?_); rintro e w' ⟨rfl, rfl⟩)
    go_ret2
    exact ⟨_, rfl, OwnB.nil _ _, Below.refl _ _⟩
end Go.Proofs.Ytlecgedmdaenaaa.Disk
