/- Walks of the two functions that write a number's digits. -/
import Derived.Test.YtlecgedmdaenaaaDoorOf
import Derived.Laws.BytesString
import Derived.Laws.IdiomStrings
import Derived.Laws.Strings
import Derived.Laws.Strings2
import Derived.Laws.Strings3
import Derived.Laws.Concat
import Derived.WalkSpells
namespace Go.Proofs.YtlecgedmdaenaaaDoor.Bits
open Go.RowKit Go.Proofs.YtlecgedmdaenaaaDoor.K

/-- The bytes of a number below 100. -/
def dgl (n : Nat) : List UInt8 := if n < 10 then [UInt8.ofNat (48 + n)] else [UInt8.ofNat (48 + n / 10), UInt8.ofNat (48 + n % 10)]
def dg (n : Nat) : ByteArray := ⟨(dgl n).toArray⟩
theorem conv_one (n : Nat) (h : n < 10) (w : World) : (convert 63 9 (.slice (some ⟨w.heap.size, 0, none⟩) 1 1)).run Tryd.prog (w.alloc (.cells #[.int .u8 (48 + n)] 5)) = .ok (.string (dg n)) (w.alloc (.cells #[.int .u8 (48 + n)] 5)) := by
  have h1 : dgl n = [UInt8.ofNat (48 + n)] := by unfold dgl; rw [if_pos h]
  have h2 := run_convert_bytes_back (P := Tryd.prog) (w.alloc (.cells #[.int .u8 (48 + n)] 5)) 63 9 5 ⟨w.heap.size, 0, none⟩ 1 [UInt8.ofNat (48 + n)] Tryd.underlying63 Tryd.underlying5 Tryd.underlying9
    (fun j hj => by
      match j, hj with
      | 0, _ =>
        have e : ((UInt8.ofNat (48 + n)).toNat : Int) = 48 + (n : Int) := by rw [UInt8.toNat_ofNat_of_lt' (by have : UInt8.size = 256 := rfl; omega)]; omega
        simpa [Addr.add] using e.symm)
  rw [dg, h1]
  exact h2
theorem digits_one (n : Nat) (h : n < 10) (w : World) :
    Calls Tryd.prog 42 #[.int .i64 n] w fun e w' => e = .returned (.string (dg n)) ∧ Below w.heap.size w w' := by
  have b0 : decide ((n : Int) < 10) = true := decide_eq_true (by omega)
  have hc := conv_one n h w
  generalize dg n = d at *
  go_enter Tryd.func42, Tryd.ntmps42
  go_wp2
  go_ret
  exact ⟨rfl, (Below.refl _ _).alloc (Nat.le_refl _) _⟩
theorem digits_any (n : Nat) (h : n < 100) (w : World) :
    Calls Tryd.prog 42 #[.int .i64 n] w fun e w' => e = .returned (.string (dg n)) ∧ Below w.heap.size w w' := by
  by_cases h10 : n < 10
  · exact digits_one n h10 w
  · have b0 : decide ((n : Int) < 10) = false := decide_eq_false (by omega)
    obtain ⟨a, ha⟩ : ∃ a, n / 10 = a := ⟨_, rfl⟩
    obtain ⟨b, hb⟩ : ∃ b, n % 10 = b := ⟨_, rfl⟩
    have e1 : (n : Int) / 10 = (a : Int) := by omega
    have e2 : (n : Int) % 10 = (b : Int) := by omega
    have C1 := Lib.hid (fun W => digits_one a (by omega) W)
    have C2 := Lib.hid (fun W => digits_one b (by omega) W)
    have hs : ∀ W, (Op.stringOp .add (dg a) (dg b)).run Tryd.prog W = .ok (.string (dg n)) W := fun W => by
      have e : dg n = dg a ++ dg b := by
        unfold dg dgl
        rw [if_neg h10, if_pos (by omega), if_pos (by omega), ha, hb, ByteArray.mk_append_mk]
        simp
      rw [run_string_add_sum W _ _ (by simp [dg, dgl, ByteArray.size]; (repeat' split) <;> simp), e]
    generalize dg n = d at *
    generalize dg a = da at *
    generalize dg b = db at *
    clear ha hb h10
    go_enter Tryd.func42, Tryd.ntmps42
    go_wp2_with (first | (go_at_call 42; (with_reducible refine Calls.mono (C1.out _) ?_); rintro e w1 ⟨rfl, hb1⟩; clear C1) | (go_at_call 42; (with_reducible refine Calls.mono (C2.out _) ?_); rintro e w2 ⟨rfl, hb2⟩))
    go_ret
    exact ⟨rfl, hb1.trans (hb2.mono hb1.size)⟩
def tenDigits : ByteArray := { data := #[48, 49, 50, 51, 52, 53, 54, 55, 56, 57] }
theorem ten_at : ∀ n : Fin 10, tenDigits.extract n.val (n.val + 1) = dg n.val := by decide
theorem rdigits_one (n : Nat) (h : n < 10) (w : World) :
    Calls Tryd.prog 43 #[.int .i64 n] w fun e w' => e = .returned (.string (dg n)) ∧ w = w' := by
  have b0 : decide ((n : Int) < 10) = true := decide_eq_true (by omega)
  have e1 : (n : Int) % 10 = (n : Int) := by omega
  have ht := ten_at ⟨n, h⟩
  unfold tenDigits at ht
  generalize dg n = d at *
  go_enter Tryd.func43, Tryd.ntmps43
  go_wp2
  go_ret
  exact ⟨by simp, rfl⟩
theorem rdigits_any (n : Nat) (h : n < 100) (w : World) :
    Calls Tryd.prog 43 #[.int .i64 n] w fun e w' => e = .returned (.string (dg n)) ∧ w = w' := by
  by_cases h10 : n < 10
  · exact rdigits_one n h10 w
  · have b0 : decide ((n : Int) < 10) = false := decide_eq_false (by omega)
    obtain ⟨a, ha⟩ : ∃ a, n / 10 = a := ⟨_, rfl⟩
    obtain ⟨b, hb⟩ : ∃ b, n % 10 = b := ⟨_, rfl⟩
    have e1 : (n : Int) / 10 = (a : Int) := by omega
    have e2 : (n : Int) % 10 = (b : Int) := by omega
    have l1 : (b : Int) ≤ 9 := by omega
    have C1 := Lib.hid (fun W => rdigits_one a (by omega) W)
    have ht : tenDigits.extract b (b + 1) = dg b := ten_at ⟨b, by omega⟩
    unfold tenDigits at ht
    have hs : ∀ W, (Op.stringOp .add (dg a) (dg b)).run Tryd.prog W = .ok (.string (dg n)) W := fun W => by
      have e : dg n = dg a ++ dg b := by
        unfold dg dgl
        rw [if_neg h10, if_pos (by omega), if_pos (by omega), ha, hb, ByteArray.mk_append_mk]
        simp
      rw [run_string_add_sum W _ _ (by simp [dg, dgl, ByteArray.size]; (repeat' split) <;> simp), e]
    generalize dg n = d at *
    generalize dg a = da at *
    generalize dg b = db at *
    clear ha hb h10
    go_enter Tryd.func43, Tryd.ntmps43
    go_wp2_with ((go_at_call 43; (with_reducible refine Calls.mono (C1.out _) ?_); rintro e w1 ⟨rfl, rfl⟩))
    go_ret
    exact ⟨rfl, rfl⟩
end Go.Proofs.YtlecgedmdaenaaaDoor.Bits
