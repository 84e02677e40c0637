/- Bytes as a string, and the walk of the play that each law of disks asks at its end. -/
import Derived.Test.YtlecgedmdaenaaaDisk7
import Derived.Laws.BytesArg
import Derived.Laws.IdiomStrings
import Derived.Lib.SlBytesConst
namespace Go.Proofs.Ytlecgedmdaenaaa.Disk
open Go.RowKit Go.Proofs.Ytlecgedmdaenaaa.K

def str (l : List UInt8) : ByteArray := ⟨l.toArray⟩
theorem str_list (l : List UInt8) : (str l).toList = l := by rw [ByteArray.toList_eq]; rfl
theorem str_of (w : World) (A : Option Addr) (l : List UInt8) (cap : Nat) (h : HoldsB w A l) (hA : A = none → l = []) : (convert 30 9 (.slice A l.length cap)).run Try.prog w = .ok (.string (str l)) w := by
  cases A with
  | none =>
    obtain rfl := hA rfl
    exact run_convert_bytes_nil (P := Try.prog) (w := w) 30 5 Try.underlying30 Try.underlying5 0 cap 9 Try.underlying9
  | some a =>
    refine run_convert_bytes_back w 30 9 5 a cap l Try.underlying30 Try.underlying5 Try.underlying9 fun j hj => ?_
    rcases h with h | ⟨b, off, he, _, hc⟩
    · subst h; cases hj
    · cases he
      have := hc j hj
      rw [show Addr.add ⟨b, off, none⟩ j = ⟨b, off + j, none⟩ by unfold Addr.add; split <;> simp_all]
      exact this
def K1 : Nat → Int := fun i => if i = 1 then 1 else 0
def st1 : St := (callP 0 1 [120, 121, 122] initS).2
def st2 : St := fallP K1 st1
theorem st1_ok : st1.Ok := callP_ok ⟨fun _ _ => Nat.le_refl _, fun _ _ => by simp [initS], by simp [initS]⟩
theorem fallN_ok {K : Nat → Int} {st : St} (ok : st.Ok) : ∀ n, n ≤ 4 → (fallN K n st).Ok
  | 0, _ => ok
  | n + 1, h => fallStep_ok (fallN_ok ok n (by omega)) (by omega)
theorem fallP_ok {K : Nat → Int} {st : St} (ok : st.Ok) : (fallP K st).Ok :=
  ⟨(fallN_ok ok 4 (Nat.le_refl _)).safe, (fallN_ok ok 4 (Nat.le_refl _)).size, by simp [fallP]⟩
set_option maxHeartbeats 2000000 in
theorem one_any (w : World) : Calls Try.prog 19 #[] w fun e w' => e = .returned (.bool true) ∧ Below w.heap.size w w' := by
  have C7 := Lib.hid (new_any w)
  have kc := fun (w : World) (C : Array Value) (n c : Nat) => Lib.run_convert_bytes_const (P := Try.prog) w 30 5 C n c Try.underlying30 Try.underlying5
  have C10 := Lib.hid (fun w1 (h : At w1 w.heap.size w.heap.size (fun _ => .slice none 0 0) initS ∧ Below w.heap.size w w1 ∧ w1.heap.size = w.heap.size + 1) => show Calls Try.prog 10 #[.pointer (some ⟨w.heap.size, 0, none⟩), .int .i64 1, .slice (some ⟨w1.heap.size, 0, none⟩) 3 3] (w1.alloc (.cells #[.int .u8 120, .int .u8 121, .int .u8 122] 5 (3, 4))) (fun e w2 => e = .returned (.int .i64 0) ∧ ∃ v', At w2 w.heap.size w.heap.size v' st1 ∧ Below w.heap.size w w2) from by
    obtain ⟨h1, h2, h3⟩ := h
    have hbl : Below w1.heap.size w1 (w1.alloc (.cells #[.int .u8 120, .int .u8 121, .int .u8 122] 5 (3, 4))) := (Below.refl _ _).alloc (Nat.le_refl _) _
    refine (append_any 1 [120, 121, 122] (some ⟨w1.heap.size, 0, none⟩) 3 w.heap.size w.heap.size (fun _ => .slice none 0 0) initS _ (by simp; omega) ((h1.to0.later hbl).to h1.ok) (by simp) ?_ (fun h => by cases h) (fun b off he _ => by cases he; omega)).mono ?_
    · refine .inr ⟨w1.heap.size, 0, rfl, by simp, fun i hi => ?_⟩
      rw [Nat.zero_add, World.cell?_alloc_mark]
      match i, hi with
      | 0, _ => rfl
      | 1, _ => rfl
      | 2, _ => rfl
    · rintro e w2 ⟨rfl, v', ha, ht⟩
      exact ⟨rfl, v', ha.to st1_ok, (h2.trans (hbl.mono (by omega))).trans ht.below⟩)
  have C16 := Lib.hid (fun w2 v' (h : At w2 w.heap.size w.heap.size v' st1 ∧ Below w.heap.size w w2) => show Calls Try.prog 16 #[.pointer (some ⟨w.heap.size, 0, none⟩), .agg #[.int .i64 0, .int .i64 1, .int .i64 0, .int .i64 0]] w2 (fun e w3 => (∃ r, e = .returned r) ∧ ∃ v', At w3 w.heap.size w.heap.size v' st2 ∧ Below w.heap.size w w3) from by
    refine (fall_any K1 w.heap.size w.heap.size v' st1 w2 h.2.size h.1 (fun i => by unfold K1; split <;> omega)).mono ?_
    rintro e w3 ⟨hr, v2, ha, ht⟩
    exact ⟨hr, v2, ha.to (fallP_ok st1_ok), h.2.trans ht.below⟩)
  have C21 := Lib.hid (fun w3 v' (h : At w3 w.heap.size w.heap.size v' st2 ∧ Below w.heap.size w w3) => show Calls Try.prog 21 #[.pointer (some ⟨w.heap.size, 0, none⟩), .int .i64 1] w3 (fun e w4 => ∃ A c, e = .returned (.tuple #[.slice A 1 c, .int .i64 0]) ∧ (convert 30 9 (.slice A 1 c)).run Try.prog w4 = .ok (.string (str [120])) w4 ∧ Below w.heap.size w w4) from by
    refine (read_any 1 w.heap.size w.heap.size v' st2 w3 h.1).mono ?_
    rintro e w4 ⟨x, rfl, ho, hb⟩
    have ho : OwnB w4 w3.heap.size x [120] := ho
    obtain ⟨A, c, rfl, hH, hc, hA⟩ := ho.read
    exact ⟨A, c, rfl, str_of w4 A [120] c hH (fun e => by have := hA e; simp at hc; omega), h.2.trans (hb.mono h.2.size)⟩)
  have hx : ((str [120]).toList == [120]) = true := by rw [str_list]; rfl
  go_enter Try.func19, Try.ntmps19
  go_wp2_with (first | (go_at_call 7; (with_reducible refine Calls.mono C7.out ?_); rintro e w1 ⟨rfl, h1⟩; have H1 := Lib.hid h1; clear h1) | (go_at_call 10; (with_reducible refine Calls.mono (C10.out _ H1.out) ?_); rintro e w2 ⟨rfl, v2, h2⟩; have H2 := Lib.hid h2; clear h2) | (go_at_call 16; (with_reducible refine Calls.mono (C16.out _ _ H2.out) ?_); rintro e w3 ⟨⟨r, rfl⟩, v3, h3⟩; have H3 := Lib.hid h3; clear h3) | (go_at_call 21; (with_reducible refine Calls.mono (C21.out _ _ H3.out) ?_); rintro e w4 ⟨A, c, rfl, hconv, h4⟩; have H4 := Lib.hid h4; clear h4))
  go_ret
  exact ⟨rfl, H4.out⟩
end Go.Proofs.Ytlecgedmdaenaaa.Disk
