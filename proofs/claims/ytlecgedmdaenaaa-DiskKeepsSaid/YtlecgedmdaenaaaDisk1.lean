/- Walks of a disk's own small functions, of a disk that was made and of one that nobody made. -/
import Derived.Test.YtlecgedmdaenaaaFile
namespace Go.Proofs.Ytlecgedmdaenaaa.Disk
open Go.RowKit Go.Proofs.Ytlecgedmdaenaaa.K

/-- A disk's state: its files' bytes, how many are safe, calls left, is it down. -/
structure St where
  b : Nat → List UInt8
  s : Nat → Nat
  left : Int
  down : Bool
/-- A disk's cells: made or not, four files, left, down. -/
def cells (m : Bool) (v : Nat → Value) (s : Nat → Nat) (left : Int) (down : Bool) : Array Value :=
  #[.bool m, v 0, .int .i64 (s 0), v 1, .int .i64 (s 1), v 2, .int .i64 (s 2), v 3, .int .i64 (s 3), .int .i64 left, .bool down]
structure St.Ok (st : St) : Prop where
  safe : ∀ i, i < 4 → st.s i ≤ (st.b i).length
  size : ∀ i, i < 4 → (st.b i).length ≤ 1048576
  left : -1 ≤ st.left ∧ st.left ≤ 9223372036854775807
/-- The disk at D, made by the call (blocks from n₀ on), holds the state st. -/
structure At (w : World) (n₀ D : Nat) (v : Nat → Value) (st : St) : Prop where
  blk : Blk w D (cells true v st.s st.left st.down) 52
  own : ∀ i, i < 4 → OwnB w n₀ (v i) (st.b i)
  apart : ∀ i j, i < 4 → j < 4 → i ≠ j → (v i).ownBlock = none ∨ (v i).ownBlock ≠ (v j).ownBlock
  ok : st.Ok
  low : n₀ ≤ D
theorem At.notD {w : World} {n₀ D : Nat} {v : Nat → Value} {st : St} (h : At w n₀ D v st) {i : Nat} (hi : i < 4) : (v i).ownBlock ≠ some D := fun e => by
  rcases (h.own i hi).2 with ⟨h1, _⟩ | ⟨g, cap, cur, h1, _, hg, _⟩
  · rw [h1] at e; cases e
  · rw [h1] at e
    obtain rfl : g = D := by simpa [Value.ownBlock] using e
    have hb := h.blk
    unfold Blk at hb
    rw [hb] at hg
    injection hg with hg
    injection hg with _ ht _
    exact absurd ht (by decide)

theorem none_nil (w : World) : Calls Try.prog 30 #[.pointer none] w fun e w' => e = .returned (.bool true) ∧ w = w' := by
  go_enter Try.func30, Try.ntmps30
  go_wp2
  go_ret
  exact ⟨rfl, rfl⟩
theorem none_any (D : Nat) (m : Bool) (w : World) (hc : w.cell? ⟨D, 0, none⟩ = some (.bool m)) :
    Calls Try.prog 30 #[.pointer (some ⟨D, 0, none⟩)] w fun e w' => e = .returned (.bool (!m)) ∧ w = w' := by
  cases m
  all_goals
    go_enter Try.func30, Try.ntmps30
    go_wp2
    go_ret
    exact ⟨rfl, rfl⟩
/-- What is wrong with a call. -/
def mayP (down : Bool) (f : Int) : Int := if down then 17 else if f < 0 ∨ 4 ≤ f then 13 else 0
theorem may_any (D : Nat) (down : Bool) (f : Int) (w : World) (hc : w.cell? ⟨D, 0, none⟩ = some (.bool true)) (hd : w.cell? ⟨D, 10, none⟩ = some (.bool down)) :
    Calls Try.prog 33 #[.pointer (some ⟨D, 0, none⟩), .int .i64 f] w fun e w' => e = .returned (.int .i64 (mayP down f)) ∧ w = w' := by
  have C := Lib.hid (none_any D true w hc)
  cases down with
  | true =>
    go_enter Try.func33, Try.ntmps33
    go_wp2_with (go_at_call 30; (with_reducible refine Calls.mono C.out ?_); rintro e w' ⟨rfl, rfl⟩)
    go_ret
    exact ⟨rfl, rfl⟩
  | false =>
    by_cases h1 : f < 0
    · have e : mayP false f = 13 := by unfold mayP; rw [if_neg (by simp), if_pos (.inl h1)]
      rw [e]
      have d1 : decide (f < 0) = true := decide_eq_true h1
      go_enter Try.func33, Try.ntmps33
      go_wp2_with (go_at_call 30; (with_reducible refine Calls.mono C.out ?_); rintro e w' ⟨rfl, rfl⟩)
      go_ret
      exact ⟨rfl, rfl⟩
    · by_cases h2 : 4 ≤ f
      · have e : mayP false f = 13 := by unfold mayP; rw [if_neg (by simp), if_pos (.inr h2)]
        rw [e]
        have d1 : decide (f < 0) = false := decide_eq_false h1
        have d2 : decide (4 ≤ f) = true := decide_eq_true h2
        go_enter Try.func33, Try.ntmps33
        go_wp2_with (go_at_call 30; (with_reducible refine Calls.mono C.out ?_); rintro e w' ⟨rfl, rfl⟩)
        go_ret
        exact ⟨rfl, rfl⟩
      · have e : mayP false f = 0 := by unfold mayP; rw [if_neg (by simp), if_neg (by omega)]
        rw [e]
        have d1 : decide (f < 0) = false := decide_eq_false h1
        have d2 : decide (4 ≤ f) = false := decide_eq_false h2
        go_enter Try.func33, Try.ntmps33
        go_wp2_with (go_at_call 30; (with_reducible refine Calls.mono C.out ?_); rintro e w' ⟨rfl, rfl⟩)
        go_ret
        exact ⟨rfl, rfl⟩
theorem may_no (p : Value) (f : Int) (w : World) (hn : Calls Try.prog 30 #[p] w fun e w' => e = .returned (.bool true) ∧ w = w') :
    Calls Try.prog 33 #[p, .int .i64 f] w fun e w' => e = .returned (.int .i64 1) ∧ w = w' := by
  have C := Lib.hid hn
  clear hn
  go_enter Try.func33, Try.ntmps33
  go_wp2_with (go_at_call 30; (with_reducible refine Calls.mono C.out ?_); rintro e w' ⟨rfl, rfl⟩)
  go_ret
  exact ⟨rfl, rfl⟩
theorem down_no (p : Value) (w : World) (hn : Calls Try.prog 30 #[p] w fun e w' => e = .returned (.bool true) ∧ w = w') :
    Calls Try.prog 23 #[p] w fun e w' => e = .returned (.bool false) ∧ w = w' := by
  have C := Lib.hid hn
  clear hn
  go_enter Try.func23, Try.ntmps23
  go_wp2_with (go_at_call 30; (with_reducible refine Calls.mono C.out ?_); rintro e w' ⟨rfl, rfl⟩)
  go_ret
  exact ⟨rfl, rfl⟩
theorem down_any (D : Nat) (down : Bool) (w : World) (hc : w.cell? ⟨D, 0, none⟩ = some (.bool true)) (hd : w.cell? ⟨D, 10, none⟩ = some (.bool down)) :
    Calls Try.prog 23 #[.pointer (some ⟨D, 0, none⟩)] w fun e w' => e = .returned (.bool down) ∧ w = w' := by
  have C := Lib.hid (none_any D true w hc)
  go_enter Try.func23, Try.ntmps23
  go_wp2_with (go_at_call 30; (with_reducible refine Calls.mono C.out ?_); rintro e w' ⟨rfl, rfl⟩)
  go_ret
  exact ⟨rfl, rfl⟩
theorem arm_no (p : Value) (n : Int) (w : World) (hn : Calls Try.prog 30 #[p] w fun e w' => e = .returned (.bool true) ∧ w = w') :
    Calls Try.prog 15 #[p, .int .i64 n] w fun e w' => (∃ r, e = .returned r) ∧ w = w' := by
  have C := Lib.hid hn
  clear hn
  go_enter Try.func15, Try.ntmps15
  go_wp2_with (go_at_call 30; (with_reducible refine Calls.mono C.out ?_); rintro e w' ⟨rfl, rfl⟩)
  go_end0
  exact ⟨⟨_, rfl⟩, rfl⟩
theorem arm_any (D : Nat) (n : Int) (l : Value) (w : World) (hc : w.cell? ⟨D, 0, none⟩ = some (.bool true)) (hl : w.cell? ⟨D, 9, none⟩ = some l) (hf : w.frozen? ⟨D, 9, none⟩ = false) :
    Calls Try.prog 15 #[.pointer (some ⟨D, 0, none⟩), .int .i64 n] w fun e w' => (∃ r, e = .returned r) ∧ w' = w.setCell ⟨D, 9, none⟩ (.int .i64 (if -1 < n then n else -1)) := by
  have C := Lib.hid (none_any D true w hc)
  by_cases h : -1 < n
  · rw [if_pos h]
    have d1 : decide (-1 < n) = true := decide_eq_true h
    go_enter Try.func15, Try.ntmps15
    go_wp2_with (go_at_call 30; (with_reducible refine Calls.mono C.out ?_); rintro e w' ⟨rfl, rfl⟩)
    go_end0
    exact ⟨⟨_, rfl⟩, rfl⟩
  · rw [if_neg h]
    by_cases h2 : n = -1
    · subst h2
      go_enter Try.func15, Try.ntmps15
      go_wp2_with (go_at_call 30; (with_reducible refine Calls.mono C.out ?_); rintro e w' ⟨rfl, rfl⟩)
      go_end0
      exact ⟨⟨_, rfl⟩, rfl⟩
    · have d1 : decide (n < -1) = true := decide_eq_true (by omega)
      have d2 : n < -1 := by omega
      go_enter Try.func15, Try.ntmps15
      go_wp2_with (go_at_call 30; (with_reducible refine Calls.mono C.out ?_); rintro e w' ⟨rfl, rfl⟩)
      go_end0
      exact ⟨⟨_, rfl⟩, rfl⟩
theorem count_zero (D : Nat) (d : Value) (w : World) (hl : w.cell? ⟨D, 9, none⟩ = some (.int .i64 0)) (hd : w.cell? ⟨D, 10, none⟩ = some d) (hf : w.frozen? ⟨D, 9, none⟩ = false) (hf2 : w.frozen? ⟨D, 10, none⟩ = false) :
    Calls Try.prog 39 #[.pointer (some ⟨D, 0, none⟩)] w fun e w' => e = .returned (.int .i64 17) ∧ w' = (w.setCell ⟨D, 9, none⟩ (.int .i64 (-1))).setCell ⟨D, 10, none⟩ (.bool true) := by
  go_enter Try.func39, Try.ntmps39
  go_wp2
  go_ret
  exact ⟨rfl, rfl⟩
theorem count_some (D : Nat) (l : Int) (w : World) (h0 : l ≠ 0) (h1 : -1 ≤ l) (h2 : l ≤ 9223372036854775807) (hl : w.cell? ⟨D, 9, none⟩ = some (.int .i64 l)) (hf : w.frozen? ⟨D, 9, none⟩ = false) :
    Calls Try.prog 39 #[.pointer (some ⟨D, 0, none⟩)] w fun e w' => e = .returned (.int .i64 0) ∧ w' = if 0 < l then w.setCell ⟨D, 9, none⟩ (.int .i64 (l - 1)) else w := by
  have b0 : (l == 0) = false := beq_eq_false_iff_ne.mpr h0
  by_cases h : 0 < l
  · rw [if_pos h]
    have d1 : decide (0 < l) = true := decide_eq_true h
    go_enter Try.func39, Try.ntmps39
    go_wp2
    go_ret
    exact ⟨rfl, rfl⟩
  · rw [if_neg h]
    have d1 : decide (0 < l) = false := decide_eq_false h
    go_enter Try.func39, Try.ntmps39
    go_wp2
    go_ret
    exact ⟨rfl, rfl⟩
end Go.Proofs.Ytlecgedmdaenaaa.Disk
