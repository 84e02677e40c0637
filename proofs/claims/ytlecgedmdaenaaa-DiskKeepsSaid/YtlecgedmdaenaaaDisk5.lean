/- Walks of a disk's New, Append, Sync, Reset, Read, Safe, Fall, Arm. -/
import Derived.Test.YtlecgedmdaenaaaDisk4
namespace Go.Proofs.Ytlecgedmdaenaaa.Disk
open Go.RowKit Go.Proofs.Ytlecgedmdaenaaa.K

theorem upd_ok {α : Type} {P : Nat → α → Prop} {g : Nat → α} {f : Nat} {x : α} (h : ∀ i, i < 4 → i ≠ f → P i (g i)) (hx : P f x) : ∀ i, i < 4 → P i (upd g f x i) := fun i hi => by
  by_cases e : i = f
  · subst e; rw [upd_same]; exact hx
  · rw [upd_other _ _ e]; exact h i hi e
theorem doP_ok {what f : Nat} {bs : List UInt8} {st : St} (ok : st.Ok) (hl : what = 0 → (st.b f).length + bs.length ≤ 1048576) (hf : f < 4) : (doP what f bs st).Ok := by
  unfold doP
  split
  · rename_i h0
    refine ⟨fun i hi => ?_, fun i hi => ?_, ok.left⟩
    · dsimp only
      by_cases e : i = f
      · subst e; rw [upd_same, List.length_append]; have := ok.safe i hi; omega
      · rw [upd_other _ _ e]; exact ok.safe i hi
    · dsimp only
      by_cases e : i = f
      · subst e; rw [upd_same, List.length_append]; exact hl h0
      · rw [upd_other _ _ e]; exact ok.size i hi
  · split
    · refine ⟨fun i hi => ?_, ok.size, ok.left⟩
      dsimp only
      by_cases e : i = f
      · subst e; rw [upd_same]; exact Nat.le_refl _
      · rw [upd_other _ _ e]; exact ok.safe i hi
    · refine ⟨fun i hi => ?_, fun i hi => ?_, ok.left⟩
      · dsimp only
        by_cases e : i = f
        · subst e; rw [upd_same]; omega
        · rw [upd_other _ _ e, upd_other _ _ e]; exact ok.safe i hi
      · dsimp only
        by_cases e : i = f
        · subst e; rw [upd_same]; simp
        · rw [upd_other _ _ e]; exact ok.size i hi
theorem callP_ok {what : Nat} {f : Int} {bs : List UInt8} {st : St} (ok : st.Ok) : (callP what f bs st).2.Ok := by
  unfold callP
  split
  · exact ok
  · rename_i h1
    split
    · exact ok
    · rename_i h2
      have hok : ∀ l d, -1 ≤ l → l ≤ 9223372036854775807 → St.Ok { st with left := l, down := d } := fun l d h h' => ⟨ok.safe, ok.size, ⟨h, h'⟩⟩
      have hl := ok.left
      split
      · dsimp only
        split
        · exact doP_ok (hok _ _ (by omega) (by omega)) (fun _ => by show (st.b f.toNat).length + _ ≤ _; omega) (by omega)
        · exact hok _ _ (by omega) (by omega)
      · exact doP_ok (hok _ _ (by split <;> omega) (by split <;> omega)) (fun _ => by show (st.b f.toNat).length + _ ≤ _; omega) (by omega)
/-- A disk's call, whatever it is. -/
theorem call_any (what : Nat) (hw : what < 3) (f : Int) (bs : List UInt8) (A : Option Addr) (c n₀ D : Nat) (v : Nat → Value) (st : St) (w : World) (hn : n₀ ≤ w.heap.size) (h : At w n₀ D v st) (hb : bs.length ≤ 2000000)
    (hH : HoldsB w A bs) (hA : A = none → c = 0) (hbD : ∀ b off, A = some ⟨b, off, none⟩ → bs ≠ [] → b ≠ D) :
    Calls Try.prog 29 #[.pointer (some ⟨D, 0, none⟩), .int .i64 what, .int .i64 f, .slice A bs.length c] w (Ends w n₀ D v (callP what f bs st)) := by
  by_cases hno : st.down = true ∨ f < 0 ∨ 4 ≤ f
  · have hr : callP what f bs st = (mayP st.down f, st) := by unfold callP; rw [if_pos hno]
    rw [hr]
    exact call_no what f bs.length A c n₀ D v st w h.to0 hno
  · obtain ⟨g, rfl⟩ := Int.eq_ofNat_of_zero_le (show 0 ≤ f by omega)
    exact call_yes what hw g (by omega) bs A c n₀ D v st w hn h.to0 h.ok hb hH hA hbD (by cases hd : st.down <;> simp_all)
theorem append_any (f : Int) (bs : List UInt8) (A : Option Addr) (c n₀ D : Nat) (v : Nat → Value) (st : St) (w : World) (hn : n₀ ≤ w.heap.size) (h : At w n₀ D v st) (hb : bs.length ≤ 2000000)
    (hH : HoldsB w A bs) (hA : A = none → c = 0) (hbD : ∀ b off, A = some ⟨b, off, none⟩ → bs ≠ [] → b ≠ D) :
    Calls Try.prog 10 #[.pointer (some ⟨D, 0, none⟩), .int .i64 f, .slice A bs.length c] w (Ends w n₀ D v (callP 0 f bs st)) := by
  have C := Lib.hid (call_any 0 (by omega) f bs A c n₀ D v st w hn h hb hH hA hbD)
  generalize callP 0 f bs st = r at *
  generalize bs.length = k at *
  clear h hH hA hbD hb hn
  go_enter Try.func10, Try.ntmps10
  go_wp2_with (go_at_call 29; (with_reducible refine Calls.mono C.out ?_); rintro e w' ⟨rfl, hh⟩; have HH := Lib.hid hh; clear hh)
  go_ret
  exact ⟨rfl, HH.out⟩
theorem sync_any (f : Int) (n₀ D : Nat) (v : Nat → Value) (st : St) (w : World) (hn : n₀ ≤ w.heap.size) (h : At w n₀ D v st) :
    Calls Try.prog 12 #[.pointer (some ⟨D, 0, none⟩), .int .i64 f] w (Ends w n₀ D v (callP 1 f [] st)) := by
  have C := Lib.hid (call_any 1 (by omega) f [] none 0 n₀ D v st w hn h (by simp) (.inl rfl) (fun _ => rfl) (fun _ _ h => by cases h))
  generalize callP 1 f [] st = r at *
  simp only [List.length_nil] at C
  clear h hn
  go_enter Try.func12, Try.ntmps12
  go_wp2_with (go_at_call 29; (with_reducible refine Calls.mono C.out ?_); rintro e w' ⟨rfl, hh⟩; have HH := Lib.hid hh; clear hh)
  go_ret
  exact ⟨rfl, HH.out⟩
theorem reset_any (f : Int) (n₀ D : Nat) (v : Nat → Value) (st : St) (w : World) (hn : n₀ ≤ w.heap.size) (h : At w n₀ D v st) :
    Calls Try.prog 14 #[.pointer (some ⟨D, 0, none⟩), .int .i64 f] w (Ends w n₀ D v (callP 2 f [] st)) := by
  have C := Lib.hid (call_any 2 (by omega) f [] none 0 n₀ D v st w hn h (by simp) (.inl rfl) (fun _ => rfl) (fun _ _ h => by cases h))
  generalize callP 2 f [] st = r at *
  simp only [List.length_nil] at C
  clear h hn
  go_enter Try.func14, Try.ntmps14
  go_wp2_with (go_at_call 29; (with_reducible refine Calls.mono C.out ?_); rintro e w' ⟨rfl, hh⟩; have HH := Lib.hid hh; clear hh)
  go_ret
  exact ⟨rfl, HH.out⟩
def initS : St := ⟨fun _ => [], fun _ => 0, -1, false⟩
theorem new_any (w : World) : Calls Try.prog 7 #[] w fun e w' => e = .returned (.pointer (some ⟨w.heap.size, 0, none⟩)) ∧ At w' w.heap.size w.heap.size (fun _ => .slice none 0 0) initS ∧ Below w.heap.size w w' ∧ w'.heap.size = w.heap.size + 1 := by
  go_enter Try.func7, Try.ntmps7
  go_wp2
  go_ret
  refine ⟨rfl, ⟨Blk.new w _ _, fun i _ => OwnB.nil _ _, fun _ _ _ _ _ => .inl rfl, ⟨fun _ _ => Nat.le_refl _, fun _ _ => by simp [initS], by simp [initS]⟩, Nat.le_refl _⟩, (Below.refl _ _).alloc (Nat.le_refl _) _, by simp⟩
end Go.Proofs.Ytlecgedmdaenaaa.Disk
