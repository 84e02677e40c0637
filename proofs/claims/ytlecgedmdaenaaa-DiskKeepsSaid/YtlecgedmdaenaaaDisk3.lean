/- Walks of a disk's calls to a file: does, call, Append, Sync, Reset. -/
import Derived.Test.YtlecgedmdaenaaaDisk2
namespace Go.Proofs.Ytlecgedmdaenaaa.Disk
open Go.RowKit Go.Proofs.Ytlecgedmdaenaaa.K

/-- What is done to a file: 0 bytes are laid behind, 1 all is safe, 2 it is empty. -/
def doP (what : Nat) (f : Nat) (bs : List UInt8) (st : St) : St :=
  if what = 0 then { st with b := upd st.b f (st.b f ++ bs) }
  else if what = 1 then { st with s := upd st.s f (st.b f).length }
  else { st with b := upd st.b f [], s := upd st.s f 0 }
def callP (what : Nat) (f : Int) (bs : List UInt8) (st : St) : Int × St :=
  if st.down = true ∨ f < 0 ∨ 4 ≤ f then (mayP st.down f, st)
  else if 1048576 - ((st.b f.toNat).length : Int) < bs.length then (15, st)
  else if st.left = 0 then (17, if what = 0 then doP 0 f.toNat bs { st with left := -1, down := true } else { st with left := -1, down := true })
  else (0, doP what f.toNat bs { st with left := if 0 < st.left then st.left - 1 else st.left })

theorem does_any (what : Nat) (hw : what < 3) (f : Nat) (hf : f < 4) (bs : List UInt8) (A : Option Addr) (c n₀ D : Nat) (v : Nat → Value) (st : St) (w : World) (hn : n₀ ≤ w.heap.size) (h : At0 w n₀ D v st) (hl : (st.b f).length ≤ 2000000) (hb : bs.length ≤ 2000000)
    (hH : HoldsB w A bs) (hA : A = none → c = 0) :
    Calls Try.prog 40 #[.pointer (some ⟨D, 1 + f * 2, none⟩), .int .i64 what, .slice A bs.length c] w fun e w' => (∃ r, e = .returned r) ∧ ∃ v', At0 w' n₀ D v' (doP what f bs st) ∧ Turn w n₀ D v w' v' := by
  obtain ⟨c1, c2⟩ := cells_at true v st.s st.left st.down hf
  rw [← h.blk.cell] at c1 c2
  have f1 := h.blk.frozen (1 + f * 2)
  have f2 := h.blk.frozen (1 + f * 2 + 1)
  have HA0 := Lib.hid h
  have hD := h.notD hf
  have ho := h.own f hf
  have C43 := Lib.hid (lay_any D (1 + f * 2) (v f) (st.b f) bs A c n₀ w (by omega) (by omega) hn c1 f1 ho hD hH hA)
  have C31 := Lib.hid (keep_any D (1 + f * 2) (v f) (st.b f) A bs.length c n₀ _ w c1 c2 f2 ho)
  have C44 := Lib.hid (clear_any D (1 + f * 2) (v f) _ A bs.length c w c1 c2 f1 f2)
  clear h c1 c2 f1 f2 hD ho hH hA
  obtain ⟨o, ho⟩ : ∃ o, 1 + f * 2 = o := ⟨_, rfl⟩
  obtain ⟨m, hm⟩ : ∃ m, bs.length = m := ⟨_, rfl⟩
  rw [ho, hm] at C43 C31 C44
  rw [ho, hm]
  rw [hm] at hb
  have HO := Lib.hid ho
  clear ho hm
  match what, hw with
  | 0, _ =>
    go_enter Try.func40, Try.ntmps40
    go_wp2_with (go_at_call 43; (with_reducible refine Calls.mono C43.out ?_); rintro e w' ⟨⟨r, rfl⟩, hh⟩; have HH := Lib.hid hh; clear hh)
    go_end0
    obtain ⟨v', w1, h1, h2, h3, rfl⟩ := HH.out
    have := HA0.out.setV hf hn h1 h2 h3
    rw [HO.out] at this
    exact ⟨⟨_, rfl⟩, _, this.1, this.2⟩
  | 1, _ =>
    go_enter Try.func40, Try.ntmps40
    go_wp2_with (go_at_call 31; (with_reducible refine Calls.mono C31.out ?_); rintro e w' ⟨⟨r, rfl⟩, hh⟩; have HH := Lib.hid hh; clear hh)
    go_end0
    have h1 := HA0.out.setS hf (st.b f).length
    have h2 := HA0.out.turnD (1 + f * 2 + 1) (.int .i64 ((st.b f).length : Int))
    rw [HO.out] at h1 h2
    rw [HH.out]
    exact ⟨⟨_, rfl⟩, _, h1, h2⟩
  | 2, _ =>
    go_enter Try.func40, Try.ntmps40
    go_wp2_with (go_at_call 44; (with_reducible refine Calls.mono C44.out ?_); rintro e w' ⟨⟨r, rfl⟩, hh⟩; have HH := Lib.hid hh; clear hh)
    go_end0
    have h1 := HA0.out.setV hf hn (v' := .slice none 0 0) (l := []) (OwnB.nil w n₀) ⟨rfl, rfl, rfl, Nat.le_refl _, fun _ _ _ => rfl⟩ (.inr (fun k hk => by cases hk))
    have h2 := h1.1.setS hf 0
    have h3 := h1.2.trans (h1.1.turnD (1 + f * 2 + 1) (.int .i64 ((0 : Nat) : Int)))
    rw [HO.out] at h2 h3
    rw [HH.out]
    exact ⟨⟨_, rfl⟩, _, h2, h3⟩
end Go.Proofs.Ytlecgedmdaenaaa.Disk
