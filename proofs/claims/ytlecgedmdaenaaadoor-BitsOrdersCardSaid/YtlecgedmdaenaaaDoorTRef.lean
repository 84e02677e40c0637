/- The walk of the reference's text of a list of nodes. -/
import Derived.Test.YtlecgedmdaenaaaDoorTPure
import Derived.Test.YtlecgedmdaenaaaDoorListed
import Derived.IntWalk
namespace Go.Proofs.YtlecgedmdaenaaaDoor.Bits
open Go.RowKit Go.Proofs.YtlecgedmdaenaaaDoor.K

def noneB : ByteArray := { data := #[110, 111, 110, 101] }
def textR (L : List Int) : ByteArray := if L = [] then noneB else str (textT L (-1) [])
theorem rtext_nil (A : Option Addr) (cap : Nat) (w : World) :
    Calls Tryd.prog 32 #[.slice A 0 cap] w fun e w' => e = .returned (.string noneB) ∧ Below w.heap.size w w' := by
  unfold noneB
  go_enter Tryd.func32, Tryd.ntmps32
  go_wp2
  go_ret
  exact ⟨rfl, Below.refl _ _⟩

theorem stepA {L : List Int} {i : Nat} {y nx : Int} {o T : List UInt8} (hd : L.drop i = y :: L.drop (i + 1)) (hge : ∀ z ∈ L.drop i, nx ≤ z) (h : textT (L.drop i) nx o = T) (hr : runLen y (L.drop (i + 1)) < 2) :
    (∀ z ∈ L.drop (i + 1), nx ≤ z) ∧ textT (L.drop (i + 1)) nx (comma o ++ dgl y.toNat) = T := by
  rw [hd] at h hge
  have hy := hge y (by simp)
  rw [textT, if_neg (by omega), if_neg (by omega)] at h
  exact ⟨fun z hz => hge z (by simp [hz]), h⟩
theorem stepB {L : List Int} {i r : Nat} {y nx : Int} {o T : List UInt8} (hs : L.Pairwise (· < ·)) (hd : L.drop i = y :: L.drop (i + 1)) (hge : ∀ z ∈ L.drop i, nx ≤ z) (h : textT (L.drop i) nx o = T) (hr : runLen y (L.drop (i + 1)) = r) (h2 : 2 ≤ r) :
    (∀ z ∈ L.drop (i + 1 + r), y + r + 1 ≤ z) ∧ textT (L.drop (i + 1 + r)) (y + r + 1) (comma o ++ dgl y.toNat ++ [45] ++ dgl (y + r).toNat) = T := by
  rw [hd] at h hge
  have hy := hge y (by simp)
  rw [textT, if_neg (by omega), hr, if_pos h2] at h
  have hsk := textT_skip r (L.drop (i + 1)) (y + r + 1) (comma o ++ dgl y.toNat ++ 45 :: dgl (y + r).toNat) (fun j hj => ⟨_, runLen_at y _ j (by omega), by omega⟩)
  rw [hsk, List.drop_drop] at h
  refine ⟨fun z hz => ?_, by rw [← h]; simp⟩
  have hl := runLen_at y (L.drop (i + 1)) (r - 1) (by omega)
  rw [List.getElem?_drop] at hl
  obtain ⟨hlt, he⟩ := List.getElem?_eq_some_iff.1 hl
  have hdr : L.drop (i + 1 + (r - 1)) = L[i + 1 + (r - 1)] :: L.drop (i + 1 + (r - 1) + 1) := List.drop_eq_getElem_cons hlt
  have hp := hs.sublist (List.drop_sublist (i + 1 + (r - 1)) L)
  rw [hdr, List.pairwise_cons] at hp
  have := hp.1 z (by rw [show i + 1 + (r - 1) + 1 = i + 1 + r by omega]; exact hz)
  rw [he] at this
  omega
theorem comma_len (o : List UInt8) : (comma o).length ≤ o.length + 1 := by unfold comma; split <;> simp
theorem empty_of (o : List UInt8) : (str o).toList.isEmpty = o.isEmpty := by rw [str_empty]

set_option maxHeartbeats 8000000 in
theorem rtext_some (A : Option Addr) (cap : Nat) (L : List Int) (hs : L.Pairwise (· < ·)) (hr : ∀ y ∈ L, 0 ≤ y ∧ y < 64) (h0 : 0 < L.length) (h64 : L.length ≤ 64) (w : World) (hH : HoldsI w A L) :
    Calls Tryd.prog 32 #[.slice A L.length cap] w fun e w' => e = .returned (.string (str (textT L (-1) []))) ∧ Below w.heap.size w w' := by
  obtain ⟨T, hT⟩ : ∃ T, textT L (-1) [] = T := ⟨_, rfl⟩
  rw [hT]
  rcases hH with h | ⟨b, off, rfl, hbl, hc⟩
  · rw [h] at h0; simp at h0
  have HC := Lib.hid (fun W (hW : Below w.heap.size w W) i (hi : i < L.length) => (hW.cell (p := ⟨b, off + i, none⟩) hbl).trans (hc i hi))
  have HT := Lib.hid hT
  have HS := Lib.hid hs
  have HR := Lib.hid hr
  obtain ⟨n, hn⟩ : ∃ n, L.length = n := ⟨_, rfl⟩
  have HN := Lib.hid hn
  rw [hn] at h0 h64 ⊢
  have b0 : ((n : Int) == 0) = false := beq_eq_false_iff_ne.mpr (by omega)
  clear hc hT hs hr hn
  have hss : str [] = { data := #[] } := rfl
  go_enter Tryd.func32, Tryd.ntmps32
  go_wp2
  go_loopw [3, 4] (fun s3 s4 wr => ∃ (i : Nat) (o : List UInt8) (nx : Int), i ≤ n ∧ s4 = .int .i64 i ∧ s3 = .string (str o) ∧ Hid (o.length ≤ 6 * i ∧ (∀ y ∈ L.drop i, nx ≤ y) ∧ textT (L.drop i) nx o = T) ∧ Hid (Below w.heap.size w wr)) (fun _ s4 _ => n - (intOf s4).toNat)
  case atStart => exact ⟨0, [], -1, by omega, rfl, rfl, Lib.hid ⟨by simp, fun y hy => by have := HR.out y (List.mem_of_mem_drop hy); omega, HT.out⟩, Lib.hid (Below.refl _ _)⟩
  case round =>
    obtain ⟨i, o, nx, hi, rfl, rfl, HO, HB⟩ := hrel
    by_cases hlt : i < n
    · have hil : i < L.length := by rw [HN.out]; exact hlt
      obtain ⟨y, hy⟩ : ∃ y, L[i] = y := ⟨_, rfl⟩
      have hyr : 0 ≤ y ∧ y < 64 := by rw [← hy]; exact HR.out _ (List.getElem_mem hil)
      have hd : L.drop i = y :: L.drop (i + 1) := by rw [← hy]; exact List.drop_eq_getElem_cons hil
      have hy2 : L[i]? = some y := by rw [List.getElem?_eq_getElem hil, hy]
      have HD := Lib.hid (And.intro hd hy2)
      obtain ⟨wo, rfl⟩ : ∃ wo : World, wo = wr := ⟨_, rfl⟩
      clear hd hy2 hy hil
      go_wp2
      go_loopw [5] (fun s5 wr => ∃ (k : Nat), i ≤ k ∧ k < n ∧ s5 = .int .i64 k ∧ Hid (L[k]? = some (y + ((k : Int) - i)) ∧ (k - i) + runLen (y + ((k : Int) - i)) (L.drop (k + 1)) = runLen y (L.drop (i + 1))) ∧ Hid (Below w.heap.size w wr)) (fun s5 _ => n - (intOf s5).toNat)
      case atStart => exact ⟨i, by omega, hlt, rfl, Lib.hid ⟨by rw [HD.out.2]; simp, by simp⟩, HB⟩
      case round =>
        obtain ⟨k, hik, hkn, rfl, HK, HBk⟩ := hrel
        obtain ⟨x, hx⟩ : ∃ x, y + ((k : Int) - i) = x := ⟨_, rfl⟩
        have hkl : k < L.length := by rw [HN.out]; exact hkn
        have ck := HC.out wr HBk.out k hkl
        have hk1 := HK.out.1
        rw [List.getElem?_eq_getElem hkl, hx] at hk1
        rw [Option.some.inj hk1] at ck
        have hxr : 0 ≤ x ∧ x < 64 := by rw [← Option.some.inj hk1]; exact HR.out _ (List.getElem_mem hkl)
        have hk2 := HK.out.2
        rw [hx] at hk2
        have e1 : IntKind.i64.wrap ((k : Int) + 1) = (k : Int) + 1 := IntWalk.i64_in _ (by omega)
        have e2 : IntKind.i64.wrap (x + 1) = x + 1 := IntWalk.i64_in _ (by omega)
        have e3 : ((k : Int) + 1).toNat = k + 1 := by omega
        have e4 : 0 ≤ (k : Int) + 1 := by omega
        by_cases hlk : k + 1 < n
        · have hkl1 : k + 1 < L.length := by rw [HN.out]; exact hlk
          obtain ⟨z, hz⟩ : ∃ z, L[k + 1] = z := ⟨_, rfl⟩
          have ck1 := HC.out wr HBk.out (k + 1) hkl1
          rw [hz] at ck1
          have hdk : L.drop (k + 1) = z :: L.drop (k + 1 + 1) := by rw [← hz]; exact List.drop_eq_getElem_cons hkl1
          rw [hdk, runLen] at hk2
          have hg1 : decide ((k : Int) + 1 < (n : Int)) = true := decide_eq_true (by omega)
          by_cases hze : z = x + 1
          · have b1 : (z == x + 1) = true := beq_iff_eq.mpr hze
            rw [if_pos hze] at hk2
            have HK2 := Lib.hid (show L[k + 1]? = some (y + (((k + 1 : Nat) : Int) - i)) ∧ (k + 1 - i) + runLen (y + (((k + 1 : Nat) : Int) - i)) (L.drop (k + 1 + 1)) = runLen y (L.drop (i + 1)) from by
              have e : y + (((k + 1 : Nat) : Int) - i) = z := by rw [hze, ← hx]; push_cast; omega
              rw [e, List.getElem?_eq_getElem hkl1, hz]
              exact ⟨rfl, by omega⟩)
            clear hze hk2 hdk hz hkl1 hkl hk1 hx HK
            go_wp2_with fail
            go_quiet (fail)
            go_wp2_with fail
            go_roundw
            case rel => exact ⟨k + 1, by omega, by omega, by go_num, HK2, Lib.hid (below_drewN HBk.out nq)⟩
            case measure => simp [intOf]; omega
          · rw [if_neg hze] at hk2
            have b1 : (z == x + 1) = false := beq_eq_false_iff_ne.mpr hze
            clear hze hdk hz hkl1
            have hrv : k - i = runLen y (L.drop (i + 1)) := by omega
            have hx2 : x = y + ((runLen y (L.drop (i + 1)) : Nat) : Int) := by rw [← hx, ← hrv]; omega
            have hin : i < L.length := by omega
            have ci := HC.out wr HBk.out i hin
            have hyi : L[i] = y := by have := HD.out.2; rw [List.getElem?_eq_getElem hin] at this; exact Option.some.inj this
            rw [hyi] at ci
            have hA := fun h => stepA HD.out.1 HO.out.2.1 HO.out.2.2 h
            have hB := fun h => stepB HS.out HD.out.1 HO.out.2.1 HO.out.2.2 rfl h
            rw [← hrv] at hA hB hx2
            have hik2 : i + 1 + (k - i) = k + 1 := by omega
            rw [hik2] at hB
            have hcl := comma_len o
            have hol := HO.out.1
            have hdl := dgl_len y.toNat
            have hdx := dgl_len x.toNat
            obtain ⟨m, hm⟩ := Int.eq_ofNat_of_zero_le hyr.1
            obtain ⟨mx, hmx⟩ := Int.eq_ofNat_of_zero_le hxr.1
            have C1 := Lib.hid (fun W => rdigits_any m (by omega) W)
            have C2 := Lib.hid (fun W => rdigits_any mx (by omega) W)
            rw [show dg m = str (dgl m) from rfl] at C1
            rw [show dg mx = str (dgl mx) from rfl] at C2
            rw [← hx2] at hB
            rw [hm, show ((m : Int)).toNat = m by omega] at hA hB hdl
            rw [hmx, show ((mx : Int)).toNat = mx by omega] at hB hdx
            have a1 := fun W => add_str o [44] (by simp; omega) W
            have a2 := fun W => add_str (comma o) (dgl m) (by omega) W
            have a3 := fun W => add_str (comma o ++ dgl m) [45] (by simp; omega) W
            have a4 := fun W => add_str (comma o ++ dgl m ++ [45]) (dgl mx) (by simp; omega) W
            rw [show str [44] = { data := #[44] } from rfl] at a1
            rw [show str [45] = { data := #[45] } from rfl] at a3
            have HA := Lib.hid hA
            have HBB := Lib.hid hB
            have hl2 : (comma o ++ dgl m).length ≤ 6 * (i + 1) := by rw [List.length_append]; omega
            have hl4 : 2 ≤ k - i → (comma o ++ dgl m ++ [45] ++ dgl mx).length ≤ 6 * (k + 1) := by intro h; simp only [List.length_append, List.length_cons, List.length_nil]; omega
            have HL := Lib.hid (And.intro hl2 hl4)
            rw [hm] at ci
            have ckx := ck
            rw [hmx] at ckx
            have hoe := empty_of o
            have hcm : comma o = if o = [] then o else o ++ [44] := rfl
            clear hA hB hcl hol hdl hdx hl2 hl4 hyi hx2 hin hrv hik2 HK hk1 hkl hx
            obtain ⟨S0, h0e⟩ : ∃ S, str o = S := ⟨_, rfl⟩
            obtain ⟨S1, h1e⟩ : ∃ S, str (comma o) = S := ⟨_, rfl⟩
            obtain ⟨S2, h2e⟩ : ∃ S, str (comma o ++ dgl m) = S := ⟨_, rfl⟩
            obtain ⟨S3, h3e⟩ : ∃ S, str (comma o ++ dgl m ++ [45]) = S := ⟨_, rfl⟩
            obtain ⟨S4, h4e⟩ : ∃ S, str (comma o ++ dgl m ++ [45] ++ dgl mx) = S := ⟨_, rfl⟩
            rw [h0e] at a1 hoe
            rw [h1e, h2e] at a2
            rw [h2e, h3e] at a3
            rw [h3e, h4e] at a4
            rw [h0e]
            have HE := Lib.hid (And.intro h2e h4e)
            have hbe : (o = [] ∧ S0 = S1 ∧ o.isEmpty = true) ∨ (o ++ [44] = comma o ∧ o.isEmpty = false) := by
              cases o with
              | nil => exact .inl ⟨rfl, by rw [← h0e, ← h1e]; rfl, rfl⟩
              | cons u ol => exact .inr ⟨rfl, rfl⟩
            generalize str (dgl m) = sm at *
            generalize str (dgl mx) = sx at *
            clear h0e h2e h3e h4e hcm
            have hik3 : i ≤ k := hik
            rcases hbe with ⟨_, hb1, hb2⟩ | ⟨hb1, hb2⟩
            · subst hb1
              rw [hb2] at hoe
              have hoe2 : (!S0.toList.isEmpty) = false := by rw [hoe]; rfl
              clear h1e a1 hb2
              by_cases h2 : 2 ≤ k - i
              · have d1 : decide ((k : Int) - i < 2) = false := decide_eq_false (by omega)
                have d2 : decide ((i : Int) < k) = true := decide_eq_true (by omega)
                have d3 : decide (i < k) = true := decide_eq_true (by omega)
                go_wp2_with fail
                go_quiet (fail)
                go_wp2_with (first | (go_at_call 43; (with_reducible refine Calls.mono (C1.out _) ?_); rintro e w' ⟨rfl, rfl⟩; clear C1) | (go_at_call 43; (with_reducible refine Calls.mono (C2.out _) ?_); rintro e w' ⟨rfl, rfl⟩))
                exact ⟨⟨k + 1, comma o ++ dgl m ++ [45] ++ dgl mx, x + 1, by omega, by first | rfl | go_num, by rw [HE.out.2], Lib.hid ⟨HL.out.2 h2, by rw [hmx]; exact HBB.out h2⟩, Lib.hid (below_drewN HBk.out nq)⟩, by simp [intOf]; omega⟩
              · have d1 : decide ((k : Int) - i < 2) = true := decide_eq_true (by omega)
                go_wp2_with fail
                go_quiet (fail)
                go_wp2_with (first | (go_at_call 43; (with_reducible refine Calls.mono (C1.out _) ?_); rintro e w' ⟨rfl, rfl⟩; clear C1) | (go_at_call 43; (with_reducible refine Calls.mono (C2.out _) ?_); rintro e w' ⟨rfl, rfl⟩))
                exact ⟨⟨i + 1, comma o ++ dgl m, nx, by omega, by first | rfl | go_num, by rw [HE.out.1], Lib.hid ⟨HL.out.1, HA.out (by omega)⟩, Lib.hid (below_drewN HBk.out nq)⟩, by simp [intOf]; omega⟩
            · rw [hb1, h1e] at a1
              rw [hb2] at hoe
              have hoe2 : (!S0.toList.isEmpty) = true := by rw [hoe]; rfl
              clear h1e hb1 hb2
              by_cases h2 : 2 ≤ k - i
              · have d1 : decide ((k : Int) - i < 2) = false := decide_eq_false (by omega)
                have d2 : decide ((i : Int) < k) = true := decide_eq_true (by omega)
                have d3 : decide (i < k) = true := decide_eq_true (by omega)
                go_wp2_with fail
                go_quiet (fail)
                go_wp2_with (first | (go_at_call 43; (with_reducible refine Calls.mono (C1.out _) ?_); rintro e w' ⟨rfl, rfl⟩; clear C1) | (go_at_call 43; (with_reducible refine Calls.mono (C2.out _) ?_); rintro e w' ⟨rfl, rfl⟩))
                exact ⟨⟨k + 1, comma o ++ dgl m ++ [45] ++ dgl mx, x + 1, by omega, by first | rfl | go_num, by rw [HE.out.2], Lib.hid ⟨HL.out.2 h2, by rw [hmx]; exact HBB.out h2⟩, Lib.hid (below_drewN HBk.out nq)⟩, by simp [intOf]; omega⟩
              · have d1 : decide ((k : Int) - i < 2) = true := decide_eq_true (by omega)
                go_wp2_with fail
                go_quiet (fail)
                go_wp2_with (first | (go_at_call 43; (with_reducible refine Calls.mono (C1.out _) ?_); rintro e w' ⟨rfl, rfl⟩; clear C1) | (go_at_call 43; (with_reducible refine Calls.mono (C2.out _) ?_); rintro e w' ⟨rfl, rfl⟩))
                exact ⟨⟨i + 1, comma o ++ dgl m, nx, by omega, by first | rfl | go_num, by rw [HE.out.1], Lib.hid ⟨HL.out.1, HA.out (by omega)⟩, Lib.hid (below_drewN HBk.out nq)⟩, by simp [intOf]; omega⟩
        · have hdn : L.drop (k + 1) = [] := List.drop_of_length_le (by rw [HN.out]; omega)
          rw [hdn] at hk2
          have hk0 : runLen x [] = 0 := rfl
          rw [hk0] at hk2
          have hg1 : decide ((k : Int) + 1 < (n : Int)) = false := decide_eq_false (by omega)
          clear hdn hk0
          have hrv : k - i = runLen y (L.drop (i + 1)) := by omega
          have hx2 : x = y + ((runLen y (L.drop (i + 1)) : Nat) : Int) := by rw [← hx, ← hrv]; omega
          have hin : i < L.length := by omega
          have ci := HC.out wr HBk.out i hin
          have hyi : L[i] = y := by have := HD.out.2; rw [List.getElem?_eq_getElem hin] at this; exact Option.some.inj this
          rw [hyi] at ci
          have hA := fun h => stepA HD.out.1 HO.out.2.1 HO.out.2.2 h
          have hB := fun h => stepB HS.out HD.out.1 HO.out.2.1 HO.out.2.2 rfl h
          rw [← hrv] at hA hB hx2
          have hik2 : i + 1 + (k - i) = k + 1 := by omega
          rw [hik2] at hB
          have hcl := comma_len o
          have hol := HO.out.1
          have hdl := dgl_len y.toNat
          have hdx := dgl_len x.toNat
          obtain ⟨m, hm⟩ := Int.eq_ofNat_of_zero_le hyr.1
          obtain ⟨mx, hmx⟩ := Int.eq_ofNat_of_zero_le hxr.1
          have C1 := Lib.hid (fun W => rdigits_any m (by omega) W)
          have C2 := Lib.hid (fun W => rdigits_any mx (by omega) W)
          rw [show dg m = str (dgl m) from rfl] at C1
          rw [show dg mx = str (dgl mx) from rfl] at C2
          rw [← hx2] at hB
          rw [hm, show ((m : Int)).toNat = m by omega] at hA hB hdl
          rw [hmx, show ((mx : Int)).toNat = mx by omega] at hB hdx
          have a1 := fun W => add_str o [44] (by simp; omega) W
          have a2 := fun W => add_str (comma o) (dgl m) (by omega) W
          have a3 := fun W => add_str (comma o ++ dgl m) [45] (by simp; omega) W
          have a4 := fun W => add_str (comma o ++ dgl m ++ [45]) (dgl mx) (by simp; omega) W
          rw [show str [44] = { data := #[44] } from rfl] at a1
          rw [show str [45] = { data := #[45] } from rfl] at a3
          have HA := Lib.hid hA
          have HBB := Lib.hid hB
          have hl2 : (comma o ++ dgl m).length ≤ 6 * (i + 1) := by rw [List.length_append]; omega
          have hl4 : 2 ≤ k - i → (comma o ++ dgl m ++ [45] ++ dgl mx).length ≤ 6 * (k + 1) := by intro h; simp only [List.length_append, List.length_cons, List.length_nil]; omega
          have HL := Lib.hid (And.intro hl2 hl4)
          rw [hm] at ci
          have ckx := ck
          rw [hmx] at ckx
          have hoe := empty_of o
          have hcm : comma o = if o = [] then o else o ++ [44] := rfl
          clear hA hB hcl hol hdl hdx hl2 hl4 hyi hx2 hin hrv hik2 HK hk1 hkl hx
          obtain ⟨S0, h0e⟩ : ∃ S, str o = S := ⟨_, rfl⟩
          obtain ⟨S1, h1e⟩ : ∃ S, str (comma o) = S := ⟨_, rfl⟩
          obtain ⟨S2, h2e⟩ : ∃ S, str (comma o ++ dgl m) = S := ⟨_, rfl⟩
          obtain ⟨S3, h3e⟩ : ∃ S, str (comma o ++ dgl m ++ [45]) = S := ⟨_, rfl⟩
          obtain ⟨S4, h4e⟩ : ∃ S, str (comma o ++ dgl m ++ [45] ++ dgl mx) = S := ⟨_, rfl⟩
          rw [h0e] at a1 hoe
          rw [h1e, h2e] at a2
          rw [h2e, h3e] at a3
          rw [h3e, h4e] at a4
          rw [h0e]
          have HE := Lib.hid (And.intro h2e h4e)
          have hbe : (o = [] ∧ S0 = S1 ∧ o.isEmpty = true) ∨ (o ++ [44] = comma o ∧ o.isEmpty = false) := by
            cases o with
            | nil => exact .inl ⟨rfl, by rw [← h0e, ← h1e]; rfl, rfl⟩
            | cons u ol => exact .inr ⟨rfl, rfl⟩
          generalize str (dgl m) = sm at *
          generalize str (dgl mx) = sx at *
          clear h0e h2e h3e h4e hcm
          have hik3 : i ≤ k := hik
          rcases hbe with ⟨_, hb1, hb2⟩ | ⟨hb1, hb2⟩
          · subst hb1
            rw [hb2] at hoe
            have hoe2 : (!S0.toList.isEmpty) = false := by rw [hoe]; rfl
            clear h1e a1 hb2
            by_cases h2 : 2 ≤ k - i
            · have d1 : decide ((k : Int) - i < 2) = false := decide_eq_false (by omega)
              have d2 : decide ((i : Int) < k) = true := decide_eq_true (by omega)
              have d3 : decide (i < k) = true := decide_eq_true (by omega)
              go_wp2_with fail
              go_quiet (fail)
              go_wp2_with (first | (go_at_call 43; (with_reducible refine Calls.mono (C1.out _) ?_); rintro e w' ⟨rfl, rfl⟩; clear C1) | (go_at_call 43; (with_reducible refine Calls.mono (C2.out _) ?_); rintro e w' ⟨rfl, rfl⟩))
              exact ⟨⟨k + 1, comma o ++ dgl m ++ [45] ++ dgl mx, x + 1, by omega, by first | rfl | go_num, by rw [HE.out.2], Lib.hid ⟨HL.out.2 h2, by rw [hmx]; exact HBB.out h2⟩, Lib.hid (below_drewN HBk.out nq)⟩, by simp [intOf]; omega⟩
            · have d1 : decide ((k : Int) - i < 2) = true := decide_eq_true (by omega)
              go_wp2_with fail
              go_quiet (fail)
              go_wp2_with (first | (go_at_call 43; (with_reducible refine Calls.mono (C1.out _) ?_); rintro e w' ⟨rfl, rfl⟩; clear C1) | (go_at_call 43; (with_reducible refine Calls.mono (C2.out _) ?_); rintro e w' ⟨rfl, rfl⟩))
              exact ⟨⟨i + 1, comma o ++ dgl m, nx, by omega, by first | rfl | go_num, by rw [HE.out.1], Lib.hid ⟨HL.out.1, HA.out (by omega)⟩, Lib.hid (below_drewN HBk.out nq)⟩, by simp [intOf]; omega⟩
          · rw [hb1, h1e] at a1
            rw [hb2] at hoe
            have hoe2 : (!S0.toList.isEmpty) = true := by rw [hoe]; rfl
            clear h1e hb1 hb2
            by_cases h2 : 2 ≤ k - i
            · have d1 : decide ((k : Int) - i < 2) = false := decide_eq_false (by omega)
              have d2 : decide ((i : Int) < k) = true := decide_eq_true (by omega)
              have d3 : decide (i < k) = true := decide_eq_true (by omega)
              go_wp2_with fail
              go_quiet (fail)
              go_wp2_with (first | (go_at_call 43; (with_reducible refine Calls.mono (C1.out _) ?_); rintro e w' ⟨rfl, rfl⟩; clear C1) | (go_at_call 43; (with_reducible refine Calls.mono (C2.out _) ?_); rintro e w' ⟨rfl, rfl⟩))
              exact ⟨⟨k + 1, comma o ++ dgl m ++ [45] ++ dgl mx, x + 1, by omega, by first | rfl | go_num, by rw [HE.out.2], Lib.hid ⟨HL.out.2 h2, by rw [hmx]; exact HBB.out h2⟩, Lib.hid (below_drewN HBk.out nq)⟩, by simp [intOf]; omega⟩
            · have d1 : decide ((k : Int) - i < 2) = true := decide_eq_true (by omega)
              go_wp2_with fail
              go_quiet (fail)
              go_wp2_with (first | (go_at_call 43; (with_reducible refine Calls.mono (C1.out _) ?_); rintro e w' ⟨rfl, rfl⟩; clear C1) | (go_at_call 43; (with_reducible refine Calls.mono (C2.out _) ?_); rintro e w' ⟨rfl, rfl⟩))
              exact ⟨⟨i + 1, comma o ++ dgl m, nx, by omega, by first | rfl | go_num, by rw [HE.out.1], Lib.hid ⟨HL.out.1, HA.out (by omega)⟩, Lib.hid (below_drewN HBk.out nq)⟩, by simp [intOf]; omega⟩
    · obtain rfl : i = n := by omega
      have ho : o = T := by have := HO.out.2.2; rw [List.drop_of_length_le (by rw [HN.out]; omega)] at this; exact this
      subst ho
      clear hlt
      go_wp2
      go_ret
      exact ⟨rfl, HB.out⟩
theorem rtext_any (A : Option Addr) (cap : Nat) (L : List Int) (hs : L.Pairwise (· < ·)) (hr : ∀ y ∈ L, 0 ≤ y ∧ y < 64) (h64 : L.length ≤ 64) (w : World) (hH : HoldsI w A L) :
    Calls Tryd.prog 32 #[.slice A L.length cap] w fun e w' => e = .returned (.string (textR L)) ∧ Below w.heap.size w w' := by
  unfold textR
  by_cases h : L = []
  · rw [if_pos h, h]; exact rtext_nil A cap w
  · rw [if_neg h]; exact rtext_some A cap L hs hr (List.length_pos_iff.2 h) h64 w hH
theorem ofL_sorted (x : Nat) : (ofL x).Pairwise (· < ·) := by
  rw [ofL_filter]
  exact List.Pairwise.map _ (fun a b h => by omega) (List.pairwise_lt_range.sublist List.filter_sublist)
theorem text_eq {x : Nat} (hx : Small x) : textR (ofL x) = textC x := by
  unfold textR textC
  by_cases h : x = 0
  · subst h; rfl
  · rw [if_neg h, if_neg, stC_text]
    intro he
    have := ofL_len x
    rw [he] at this
    have := pop_pos hx h
    simp at *
    omega
end Go.Proofs.YtlecgedmdaenaaaDoor.Bits
