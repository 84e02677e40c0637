/- Walks of share.At, share.Factor and their callees. -/
import Derived.Test.YtlecgedmdaenaaaProg
import Derived.Test.YtlecgedmdaenaaaK
import Derived.Below
import Derived.WalkKit
import Derived.Outline
import Derived.Deep.QuietTactic
import Derived.BigQuiet
import Derived.Deep.RegionHeld3
import Derived.StillTailTactics
import Derived.Lib.Hide
import Derived.WalkLawsBesides
import Derived.RegionTactic
namespace Go.Proofs.Ytlecgedmdaenaaa.ShareF
open Go.RowKit Go.Proofs.Ytlecgedmdaenaaa.K

def clampI (x : Int) : Int := if x < 0 then 0 else if 1099511627776 < x then 1099511627776 else x
theorem clamp_range (x : Int) : 0 ≤ clampI x ∧ clampI x ≤ 1099511627776 := by unfold clampI; split <;> (try split) <;> omega
def countI (x : Int) : Int := if x < 0 then 0 else if 1125899906842624 < x then 1125899906842624 else x
theorem count_range (x : Int) : 0 ≤ countI x ∧ countI x ≤ 1125899906842624 := by unfold countI; split <;> (try split) <;> omega
def lifeI (x : Int) : Int := if x < 1 then 1099511627776 else clampI x
theorem life_range (x : Int) : 1 ≤ lifeI x ∧ lifeI x ≤ 1099511627776 := by unfold lifeI clampI; split <;> (try split) <;> (try split) <;> omega
theorem clamp_any (x : Int) (w : World) :
    Calls Try.prog 36 #[.int .i64 x] w fun e w' => e = .returned (.int .i64 (clampI x)) ∧ w = w' := by
  go_enter Try.func36, Try.ntmps36
  go_wp2
  all_goals go_ret
  all_goals exact ⟨ret_int (by unfold clampI; (repeat' split) <;> omega), rfl⟩
theorem count_any (x : Int) (w : World) :
    Calls Try.prog 41 #[.int .i64 x] w fun e w' => e = .returned (.int .i64 (countI x)) ∧ w = w' := by
  go_enter Try.func41, Try.ntmps41
  go_wp2
  all_goals go_ret
  all_goals exact ⟨ret_int (by unfold countI; (repeat' split) <;> omega), rfl⟩
theorem life_any (x : Int) (w : World) :
    Calls Try.prog 35 #[.int .i64 x] w fun e w' => e = .returned (.int .i64 (lifeI x)) ∧ w = w' := by
  by_cases h : x < 1
  · go_enter Try.func35, Try.ntmps35
    go_wp2_with (go_at_call 36; refine (clamp_any _ _).mono ?_; rintro e w' ⟨rfl, rfl⟩)
    go_ret
    exact ⟨ret_int (by unfold lifeI; rw [if_pos h]), rfl⟩
  · go_enter Try.func35, Try.ntmps35
    go_wp2_with (go_at_call 36; refine (clamp_any _ _).mono ?_; rintro e w' ⟨rfl, rfl⟩)
    go_ret
    exact ⟨ret_int (by unfold lifeI; rw [if_neg (by omega)]), rfl⟩

theorem clean_any (u t : Int) (w : World) :
    Calls Try.prog 34 #[.agg #[.int .i64 u, .int .i64 t]] w fun e w' => e = .returned (.agg #[.int .i64 (countI u), .int .i64 (clampI t)]) ∧ Below w.heap.size w w' := by
  go_enter Try.func34, Try.ntmps34
  go_wp2
  go_region_held3 (fun w' => w'.cell? ⟨w.heap.size, 0, none⟩ = some (.int .i64 u) ∧ w'.cell? ⟨w.heap.size, 1, none⟩ = some (.int .i64 t)) (go_keep) ((first | (go_at_call 41; refine (count_any _ _).mono ?_; rintro e w' ⟨rfl, rfl⟩) | (go_at_call 36; refine (clamp_any _ _).mono ?_; rintro e w' ⟨rfl, rfl⟩)))
  go_wp2
  exact bodyPost_ret (v := .agg #[.int .i64 (countI u), .int .i64 (clampI t)]) (by simp [results, Try.results34, go_sem]) rfl ⟨rfl, (((Below.refl _ _).alloc (Nat.le_refl _) _).alloc (by simp) _).drew⟩

def goneI (n s : Int) : Int := if clampI n < s then 0 else clampI n - s
def atU (u t n h : Int) : Int := countI u / 2 ^ (min (goneI n (clampI t) / lifeI h) 63).toNat
def atT (t n h : Int) : Int := clampI t + goneI n (clampI t) / lifeI h * lifeI h
theorem gone_range (n t : Int) : 0 ≤ goneI n (clampI t) ∧ goneI n (clampI t) ≤ 1099511627776 := by
  have := clamp_range n; have := clamp_range t; unfold goneI; split <;> omega

theorem wrap_of (x : Int) (h0 : -9223372036854775808 ≤ x) (h1 : x ≤ 9223372036854775807) : IntKind.i64.wrap x = x := by rw [IntKind.wrap_i64]; omega
theorem at_arith (u t n hf : Int) : IntKind.i64.wrap (clampI n - clampI t) = clampI n - clampI t ∧
    (if 0 < clampI n - clampI t then clampI n - clampI t else 0) = goneI n (clampI t) ∧
    0 ≤ goneI n (clampI t) / lifeI hf ∧ goneI n (clampI t) / lifeI hf ≤ 1099511627776 ∧
    IntKind.i64.wrap (goneI n (clampI t) / lifeI hf * lifeI hf) = goneI n (clampI t) / lifeI hf * lifeI hf ∧
    IntKind.i64.wrap (clampI t + goneI n (clampI t) / lifeI hf * lifeI hf) = clampI t + goneI n (clampI t) / lifeI hf * lifeI hf := by
  obtain ⟨hc0, hc1⟩ := count_range u
  obtain ⟨ht0, ht1⟩ := clamp_range t
  obtain ⟨hn0, hn1⟩ := clamp_range n
  obtain ⟨hl0, hl1⟩ := life_range hf
  obtain ⟨hg0, hg1⟩ := gone_range n t
  have hq0 : 0 ≤ goneI n (clampI t) / lifeI hf := Int.ediv_nonneg hg0 (by omega)
  have hq1 : goneI n (clampI t) / lifeI hf ≤ 1099511627776 := by have := Int.ediv_le_self (lifeI hf) hg0; omega
  have hm : goneI n (clampI t) / lifeI hf * lifeI hf ≤ goneI n (clampI t) := Int.ediv_mul_le _ (by omega)
  have hm0 : 0 ≤ goneI n (clampI t) / lifeI hf * lifeI hf := Int.mul_nonneg hq0 (by omega)
  exact ⟨wrap_of _ (by omega) (by omega), by unfold goneI; split <;> split <;> omega, hq0, hq1, wrap_of _ (by omega) (by omega), wrap_of _ (by omega) (by omega)⟩

set_option maxRecDepth 100000 in
set_option maxHeartbeats 1000000 in
theorem at_any (u t n hf : Int) (w : World) :
    Calls Try.prog 24 #[.agg #[.int .i64 u, .int .i64 t], .int .i64 n, .int .i64 hf] w fun e w' => e = .returned (.agg #[.int .i64 (atU u t n hf), .int .i64 (atT t n hf)]) ∧ Below w.heap.size w w' := by
  obtain ⟨C, hC⟩ : ∃ C, countI u = C := ⟨_, rfl⟩
  obtain ⟨T, hT⟩ : ∃ T, clampI t = T := ⟨_, rfl⟩
  obtain ⟨N, hN⟩ : ∃ N, clampI n = N := ⟨_, rfl⟩
  obtain ⟨L, hL⟩ : ∃ L, lifeI hf = L := ⟨_, rfl⟩
  obtain ⟨G, hG⟩ : ∃ G, goneI n T = G := ⟨_, rfl⟩
  have ar := at_arith u t n hf
  have lr := life_range hf
  have gr := gone_range n t
  have cc : ∀ W, Calls Try.prog 34 #[.agg #[.int .i64 u, .int .i64 t]] W fun e w' => e = .returned (.agg #[.int .i64 C, .int .i64 T]) ∧ Below W.heap.size W w' := fun W => by rw [← hC, ← hT]; exact clean_any u t W
  have cn : ∀ W, Calls Try.prog 36 #[.int .i64 n] W fun e w' => e = .returned (.int .i64 N) ∧ W = w' := fun W => by rw [← hN]; exact clamp_any n W
  have cl : ∀ W, Calls Try.prog 35 #[.int .i64 hf] W fun e w' => e = .returned (.int .i64 L) ∧ W = w' := fun W => by rw [← hL]; exact life_any hf W
  have hfin : (atU u t n hf = C / 2 ^ (min (G / L) 63).toNat) ∧ atT t n hf = T + G / L * L := by unfold atU atT; rw [hC, hT, hL, hG]; exact ⟨rfl, rfl⟩
  rw [hT, hN, hL, hG] at ar
  rw [hL] at lr
  rw [hT, hG] at gr
  obtain ⟨fu, ft⟩ := hfin
  rw [fu, ft]
  clear fu ft hC hT hN hL hG
  have CC := Lib.hid cc
  have CN := Lib.hid cn
  have CL := Lib.hid cl
  clear cc cn cl
  have AR := Lib.hid ar
  have LR := Lib.hid lr
  have GR := Lib.hid gr
  clear ar lr gr
  go_enter Try.func24, Try.ntmps24
  go_wp2_with fail
  refine (CC.out _).mono ?_
  rintro e w1 ⟨rfl, hb⟩
  have hn0 : Blk w1 w.heap.size #[.int .i64 u, .int .i64 t] 56 := (((Blk.new w _ _).alloc _)).after hb
  have hn1 : Blk w1 (w.heap.size + 1) #[.int .i64 0, .int .i64 0] 56 := by have h := Blk.new (w.alloc (.cells #[.int .i64 u, .int .i64 t] 56)) #[.int .i64 0, .int .i64 0] 56; rw [World.size_alloc] at h; exact h.after hb
  have HB : Below w.heap.size w w1 := (((Below.refl _ _).alloc (Nat.le_refl _) _).alloc (by simp) _).trans (hb.mono (by simp; omega))
  clear hb
  have a0 : w1.cell? ⟨w.heap.size, 0, none⟩ = some (.int .i64 u) := hn0.cell 0
  have a1 : w1.cell? ⟨w.heap.size, 1, none⟩ = some (.int .i64 t) := hn0.cell 1
  have f0 := hn0.frozen 0
  have f1 := hn0.frozen 1
  go_wp2_with (go_at_call 35; refine (CL.out _).mono ?_; rintro e w' ⟨rfl, rfl⟩)
  have m0 := (hn0.set 0 (.int .i64 (C))).set 1 (.int .i64 (T))
  have m1 : Blk ((w1.setCell ⟨w.heap.size, 0, none⟩ (.int .i64 (C))).setCell ⟨w.heap.size, 1, none⟩ (.int .i64 (T))) (w.heap.size + 1) #[.int .i64 0, .int .i64 0] 56 := (hn1.far (by simp) _).far (by simp) _
  have HB2 := (HB.setCell (p := ⟨w.heap.size, 0, none⟩) (Nat.le_refl _) (.int .i64 (C))).setCell (p := ⟨w.heap.size, 1, none⟩) (Nat.le_refl _) (.int .i64 (T))
  clear a0 a1 f0 f1 hn0 hn1 HB
  generalize ((w1.setCell ⟨w.heap.size, 0, none⟩ (.int .i64 (C))).setCell ⟨w.heap.size, 1, none⟩ (.int .i64 (T))) = w2 at m0 m1 HB2 ⊢
  have d0 : w2.cell? ⟨w.heap.size, 0, none⟩ = some (.int .i64 (C)) := m0.cell 0
  have d1 : w2.cell? ⟨w.heap.size, 1, none⟩ = some (.int .i64 (T)) := m0.cell 1
  have e0 : w2.cell? ⟨w.heap.size + 1, 0, none⟩ = some (.int .i64 0) := m1.cell 0
  have e1 : w2.cell? ⟨w.heap.size + 1, 1, none⟩ = some (.int .i64 0) := m1.cell 1
  have h0 := m1.frozen 0
  have h1 := m1.frozen 1
  obtain ⟨D, hD⟩ : ∃ D, N - T = D := ⟨_, rfl⟩
  have hmx := AR.out.2.1
  rw [hD] at hmx
  have hw1' : IntKind.i64.wrap (N - T) = D := by rw [AR.out.1]; exact hD
  clear hD
  go_region_held3 (fun w' => w'.cell? ⟨w.heap.size, 0, none⟩ = some (.int .i64 (C)) ∧ w'.cell? ⟨w.heap.size, 1, none⟩ = some (.int .i64 (T))) (go_keep) ((first | (go_at_call 36; refine (CN.out _).mono ?_; rintro e w' ⟨rfl, rfl⟩)))
  clear hw1' hmx
  obtain ⟨hl0, hl1⟩ := LR.out
  obtain ⟨hg0, hg1⟩ := GR.out
  go_wp2
  have hs0 : 0 ≤ min (G / L) 63 := by have := AR.out.2.2.1; omega
  have hs1 : min (G / L) 63 ≤ 63 := by omega
  have hmn : (if 63 < G / L then 63 else G / L) = min (G / L) 63 := by split <;> omega
  obtain ⟨-, -, -, -, hwm, hwa⟩ := AR.out
  clear AR LR GR hl0 hl1 hg0 hg1
  generalize hK : G / L = K at *
  generalize hM : min K 63 = M at *
  have HK := Lib.hid hK
  have HM := Lib.hid hM
  clear hK hM
  go_region_held3 (fun w' => w'.cell? ⟨w.heap.size, 0, none⟩ = some (.int .i64 (C)) ∧ w'.cell? ⟨w.heap.size, 1, none⟩ = some (.int .i64 (T))) (go_keep) (fail)
  have z0 := ((m1.drew.drew).set 0 (.int .i64 (C / 2 ^ M.toNat))).set 1 (.int .i64 (T + K * L))
  have z1 := z0.cell 0
  have z2 := z0.cell 1
  simp only [World.setCell_drew] at z1 z2
  go_wp2
  refine bodyPost_ret (v := .agg #[.int .i64 (C / 2 ^ M.toNat), .int .i64 (T + K * L)]) (by simp [results, Try.results24, go_sem, z1, z2]) rfl ⟨?_, ((HB2.drew.drew).setCell (p := ⟨w.heap.size + 1, 0, none⟩) (by simp) _).setCell (p := ⟨w.heap.size + 1, 1, none⟩) (by simp) _⟩
  rw [← HM.out, ← HK.out]
end Go.Proofs.Ytlecgedmdaenaaa.ShareF
