/- The walk of the reference's Made. -/
import Derived.Test.YtlecgedmdaenaaaDoorApp
import Derived.Test.YtlecgedmdaenaaaDoorRefCh
import Derived.Test.YtlecgedmdaenaaaDoorChPure
namespace Go.Proofs.YtlecgedmdaenaaaDoor.Bits
open Go.RowKit Go.Proofs.YtlecgedmdaenaaaDoor.K

theorem tb_bitN_any {n : Int} {i : Nat} : tb (bitN n) i ↔ i < 64 ∧ n = i := by
  by_cases h : 0 ≤ n ∧ n < 64
  · obtain ⟨m, rfl⟩ := Int.eq_ofNat_of_zero_le h.1
    rw [tb_bitN (by omega)]
    omega
  · have e : bitN n = 0 := by unfold bitN; rw [if_neg h]
    rw [e]
    constructor
    · exact fun h => absurd h (not_tb_zero i)
    · rintro ⟨_, rfl⟩; omega
theorem mk_iff_any {xs : List Int} (i : Nat) : tb (mk xs) i ↔ i < 64 ∧ (i : Int) ∈ xs := by
  induction xs with
  | nil => simp [mk, not_tb_zero]
  | cons x l ih =>
    rw [mk_cons, tb_or, ih, tb_bitN_any, List.mem_cons]
    constructor
    · rintro (⟨h, rfl⟩ | ⟨h, h'⟩)
      · exact ⟨h, .inl rfl⟩
      · exact ⟨h, .inr h'⟩
    · rintro ⟨h, h' | h'⟩
      · exact .inl ⟨h, h'.symm⟩
      · exact .inr ⟨h, h'⟩
def preM (xs : List Int) (k : Nat) : List Int := ((List.range k).filter (fun i : Nat => inL xs (i : Int))).map (fun i : Nat => (i : Int))
theorem preM_succ (xs : List Int) (k : Nat) : preM xs (k + 1) = if inL xs (k : Int) = true then preM xs k ++ [(k : Int)] else preM xs k := by
  unfold preM
  rw [List.range_succ, List.filter_append, List.map_append]
  by_cases h : inL xs (k : Int) = true <;> simp [h]
theorem preM_all (xs : List Int) : preM xs 64 = ofL (mk xs) := by
  rw [ofL_filter]
  unfold preM
  congr 1
  refine List.filter_congr fun i hi => ?_
  rw [List.mem_range] at hi
  rw [Bool.eq_iff_iff, inL_iff]
  have := @mk_iff_any xs i
  unfold tb at this
  rw [this]
  exact ⟨fun h => ⟨hi, h⟩, fun h => h.2⟩
theorem preM_len (xs : List Int) (k : Nat) : (preM xs k).length ≤ k := by
  unfold preM
  rw [List.length_map]
  exact Nat.le_trans (List.length_filter_le _ _) (by simp)

set_option maxHeartbeats 2000000 in
theorem made_any (A : Option Addr) (cap : Nat) (xs : List Int) (hlen : xs.length ≤ 4611686018427387904) (w : World) (hH : HoldsI w A xs) :
    Calls Tryd.prog 14 #[.slice A xs.length cap] w fun e w' => ∃ v, e = .returned v ∧ Own w' w.heap.size v (ofL (mk xs)) ∧ Below w.heap.size w w' := by
  have CH := Lib.hid (fun n W (hW : HoldsI W A xs) => lhas_any A cap xs n hlen W hW)
  have HH := Lib.hid hH
  obtain ⟨len, hl⟩ : ∃ len, xs.length = len := ⟨_, rfl⟩
  rw [hl] at hlen CH ⊢
  clear hH hl
  obtain ⟨i0, hi, hz0, hz1, hz2⟩ := info_parts info3
  go_enter Tryd.func14, Tryd.ntmps14
  go_wp2
  go_loopw [3, 4] (fun v i wr => ∃ (k : Nat), k ≤ 64 ∧ i = .int .i64 k ∧ Hid (Own wr w.heap.size v (preM xs k)) ∧ Hid (Below w.heap.size w wr)) (fun _ i _ => 64 - (intOf i).toNat)
  case atStart => exact ⟨0, by omega, rfl, Lib.hid (World.ownsRow_nil _ _ _ _), Lib.hid (Below.refl _ _)⟩
  case round =>
    obtain ⟨k, hk, rfl, HO, HB⟩ := hrel
    by_cases hlt : k < 64
    · have hs := preM_succ xs k
      have hpl := preM_len xs k
      have C := Lib.hid (CH.out (k : Int) wr (HH.out.keep HB.out))
      by_cases hin : inL xs (k : Int) = true
      · rw [if_pos hin] at hs
        rw [hin] at C
        have HS := Lib.hid hs
        generalize preM xs k = pre at *
        obtain ⟨q, hq⟩ : ∃ q, pre.length = q := ⟨_, rfl⟩
        have HW := HO.out
        unfold Own at HW
        rw [hq] at HW hpl
        have HO2 := Lib.hid HW
        have HQ := Lib.hid hq
        clear hs hq HW hin
        go_wp2_with (first | (go_at_call 20; (with_reducible refine Calls.mono C.out ?_); rintro e w' ⟨rfl, rfl⟩) | (at_builtin; refine wpList_append_own _ rfl _ _ 33 rfl w.heap.size 3 i0 (.int .i64 0) 1 8 Tryd.underlying33 hi hz0 hz1 hz2 rfl (by decide) _ _ _ rfl (World.ownsRow.alloc HO2.out _) ⟨wr.heap.size, 0, none⟩ 1 1 [.int .i64 (k : Int)] rfl rfl (cell_one_new _ _ _) (by simp [Value.oneCell']) (by unfold maxLen; omega) (by omega) (by have := HB.out.size; simp; omega) ?_; intro v' w5 hown hgrow _))
        refine ⟨⟨k + 1, by omega, by first | rfl | go_num, Lib.hid ?_, Lib.hid ?_⟩, ?_⟩
        · rw [HS.out]; unfold Own; simp only [List.length_append, List.length_cons, List.length_nil, List.map_append, List.map_cons, List.map_nil, HQ.out]; exact hown
        · exact (HB.out.alloc HB.out.size _).grown hgrow (by have := HB.out.size; simp; omega) HO.out.low
        · simp [intOf]; omega
      · have hin' : inL xs (k : Int) = false := by simpa using hin
        rw [if_neg hin] at hs
        rw [hin'] at C
        have HS := Lib.hid hs
        clear hs hin hin'
        go_wp2_with ((go_at_call 20; (with_reducible refine Calls.mono C.out ?_); rintro e w' ⟨rfl, rfl⟩))
        refine ⟨⟨k + 1, by omega, by first | rfl | go_num, Lib.hid (by rw [HS.out]; exact HO.out), HB⟩, ?_⟩
        simp [intOf]; omega
    · obtain rfl : k = 64 := by omega
      go_wp2_with fail
      go_ret
      exact ⟨_, rfl, by have := HO.out; rw [preM_all] at this; exact this, HB.out⟩
end Go.Proofs.YtlecgedmdaenaaaDoor.Bits
