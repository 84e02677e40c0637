/- The iterator of a set (bits.Set.All): its contract; plain laws of a set's lowest node. -/
import Derived.RangeFuncNested
import Derived.RangeFuncBound
import Derived.RangeFuncCalls
import Derived.RangeFuncLeaves
import Derived.RangeFuncFrom
import Derived.Shelf.Abstract
import Derived.Shelf.RegionOpen
import Derived.WalkKit
import Derived.OwnWalkIn
import Derived.TacticsInMore
import Derived.LoopNIn
import Derived.LoopIn
import Derived.Test.YtlecgedmdaenaaaDoorChPure
namespace Go.Proofs.YtlecgedmdaenaaaDoor.Bits
open Go.RowKit Go.Shelf Go.Proofs.YtlecgedmdaenaaaDoor.K

theorem tb_mul {c m j : Nat} : tb (2 ^ c * m) j ↔ c ≤ j ∧ m.testBit (j - c) = true := by
  unfold tb; rw [Nat.testBit_two_pow_mul]; simp
theorem and_pred_odd (k : Nat) : (2 * k + 1) &&& (2 * k) = 2 * k := by
  apply Nat.eq_of_testBit_eq
  intro i
  rw [Nat.testBit_and]
  cases i with
  | zero => simp
  | succ i =>
    rw [Nat.testBit_succ, Nat.testBit_succ, show (2 * k + 1) / 2 = k by omega, show 2 * k / 2 = k by omega, Bool.and_self]
theorem and_pred (c : Nat) : ∀ k, (2 ^ c * (2 * k + 1)) &&& (2 ^ c * (2 * k + 1) - 1) = 2 ^ c * (2 * k) := by
  induction c with
  | zero => intro k; rw [Nat.pow_zero, Nat.one_mul, Nat.one_mul, Nat.add_sub_cancel]; exact and_pred_odd k
  | succ c ih =>
    intro k
    have h := ih k
    have hp : 0 < 2 ^ c * (2 * k + 1) := Nat.mul_pos (Nat.pow_pos (by decide)) (by omega)
    have e : 2 ^ (c + 1) * (2 * k + 1) = 2 * (2 ^ c * (2 * k + 1)) := by rw [Nat.pow_succ]; simp [Nat.mul_comm, Nat.mul_left_comm]
    have e2 : 2 ^ (c + 1) * (2 * k) = 2 * (2 ^ c * (2 * k)) := by rw [Nat.pow_succ]; simp [Nat.mul_comm, Nat.mul_left_comm]
    rw [e, e2, ← h]
    generalize 2 ^ c * (2 * k + 1) = a at *
    apply Nat.eq_of_testBit_eq
    intro i
    rw [Nat.testBit_and]
    cases i with
    | zero => simp
    | succ i =>
      rw [Nat.testBit_succ, Nat.testBit_succ, Nat.testBit_succ, show (2 * a) / 2 = a by omega, show (2 * a - 1) / 2 = a - 1 by omega, show 2 * (a &&& (a - 1)) / 2 = a &&& (a - 1) by omega, Nat.testBit_and]
theorem strike_low {x : Nat} (hx : Small x) (h : x ≠ 0) : x &&& (x - 1) = less x (bitN (low x)) := by
  have hl : low x = ((Lib.ctz 64 x : Nat) : Int) := by unfold low; rw [if_neg h]
  have hc : Lib.ctz 64 x < 64 := (Lib.lowest_bit 64 x h hx).2
  have hs : Lib.ctz 64 x = Lib.ctzFrom 64 x := by unfold Lib.ctz; rw [if_neg h]
  obtain ⟨m, hm, _⟩ := Lib.ctzFrom_spec 64 x (Nat.pos_of_ne_zero h) hx
  rw [← hs] at hm
  rw [hl]
  generalize Lib.ctz 64 x = c at *
  subst hm
  rw [and_pred]
  refine ext fun j => ?_
  rw [tb_less hx (bitN_small _), tb_bitN hc, tb_mul, tb_mul]
  by_cases hj : c ≤ j
  · obtain ⟨i, rfl⟩ : ∃ i, j = c + i := ⟨j - c, by omega⟩
    rw [show c + i - c = i by omega]
    cases i with
    | zero => simp
    | succ i => rw [Nat.testBit_succ, Nat.testBit_succ, show (2 * m + 1) / 2 = m by omega, show 2 * m / 2 = m by omega]; simp
  · simp [hj]

def finOf (y : Int) : Option (Fin 64) := if h : 0 ≤ y ∧ y < 64 then some ⟨y.toNat, by omega⟩ else none
/-- A set's nodes, each below 64. -/
def ofF (x : Nat) : List (Fin 64) := (ofL x).filterMap finOf
theorem ofF_zero : ofF 0 = [] := by decide
theorem ofF_ofLow {x : Nat} (hx : Small x) (h : x ≠ 0) : ∃ k : Fin 64, low x = (k.val : Int) ∧ ofF x = k :: ofF (x &&& (x - 1)) := by
  obtain ⟨i, hi, hlt, _, _⟩ := low_tb hx h
  refine ⟨⟨i, hlt⟩, hi, ?_⟩
  unfold ofF
  rw [ofL_ofLow hx h, ← strike_low hx h, List.filterMap_cons, show finOf (low x) = some ⟨i, hlt⟩ by rw [hi]; unfold finOf; rw [dif_pos (by omega)]; simp]
theorem map_finOf : ∀ l : List Int, (∀ y ∈ l, 0 ≤ y ∧ y < 64) → (l.filterMap finOf).map (fun k : Fin 64 => (k.val : Int)) = l
  | [], _ => rfl
  | y :: l, h => by
    have hy := h y (by simp)
    rw [List.filterMap_cons, show finOf y = some ⟨y.toNat, by omega⟩ by unfold finOf; rw [dif_pos hy]]
    simp only [List.map_cons]
    rw [map_finOf l (fun z hz => h z (by simp [hz]))]
    congr 1
    omega
theorem ofF_map (x : Nat) : (ofF x).map (fun k : Fin 64 => (k.val : Int)) = ofL x := map_finOf _ (fun _ h => ofL_mem h)
theorem ofF_len (x : Nat) : (ofF x).length = pop x := by rw [← ofL_len, ← ofF_map, List.length_map]

attribute [local go_sem] Oper.semAt_some
set_option maxRecDepth 100000 in
set_option maxHeartbeats 1000000 in
theorem all1_in (n : Nat) (hn : 1 ≤ n) (l Bn n₀ x : Nat) (hx : Small x) (J Jx : List (Fin 64) → World → Prop)
    (hY : ∀ pre (k : Fin 64) W, J pre W → pre.length < 64 → YieldAt Fence.wide (n - 1) Tryd.prog l #[.int .i64 (k.val : Int)] W fun e W' =>
      (e = .returned (.bool true) ∧ J (pre ++ [k]) W' ∧ Below n₀ W W') ∨ (e = .returned (.bool false) ∧ Jx (pre ++ [k]) W'))
    (W : World) (hBn : W.cell? ⟨Bn, 0, none⟩ = some (.int .u64 x)) (hg : 0 < n₀) (hT : Tab W) (h0 : J [] W) :
    CallsIn Fence.wide n Tryd.prog 44 #[.func (.yield l) #[] #[], .pointer (some ⟨Bn, 0, none⟩)] W fun e W' => (∃ v, e = .returned v) ∧
      ((∃ ys, ys = ofF x ∧ J ys W') ∨ (∃ pre, pre <+: ofF x ∧ Jx pre W')) := by
  obtain ⟨L, hL⟩ : ∃ L, ofF x = L := ⟨_, rfl⟩
  have hLl : L.length ≤ 64 := by rw [← hL, ofF_len]; exact pop_le x
  rw [hL]
  have HX := Lib.hid (And.intro hx hL)
  have HT := Lib.hid hT
  have HY := Lib.hid hY
  clear hx hL hT hY
  refine callsIn_of_wp Tryd.func44 rfl trivial ?_ rfl
  simp only [Tryd.ntmps44, List.size_toArray, List.length_cons, List.length_nil, Nat.reduceAdd, Nat.reduceSub, Array.replicate_succ, Array.replicate_zero, List.push_toArray, List.append_toArray, List.nil_append, List.cons_append]
  gi_wp2
  gi_loopw [3] (fun p wr => ∃ (pre : List (Fin 64)) (y : Nat), p = .int .u64 y ∧ Hid (L = pre ++ ofF y ∧ Small y) ∧ Hid (J pre wr) ∧ Hid (Tab wr))
    (fun p _ => (intOf p).toNat)
  case atStart => exact ⟨[], x, rfl, Lib.hid ⟨HX.out.2.symm, HX.out.1⟩, Lib.hid h0, HT⟩
  case round =>
    obtain ⟨pre, y, rfl, HP, HJ, HTw⟩ := hrel
    by_cases hy : y = 0
    · subst hy
      gi_wp2
      go_end0
      exact ⟨⟨_, rfl⟩, .inl ⟨pre, by have := HP.out.1; rw [ofF_zero, List.append_nil] at this; exact this.symm, HJ.out⟩⟩
    · obtain ⟨k, hk, hof⟩ := ofF_ofLow HP.out.2 hy
      have hsp := HP.out.1
      rw [hof] at hsp
      obtain ⟨fn, tmps, assign, body, hyi, hR⟩ := HY.out pre k wr HJ.out (by rw [hsp] at hLl; simp at hLl; omega)
      have C := Lib.hid (by have h := lowest_any y HP.out.2 wr HTw.out; rw [hk] at h; exact h : Calls Tryd.prog 28 #[.int .u64 y] wr fun e w' => e = .returned (.int .i64 (k.val : Int)) ∧ wr = w')
      have b0 : ((y : Int) != 0) = true := by simp; omega
      have hw1 : IntKind.u64.wrap ((y : Int) - 1) = ((y - 1 : Nat) : Int) := by have := HP.out.2.lt; rw [IntKind.wrap_u64]; omega
      have hs1 : Small (y - 1) := by have := HP.out.2.lt; unfold Small; omega
      have ha := cast_and HP.out.2 hs1
      have hsa : Small (y &&& (y - 1)) := and_small HP.out.2
      have hlt : (y &&& (y - 1)) < y := Nat.lt_of_le_of_lt Nat.and_le_right (by omega)
      generalize (y &&& (y - 1)) = z at *
      generalize y - 1 = y1 at *
      have HS := Lib.hid (And.intro hsp hsa)
      have HR := Lib.hid hR
      clear hsp hsa hs1 hk hof hy hR
      gi_wp2_with (refine ⟨trivial, ?_⟩; gi_at_call 28; refine (callsIn_wide.2 C.out).mono ?_; rintro e w' ⟨rfl, rfl⟩)
      refine HR.out.mono ?_
      rintro e W3 (⟨rfl, hJ3, hk3⟩ | ⟨rfl, hJx3⟩)
      · have HJ3 := Lib.hid hJ3
        have HT3 := Lib.hid (show Tab W3 from fun j hj => (hk3.cell (p := ⟨0, j, none⟩) hg).trans (HTw.out j hj))
        clear hJ3 hk3
        gi_wp2
        go_roundw
        case rel => exact ⟨pre ++ [k], z, rfl, Lib.hid ⟨by rw [HS.out.1]; simp, HS.out.2⟩, HJ3, HT3⟩
        case measure => simp [intOf]; omega
      · gi_wp2
        refine bodyPost_ret (results_none rfl _ _ _) rfl ?_
        exact ⟨⟨_, rfl⟩, .inr ⟨pre ++ [k], ⟨ofF z, by rw [HS.out.1]; simp⟩, hJx3⟩⟩
theorem all_any (x : Nat) (n : Nat) (w : World) :
    CallsIn Fence.wide n Tryd.prog 40 #[.int .u64 x] w fun e w' => e = .returned (.func (.func 44) #[] #[.pointer (some ⟨w.heap.size, 0, none⟩)]) ∧ w' = w.alloc (.cells #[.int .u64 x] 23) := by
  refine callsIn_of_wp Tryd.func40 rfl trivial ?_ rfl
  simp only [Tryd.ntmps40, List.size_toArray, List.length_cons, List.length_nil, Nat.reduceAdd, Nat.reduceSub, Array.replicate_succ, Array.replicate_zero, List.push_toArray, List.append_toArray, List.nil_append, List.cons_append]
  gi_wp2
  go_ret
  exact ⟨rfl, rfl⟩
theorem all_stops (n : Nat) (hn : 1 ≤ n) (Bn n₀ x : Nat) (hx : Small x) (w : World) (hBn : Bn < w.heap.size) (_hn₀ : n₀ ≤ w.heap.size) (hg : 0 < n₀) (hc : w.cell? ⟨Bn, 0, none⟩ = some (.int .u64 x)) (hT : Tab w) :
    SeqStopsK Fence.wide n Tryd.prog 44 #[.pointer (some ⟨Bn, 0, none⟩)] (fun k : Fin 64 => #[Value.int .i64 (k.val : Int)]) (Below n₀) (fun ys => ys = ofF x) (fun pre => pre <+: ofF x) 64 w := fun l J Jx W hW _ _ hY h0 =>
  all1_in n hn l Bn n₀ x hx J Jx hY W ((hW.cell (p := ⟨Bn, 0, none⟩) hBn).trans hc) hg (fun j hj => (hW.cell (p := ⟨0, j, none⟩) (show 0 < w.heap.size by omega)).trans (hT j hj)) h0
end Go.Proofs.YtlecgedmdaenaaaDoor.Bits
