/- The walk of a set's text. -/
import Derived.Test.YtlecgedmdaenaaaDoorAll
import Derived.Test.YtlecgedmdaenaaaDoorDig
import Derived.Sort.CutIn
namespace Go.Proofs.YtlecgedmdaenaaaDoor.Bits
open Go.RowKit Go.Shelf Go.Proofs.YtlecgedmdaenaaaDoor.K

def endN (x : Nat) : Nat → Nat → Nat
  | 0, e => e
  | f + 1, e => if has x ((e + 1 : Nat) : Int) = true then endN x f (e + 1) else e
/-- The last node of the run of nodes from e on. -/
def runE (x e : Nat) : Nat := endN x (64 - e) e
def stepC (x : Nat) (st : List UInt8 × Int) (n : Nat) : List UInt8 × Int :=
  if (n : Int) < st.2 then st
  else if 3 ≤ runE x n + 1 - n then ((if st.1 = [] then st.1 else st.1 ++ [44]) ++ dgl n ++ 45 :: dgl (runE x n), runE x n + 1)
  else ((if st.1 = [] then st.1 else st.1 ++ [44]) ++ dgl n, st.2)
def stC (x : Nat) (pre : List (Fin 64)) : List UInt8 × Int := pre.foldl (fun st k => stepC x st k.val) ([], -1)
def str (l : List UInt8) : ByteArray := ⟨l.toArray⟩
def textC (x : Nat) : ByteArray := if x = 0 then ⟨#[110, 111, 110, 101]⟩ else str (stC x (ofF x)).1

attribute [local go_sem] Oper.semAt_some
theorem cell_of_box_l {W : World} {B : Nat} {v : Value} {t : TypeId} (h : W.heap[B]? = some (.cells #[v] t (0, 0))) : W.cell? ⟨B, 0, none⟩ = some v ∧ W.frozen? ⟨B, 0, none⟩ = false := by
  constructor <;> simp [World.cell?, World.frozen?, h]
theorem cell_new_l (W : World) (v : Value) (t : TypeId) : (W.alloc (.cells #[v] t)).cell? ⟨W.heap.size, 0, none⟩ = some v ∧ (W.alloc (.cells #[v] t)).frozen? ⟨W.heap.size, 0, none⟩ = false :=
  cell_of_box_l (World.alloc_heap_new W _)
theorem cell_alloc_l {W : World} {a : Addr} {v : Value} (o : Obj) (h : W.cell? a = some v) : (W.alloc o).cell? a = some v := cell_kept h (World.grownBy_alloc W o none) (fun r e => by cases e)
theorem frozen_alloc_l {W : World} {a : Addr} {v : Value} (o : Obj) (h : W.cell? a = some v) (hf : W.frozen? a = false) : (W.alloc o).frozen? a = false := (frozen_kept h (World.grownBy_alloc W o none) (fun r e => by cases e)).trans hf

theorem dgl_len (n : Nat) : (dgl n).length ≤ 2 := by unfold dgl; split <;> simp
theorem endN_le (x : Nat) : ∀ f e, e ≤ endN x f e ∧ endN x f e ≤ e + f
  | 0, e => ⟨Nat.le_refl _, Nat.le_refl _⟩
  | f + 1, e => by
    unfold endN
    have := endN_le x f (e + 1)
    split <;> omega
theorem runE_le (x : Nat) {e : Nat} (h : e < 64) : e ≤ runE x e ∧ runE x e ≤ 64 := by
  have := endN_le x (64 - e) e
  unfold runE; omega
theorem runE_step (x : Nat) {e : Nat} (h : e < 64) : runE x e = if has x ((e + 1 : Nat) : Int) = true then runE x (e + 1) else e := by
  unfold runE
  rw [show 64 - e = (64 - (e + 1)) + 1 by omega, endN]
theorem stC_snoc (x : Nat) (pre : List (Fin 64)) (k : Fin 64) : stC x (pre ++ [k]) = stepC x (stC x pre) k.val := by simp [stC]
theorem stepC_len (x : Nat) (st : List UInt8 × Int) (k : Fin 64) (h : -1 ≤ st.2 ∧ st.2 ≤ 65) : (stepC x st k.val).1.length ≤ st.1.length + 6 ∧ -1 ≤ (stepC x st k.val).2 ∧ (stepC x st k.val).2 ≤ 65 := by
  have h1 := dgl_len k.val
  have h2 := dgl_len (runE x k.val)
  have h3 := runE_le x k.isLt
  unfold stepC
  split
  · exact ⟨by omega, h⟩
  · split
    · refine ⟨?_, by simp; omega, by simp; omega⟩
      split <;> simp <;> omega
    · refine ⟨?_, h⟩
      split <;> simp <;> omega
theorem stC_len (x : Nat) (pre : List (Fin 64)) : (stC x pre).1.length ≤ 6 * pre.length ∧ -1 ≤ (stC x pre).2 ∧ (stC x pre).2 ≤ 65 := by
  have : ∀ (l : List (Fin 64)) (st : List UInt8 × Int), (-1 ≤ st.2 ∧ st.2 ≤ 65) → (l.foldl (fun st k => stepC x st k.val) st).1.length ≤ st.1.length + 6 * l.length ∧ -1 ≤ (l.foldl (fun st k => stepC x st k.val) st).2 ∧ (l.foldl (fun st k => stepC x st k.val) st).2 ≤ 65 := by
    intro l
    induction l with
    | nil => intro st h; exact ⟨by simp, h⟩
    | cons k l ih =>
      intro st h
      have h1 := stepC_len x st k h
      have h2 := ih _ h1.2
      rw [List.foldl_cons, List.length_cons]
      exact ⟨by omega, h2.2⟩
  have := this pre ([], -1) (by simp)
  simpa [stC] using this
theorem str_size (l : List UInt8) : (str l).size = l.length := by simp [str, ByteArray.size]
theorem str_append (a b : List UInt8) : str a ++ str b = str (a ++ b) := by unfold str; rw [ByteArray.mk_append_mk]
theorem add_str (a b : List UInt8) (h : a.length + b.length ≤ 100000) (W : World) : (Op.stringOp .add (str a) (str b)).run Tryd.prog W = .ok (.string (str (a ++ b))) W := by
  rw [run_string_add_sum W _ _ (by rw [str_size, str_size]; omega), str_append]

theorem str_empty (o : List UInt8) : (str o).toList = o := ByteArray.toList_mk o
theorem Boxed.after {W w' : World} {B : Nat} {t : TypeId} {v : Value} (hb : Below W.heap.size W w') (h : Boxed W B t v) : Boxed w' B t v := (hb.block B h.lt).trans h
theorem keepsO_below {W w' : World} (hb : Below W.heap.size W w') : KeepsOthers W w' := KeepsOthers.of_grownBy (grown_of_below hb) (fun j o e _ => by cases e)
set_option maxRecDepth 100000 in
set_option maxHeartbeats 2000000 in
theorem text_any (x : Nat) (hx : Small x) (h0 : x ≠ 0) (w : World) (hT : Tab w) (hg : 0 < w.heap.size) :
    CallsIn Fence.wide 6 Tryd.prog 31 #[.int .u64 x] w fun e w' => e = .returned (.string (textC x)) ∧ Below w.heap.size w w' := by
  have b0 : ((x : Int) == 0) = false := beq_eq_false_iff_ne.mpr (by omega)
  refine callsIn_of_wp_marks Tryd.func31 rfl trivial ?_ rfl
  simp only [Tryd.ntmps31, List.size_toArray, List.length_cons, List.length_nil, Nat.reduceAdd, Nat.reduceSub, Array.replicate_succ, Array.replicate_zero, List.push_toArray, List.append_toArray, List.nil_append, List.cons_append]
  gi_wp2_with (refine ⟨trivial, ?_⟩; gi_at_call 40; refine (all_any x _ _).mono ?_; rintro e w' ⟨rfl, rfl⟩)
  have B0 := Boxed.new w 23 (.int .u64 x)
  have B1 := Boxed.new (w.alloc (.cells #[.int .u64 x] 23)) 9 (.string ⟨#[]⟩)
  have B2 := Boxed.new ((w.alloc (.cells #[.int .u64 x] 23)).alloc (.cells #[.string ⟨#[]⟩] 9)) 3 (.int .i64 (-1))
  have B3 := Boxed.new (((w.alloc (.cells #[.int .u64 x] 23)).alloc (.cells #[.string ⟨#[]⟩] 9)).alloc (.cells #[.int .i64 (-1)] 3)) 23 (.int .u64 x)
  have hB0 : Below w.heap.size w ((((w.alloc (.cells #[.int .u64 x] 23)).alloc (.cells #[.string ⟨#[]⟩] 9)).alloc (.cells #[.int .i64 (-1)] 3)).alloc (.cells #[.int .u64 x] 23)) :=
    ((((Below.refl _ w).alloc (Nat.le_refl _) _).alloc (by simp) _).alloc (by simp; omega) _).alloc (by simp; omega) _
  simp only [World.size_alloc] at B1 B2 B3
  refine wpIn_rangeFunc_ownF rfl (by omega) (gf := 44) (lb := #[.pointer (some ⟨w.heap.size + 1 + 1 + 1, 0, none⟩)]) rfl trivial (enters_of Tryd.func44 (by kernel_rfl) rfl)
    (all_stops (6 - 1) (by omega) (w.heap.size + 1 + 1 + 1) w.heap.size x hx _ (by simp) (by simp; omega) hg B3.cell (tab_below hT hg hB0)) belowK_t (belowK_b (by simp; omega)) (Below.refl _ _) (fun _ => rfl)
    (fun pre W => (Boxed W w.heap.size 23 (.int .u64 x) ∧ Boxed W (w.heap.size + 1) 9 (.string (str (stC x pre).1)) ∧ Boxed W (w.heap.size + 1 + 1) 3 (.int .i64 (stC x pre).2)) ∧ Below w.heap.size w W)
    (fun _ _ _ => False)
    (OwnFrom.and (OwnFrom.and ((boxed_own _ _ (fun _ => _)).from _) (OwnFrom.and ((boxed_own _ _ (fun pre => .string (str (stC x pre).1))).from _) ((boxed_own _ _ (fun pre => .int .i64 (stC x pre).2)).from _))) (ownFrom_below (Nat.le_refl _) (by simp; omega)))
    (fun _ _ _ _ _ hs _ _ => hs)
    ⟨⟨((B0.alloc _).alloc _).alloc _, (B1.alloc _).alloc _, B2.alloc _⟩, hB0⟩
    (fun k => { tmps := #[.int .u64 x, .pointer (some ⟨w.heap.size, 0, none⟩), .string ⟨#[]⟩, .pointer (some ⟨w.heap.size + 1, 0, none⟩), .pointer (some ⟨w.heap.size + 1 + 1, 0, none⟩), .int .i64 (k.val : Int), undef, .int .u64 x, .bool false, .int .u64 x, .func (.func 44) #[] #[.pointer (some ⟨w.heap.size + 1 + 1 + 1, 0, none⟩)], .int .i64 (k.val : Int), undef, undef, undef, undef, undef, undef, undef, undef, undef, undef, undef, undef, undef, undef, undef, undef, undef, undef, undef, undef, undef, undef, undef, undef, undef, undef, undef, undef, undef, undef, undef], defers := [] }) ?assign ?body ?done ?stop
  case assign =>
    intro l k W K hK
    gi_wp2
    exact hK
  case body =>
    rintro l pre k W ⟨⟨bs, bo, bn⟩, hB⟩ hlen
    have hst := stC_snoc x pre k
    obtain ⟨hol, hn1, hn2⟩ := stC_len x pre
    generalize stC x pre = st at *
    obtain ⟨o, nx⟩ := st
    obtain ⟨j, hj⟩ := k
    dsimp only at hst hol hn1 hn2 bs bo bn ⊢
    have HSt := Lib.hid hst
    clear hst
    have cs := bs.cell
    have co := bo.cell
    have cn := bn.cell
    by_cases hlt : (j : Int) < nx
    · have hd : decide ((j : Int) < nx) = true := decide_eq_true hlt
      have hs : stepC x (o, nx) j = (o, nx) := by unfold stepC; rw [if_pos hlt]
      gi_wp2
      exact ⟨KeepsOthers.refl _, Below.refl _ _, by rw [HSt.out, hs]; exact ⟨bs, bo, bn⟩, hB⟩
    · have hd : decide ((j : Int) < nx) = false := decide_eq_false hlt
      obtain ⟨o1, ho1⟩ : ∃ o1, (if o = [] then o else o ++ [44]) = o1 := ⟨_, rfl⟩
      have ho1l : o1.length ≤ 400 := by rw [← ho1]; split <;> first | omega | (simp; omega)
      obtain ⟨be, hbe⟩ : ∃ be, (!o.isEmpty) = be := ⟨_, rfl⟩
      gi_upto_region 8 with fail
      gi_cut [16] from 12 (fun s16 wx => s16 = .bool be ∧ W = wx)
      case first =>
        gi_wp2
        gi_meet
        exact ⟨by rw [str_empty, hbe], rfl⟩
      case rest =>
      obtain ⟨rfl, rfl⟩ := hcut
      gi_upto_if 16 with fail
      gi_cut [] from 12 (fun wx => Boxed wx w.heap.size 23 (.int .u64 x) ∧ Boxed wx (w.heap.size + 1) 9 (.string (str o1)) ∧ Boxed wx (w.heap.size + 1 + 1) 3 (.int .i64 nx) ∧ KeepsOthers W wx ∧ Below w.heap.size W wx)
      case first =>
        by_cases he : o = []
        · obtain rfl : be = false := by rw [← hbe, he]; rfl
          rw [if_pos he] at ho1
          subst ho1
          clear he hbe
          gi_wp2
          gi_meet
          exact ⟨bs, bo, bn, KeepsOthers.refl _, Below.refl _ _⟩
        · obtain rfl : be = true := by rw [← hbe]; cases o with | nil => exact absurd rfl he | cons a l => rfl
          rw [if_neg he] at ho1
          have ha := fun W' => add_str o [44] (by simp; omega) W'
          rw [ho1] at ha
          rw [show str [44] = { data := #[44] } from rfl] at ha
          have cf := bo.frozen
          clear he ho1 hbe
          gi_wp2
          gi_meet
          exact ⟨bs.other (by simp) _, bo.set _, bn.other (by simp) _, KeepsOthers.setCell _ _ _, (Below.refl _ _).setCell (by simp) _⟩
      case rest =>
        obtain ⟨bs1, bo1, bn1, hK1, hB1⟩ := hcut
        obtain ⟨W1, rfl⟩ : ∃ W1, W1 = wc := ⟨_, rfl⟩
        clear cs co cn bs bo bn
        obtain ⟨o2, ho2⟩ : ∃ o2, o1 ++ dgl j = o2 := ⟨_, rfl⟩
        have ho2l : o2.length ≤ 402 := by rw [← ho2, List.length_append]; have := dgl_len j; omega
        have ha := fun W' => add_str o1 (dgl j) (by have := dgl_len j; omega) W'
        rw [ho2] at ha
        have HO2 := Lib.hid ho2
        clear ho2
        have CD := Lib.hid (fun W' => digits_any j (by omega) W')
        rw [show dg j = str (dgl j) from rfl] at CD
        generalize str (dgl j) = dj at *
        gi_upto_region 10 with fail
        gi_cut [] from 12 (fun wx => Boxed wx w.heap.size 23 (.int .u64 x) ∧ Boxed wx (w.heap.size + 1) 9 (.string (str o2)) ∧ Boxed wx (w.heap.size + 1 + 1) 3 (.int .i64 nx) ∧ KeepsOthers W wx ∧ Below w.heap.size W wx)
        case first =>
          have c1 := bo1.cell
          have hmx : Tryd.prog.follows .mixedOrders = true := by kernel_rfl
          gi_region_with_o (refine ⟨trivial, ?_⟩; gi_at_call 42; refine (CallsIn.inRound l (callsIn_wide.2 (CD.out _))).mono ?_; rintro e w' ⟨rfl, hb0⟩; have hb : Below W1.heap.size W1 w' := ⟨hb0.os, hb0.tape, hb0.output, hb0.size, hb0.block⟩; have bs2 := Boxed.after hb bs1; have bo2 := Boxed.after hb bo1; have bn2 := Boxed.after hb bn1; have c2 := bo2.cell; have f2 := bo2.frozen)
          all_goals (gi_wp2_with fail; gi_meet; exact ⟨bs2.other (by simp) _, bo2.set _, bn2.other (by simp) _, hK1.trans ((keepsO_below hb).trans (KeepsOthers.setCell _ _ _)), (hB1.trans (hb.mono (hB.trans hB1).size)).setCell (by simp) _⟩)
        case rest =>
          obtain ⟨bs2, bo2, bn2, hK2, hB2⟩ := hcut
          obtain ⟨W2, rfl⟩ : ∃ W2, W2 = wc := ⟨_, rfl⟩
          clear bs1 bo1 bn1 hK1 hB1 ha CD
          have hsz : w.heap.size ≤ W2.heap.size := (hB.trans hB2).size
          have cs2 := bs2.cell
          gi_wp2
          gi_loop [6] (fun s6 => ∃ e : Nat, e ≤ 63 ∧ s6 = .int .i64 e ∧ Hid (j ≤ e ∧ runE x e = runE x j)) (fun s6 => 64 - (intOf s6).toNat)
          case atStart => exact ⟨j, by omega, rfl, Lib.hid ⟨Nat.le_refl _, rfl⟩⟩
          case round =>
            obtain ⟨e, he, rfl, HE⟩ := hrel
            have c19 := fun W' => has_any x ((e : Int) + 1) hx W'
            by_cases hb : has x ((e : Int) + 1) = true
            · have he2 : e < 63 := by
                refine Nat.lt_of_le_of_ne he fun h => ?_
                subst h
                rw [show has x (((63 : Nat) : Int) + 1) = false by unfold has bitN; simp] at hb
                cases hb
              have hr : runE x (e + 1) = runE x j := by
                rw [← HE.out.2, runE_step x (show e < 64 by omega), if_pos (by exact hb)]
              have HR := Lib.hid (And.intro (show j ≤ e + 1 by have := HE.out.1; omega) hr)
              rw [hb] at c19
              have C := Lib.hid c19
              clear hr hb c19
              gi_wp2_with (refine ⟨trivial, ?_⟩; gi_at_call 19; refine (CallsIn.inRound l (callsIn_wide.2 (C.out _))).mono ?_; rintro e w' ⟨rfl, rfl⟩)
              go_round
              case rel => exact ⟨e + 1, by omega, by go_num, HR⟩
              case measure => simp [intOf]; omega
            · have hb' : has x ((e : Int) + 1) = false := by simpa using hb
              have hr : e = runE x j := by
                rw [← HE.out.2, runE_step x (show e < 64 by omega), if_neg (by exact hb)]
              rw [hb'] at c19
              have C := Lib.hid c19
              have hje := HE.out.1
              have HR := Lib.hid hr
              clear hr hb c19 hb'
              by_cases h3 : 3 ≤ e + 1 - j
              · have hd3 : decide ((3 : Int) ≤ (e : Int) - j + 1) = true := decide_eq_true (by omega)
                obtain ⟨o3, ho3⟩ : ∃ o3, o2 ++ 45 :: dgl e = o3 := ⟨_, rfl⟩
                have ha := fun W' => add_str [45] (dgl e) (by have := dgl_len e; simp; omega) W'
                have ha2 := fun W' => add_str o2 ([45] ++ dgl e) (by have := dgl_len e; simp; omega) W'
                rw [show o2 ++ ([45] ++ dgl e) = o3 from ho3] at ha2
                rw [show str [45] = { data := #[45] } from rfl] at ha
                have CD := Lib.hid (fun W' => digits_any e (by omega) W')
                rw [show dg e = str (dgl e) from rfl] at CD
                have HO3 := Lib.hid ho3
                generalize str ([45] ++ dgl e) = dk at *
                generalize str (dgl e) = dj at *
                have c2 := bo2.cell
                have cn2 := bn2.cell
                have fn2 := bn2.frozen
                have hmx : Tryd.prog.follows .mixedOrders = true := by kernel_rfl
                clear ho3
                have hs : stepC x (o, nx) j = (o3, (e : Int) + 1) := by
                  unfold stepC
                  rw [if_neg (show ¬ (j : Int) < nx by omega), ← HR.out, if_pos h3]
                  dsimp only
                  rw [ho1, HO2.out, HO3.out]
                have HS := Lib.hid hs
                clear hs
                gi_wp2_with (refine ⟨trivial, ?_⟩; gi_at_call 19; refine (CallsIn.inRound l (callsIn_wide.2 (C.out _))).mono ?_; rintro e w' ⟨rfl, rfl⟩)
                gi_region_with_o (refine ⟨trivial, ?_⟩; gi_at_call 42; refine (CallsIn.inRound l (callsIn_wide.2 (CD.out _))).mono ?_; rintro e w' ⟨rfl, hb0⟩; have hb : Below W2.heap.size W2 w' := ⟨hb0.os, hb0.tape, hb0.output, hb0.size, hb0.block⟩; have bs3 := Boxed.after hb bs2; have bo3 := Boxed.after hb bo2; have bn3 := Boxed.after hb bn2; have c3 := bo3.cell; have f3 := bo3.frozen; have g3 := bn3.cell; have h4 := bn3.frozen)
                all_goals gi_wp2
                all_goals exact ⟨hK2.trans ((keepsO_below hb).trans ((KeepsOthers.setCell _ _ _).trans (KeepsOthers.setCell _ _ _))), ((hB2.trans (hb.mono hsz)).setCell (by simp) _).setCell (by simp; omega) _, by dsimp only; rw [HSt.out, HS.out]; exact ⟨⟨(bs3.other (by simp) _).other (by simp; omega) _, (bo3.set _).other (by simp) _, (bn3.other (by simp) _).set _⟩, (hB.trans ((hB2.trans (hb.mono hsz)).setCell (by simp) _)).setCell (by simp; omega) _⟩⟩
              · have hd3 : decide ((3 : Int) ≤ (e : Int) - j + 1) = false := decide_eq_false (by omega)
                gi_wp2_with (refine ⟨trivial, ?_⟩; gi_at_call 19; refine (CallsIn.inRound l (callsIn_wide.2 (C.out _))).mono ?_; rintro e w' ⟨rfl, rfl⟩)
                have hs : stepC x (o, nx) j = (o2, nx) := by
                  unfold stepC
                  rw [if_neg (show ¬ (j : Int) < nx by omega), ← HR.out, if_neg h3]
                  dsimp only
                  rw [ho1, HO2.out]
                exact ⟨hK2, hB2, by dsimp only; rw [HSt.out, hs]; exact ⟨⟨bs2, bo2, bn2⟩, hB.trans hB2⟩⟩
  case done =>
    rintro D ys W hD rfl ⟨⟨bs, bo, bn⟩, hB⟩ hK
    have co := bo.cell
    gi_wp2
    refine ⟨by simp, .inl ⟨_, _, rfl, run_takeDeferred hK, ?_⟩⟩
    exact ⟨_, results_tmp rfl _ _ _, by unfold textC; rw [if_neg h0]; rfl, hB.trans (belowK_b (w := w) (Nat.le_refl _) W D _ _ (by simp at hD; omega) hK rfl rfl)⟩
  case stop =>
    rintro D c pre W _ _ h _
    exact h.elim
end Go.Proofs.YtlecgedmdaenaaaDoor.Bits
