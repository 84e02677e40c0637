/- The walk of the law DiskKeeps. -/
import Derived.Test.YtlecgedmdaenaaaKeepsInv
import Derived.Deep.CutBlock
namespace Go.Proofs.Ytlecgedmdaenaaa.Disk
open Go.RowKit Go.Proofs.Ytlecgedmdaenaaa.K

theorem take_take_len (l : List UInt8) (m : Nat) : l.take (l.take m).length = l.take m := by
  rw [List.length_take]
  rcases Nat.le_total m l.length with h | h
  · rw [Nat.min_eq_left h]
  · rw [Nat.min_eq_right h, List.take_length, List.take_of_length_le h]
set_option maxHeartbeats 8000000 in
set_option maxRecDepth 100000 in
theorem keeps_any (f : Int) (A : Option Addr) (c : Nat) (bs0 : List UInt8) (L : Option Addr) (cL : Nat) (acts : List Act1) (w : World) (hH : HoldsB w A bs0) (hA : A = none → c = 0) (hc : bs0.length ≤ c) (hL : HoldsA w L acts) (hok : ∀ a ∈ acts, a.Ok w) :
    Calls Try.prog 4 #[.int .i64 f, .slice A bs0.length c, .slice L acts.length cL] w fun e w' => e = .returned (.bool true) ∧ Below w.heap.size w w' := by
  obtain ⟨g, hg, hfg⟩ := and3 f
  obtain ⟨bs, hbs⟩ : ∃ bs, bs0.take 500 = bs := ⟨_, rfl⟩
  obtain ⟨n, hn⟩ : ∃ n, bs.length = n := ⟨_, rfl⟩
  have hb500 : bs.length ≤ 500 := by rw [← hbs, List.length_take]; omega
  have hnl : (500 < bs0.length → n = 500) ∧ (bs0.length ≤ 500 → n = bs0.length) := by rw [← hn, ← hbs, List.length_take]; omega
  have hHb : HoldsB w A bs := by rw [← hbs]; exact hH.take 500
  have hAn : A = none → bs0.length = 0 ∧ n = 0 := fun e => by have := hA e; omega
  have C10 := Lib.hid (fun w1 (h : At w1 w.heap.size w.heap.size (fun _ => .slice none 0 0) initS ∧ Below w.heap.size w w1 ∧ w1.heap.size = w.heap.size + 1) => show Calls Try.prog 10 #[.pointer (some ⟨w.heap.size, 0, none⟩), .int .i64 g, .slice A n c] w1 (fun e w2 => e = .returned (.int .i64 0) ∧ ∃ v', At0 w2 w.heap.size w.heap.size v' { initS with b := upd initS.b g bs } ∧ Below w.heap.size w w2) from by
    obtain ⟨h1, h2, h3⟩ := h
    have := append_any g bs A c w.heap.size w.heap.size (fun _ => .slice none 0 0) initS w1 h2.size h1 (by omega) (hHb.keep h2) hA (fun b off he hne => by
      rcases hHb with h | ⟨b', off', he', hlt, _⟩
      · exact absurd h hne
      · rw [he] at he'; cases he'; omega)
    rw [(keepS_eq g hg bs hb500).1, hn] at this
    refine this.mono ?_
    rintro e w2 ⟨rfl, v', ha, ht⟩
    exact ⟨rfl, v', ha, h2.trans ht.below⟩)
  have C12 := Lib.hid (fun w2 v' (h : At0 w2 w.heap.size w.heap.size v' { initS with b := upd initS.b g bs } ∧ Below w.heap.size w w2) => show Calls Try.prog 12 #[.pointer (some ⟨w.heap.size, 0, none⟩), .int .i64 g] w2 (fun e w3 => e = .returned (.int .i64 0) ∧ ∃ v', At w3 w.heap.size w.heap.size v' { initS with b := upd initS.b g bs, s := upd initS.s g bs.length } ∧ Below w.heap.size w w3) from by
    have ok := callP_ok (what := 0) (f := g) (bs := bs) initS_ok
    rw [(keepS_eq g hg bs hb500).1] at ok
    have := sync_any g w.heap.size w.heap.size v' _ w2 h.2.size (h.1.to ok)
    rw [(keepS_eq g hg bs hb500).2] at this
    refine this.mono ?_
    rintro e w3 ⟨rfl, v3, ha, ht⟩
    exact ⟨rfl, v3, ha.to (keepS_pref g hg bs hb500).ok, h.2.trans ht.below⟩)
  have C7 := Lib.hid (new_any w)
  have C20 := Lib.hid (fun w3 v' (h : At w3 w.heap.size w.heap.size v' { initS with b := upd initS.b g bs, s := upd initS.s g bs.length } ∧ Below w.heap.size w w3) => (clone20_any w.heap.size w.heap.size v' _ w3 h.1).mono (fun e wc (hh : e = .returned (.pointer (some ⟨w3.heap.size, 0, none⟩)) ∧ (∃ v2, At wc w3.heap.size w3.heap.size v2 _) ∧ Below w3.heap.size w3 wc) => show e = .returned (.pointer (some ⟨w3.heap.size, 0, none⟩)) ∧ (∃ v2, At wc w3.heap.size w3.heap.size v2 { initS with b := upd initS.b g bs, s := upd initS.s g bs.length }) ∧ Inv w g bs wc w3.heap.size wc v' { initS with b := upd initS.b g bs, s := upd initS.s g bs.length } from ⟨hh.1, hh.2.1, ⟨h.1.to0.later hh.2.2, keepS_pref g hg bs hb500, ⟨Nat.le_refl _, fun _ _ _ => rfl, fun k h1 _ => ⟨fun e => by have := h.1.blk.lt; omega, fun i hi e => by have := (World.ownsRow.lt (h.1.own i hi) k e).2; omega⟩⟩, h.2.trans (hh.2.2.mono h.2.size)⟩⟩))
  have HN := Lib.hid hnl
  have HX := Lib.hid (And.intro hbs (And.intro hHb (And.intro hA (And.intro hn (And.intro hL hok)))))
  have hc' : n ≤ c := by rw [← hn, ← hbs, List.length_take]; omega
  have HAN := Lib.hid hAn
  obtain ⟨len, hlen⟩ : ∃ len, bs0.length = len := ⟨_, rfl⟩
  obtain ⟨la, hla⟩ : ∃ la, acts.length = la := ⟨_, rfl⟩
  have HLA := Lib.hid hla
  rw [hlen] at hc HN HAN ⊢
  rw [hla]
  clear hnl hbs hHb hA hn hL hok hH hAn hla hlen hb500
  have bl : decide ((500 : Int) < (len : Int)) = decide (500 < len) := by rw [decide_eq_decide]; omega
  go_enter Try.func4, Try.ntmps4
  go_upto_if 23 with fail
  go_cut [1] (fun s1 wx => s1 = .slice A n c ∧ w = wx)
  case first =>
    clear bl
    by_cases h6 : 500 < len
    · cases A with
      | none => have := (HAN.out rfl).1; omega
      | some a =>
        obtain rfl : n = 500 := HN.out.1 h6
        go_wp2_with fail
        go_meet
        exact ⟨rfl, rfl⟩
    · obtain rfl : n = len := HN.out.2 (by omega)
      go_wp2_with fail
      go_meet
      exact ⟨rfl, rfl⟩
  case rest =>
    obtain ⟨rfl, rfl⟩ := hcut
    clear bl HN
    go_wp2_with (first | (go_at_call 7; (with_reducible refine Calls.mono C7.out ?_); rintro e w1 ⟨rfl, h1⟩; have H1 := Lib.hid h1; clear h1) | (go_at_call 10; (with_reducible refine Calls.mono (C10.out _ H1.out) ?_); rintro e w2 ⟨rfl, v2, h2⟩; have H2 := Lib.hid h2; clear h2) | (go_at_call 12; (with_reducible refine Calls.mono (C12.out _ _ H2.out) ?_); rintro e w3 ⟨rfl, v3, h3⟩; have H3 := Lib.hid h3; clear h3) | (go_at_call 20; (with_reducible refine Calls.mono (C20.out _ _ H3.out) ?_); rintro e wk ⟨rfl, h4, h5⟩; have H4 := Lib.hid h4; have H5 := Lib.hid h5; clear h4 h5))
    clear H1 H2 H3 C7 C10 C12 C20
    go_loopw [9] (fun i wr => ∃ k : Nat, k ≤ 40 ∧ k ≤ la ∧ i = .int .i64 k ∧ Hid (∃ v sd, Inv w g bs wk w3.heap.size wr v sd)) (fun i _ => 40 - (intOf i).toNat)
    case atStart => exact ⟨0, by omega, by omega, rfl, Lib.hid ⟨_, _, H5.out⟩⟩
    case round =>
      obtain ⟨k, hk, hkl, rfl, HI⟩ := hrel
      obtain ⟨v, sd, hI⟩ := HI.out
      have HI := Lib.hid hI
      clear hI
      by_cases hlt : k < la ∧ k < 40
      · have hd1 : decide ((k : Int) < (la : Int)) = true := decide_eq_true (by omega)
        have hd2 : decide ((k : Int) < 40) = true := decide_eq_true (by omega)
        have hkk : k < acts.length := by rw [HLA.out]; exact hlt.1
        obtain ⟨hbs, hHb, hA, hn, hL, hok⟩ := HX.out
        have haok := hok acts[k] (List.getElem_mem hkk)
        rcases hL with h | ⟨lb, off, hLe, hlb, hc0⟩
        · rw [h] at hkk; simp at hkk
        have hcl := fun j (hj : j < 8) => (HI.out.below.cell (p := ⟨lb, off + k * 8 + j, none⟩) hlb).trans (hc0 k hkk j hj)
        generalize acts[k] = a at *
        obtain ⟨kd, af, an, aA, ac, abs, ak⟩ := a
        obtain ⟨al, hal⟩ : ∃ al, abs.length = al := ⟨_, rfl⟩
        have c0 := hcl 0 (by omega)
        have c1 := hcl 1 (by omega)
        have c2 := hcl 2 (by omega)
        have c3 := hcl 3 (by omega)
        have c4 := hcl 4 (by omega)
        have c5 := hcl 5 (by omega)
        have c6 := hcl 6 (by omega)
        have c7 := hcl 7 (by omega)
        simp [Act1.cells] at c0 c1 c2 c3 c4 c5 c6 c7
        rw [hal] at c3
        have HAL := Lib.hid hal
        have HAO := Lib.hid haok
        subst hLe
        have hlt1 := hlt.1
        have hlt2 := hlt.2
        clear hc0 hcl hbs hHb hA hn hok haok hal hlt
        by_cases hbig : 200 < al
        · have hd3 : decide ((200 : Int) < (al : Int)) = true := decide_eq_true (by omega)
          go_wp2_with fail
          refine ⟨⟨k + 1, by omega, by omega, by first | rfl | go_num, Lib.hid ⟨v, sd, HI.out.later ((Below.refl _ _).alloc (Nat.le_refl _) _)⟩⟩, ?_⟩
          simp [intOf]; omega
        · have hd3 : decide ((200 : Int) < (al : Int)) = false := decide_eq_false (by omega)
          have hIa := HI.out.later (w' := wr.alloc (.cells #[.int .i64 kd, .int .i64 af, .int .i64 an, .slice aA al ac, .int .i64 (ak 0), .int .i64 (ak 1), .int .i64 (ak 2), .int .i64 (ak 3)] 32)) ((Below.refl _ _).alloc (Nat.le_refl _) _)
          have C21 := Lib.hid (read_any g w.heap.size w.heap.size v sd _ hIa.at)
          have HIA := Lib.hid hIa
          have HBX := Lib.hid (Blk.new wr #[.int .i64 kd, .int .i64 af, .int .i64 an, .slice aA al ac, .int .i64 (ak 0), .int .i64 (ak 1), .int .i64 (ak 2), .int .i64 (ak 3)] 32)
          obtain ⟨e0, he0⟩ : ∃ e0, (readP sd.down g sd.b).2 = e0 := ⟨_, rfl⟩
          obtain ⟨l0, hl0⟩ : ∃ l0, (readP sd.down g sd.b).1 = l0 := ⟨_, rfl⟩
          have HR := Lib.hid (And.intro he0 hl0)
          rw [he0, hl0] at C21
          clear hIa he0 hl0 hbig
          go_upto_block 2 with (go_at_call 21; (with_reducible refine Calls.mono C21.out ?_); rintro e wq ⟨x, rfl, ho, hb⟩; obtain ⟨A0, c0', rfl, hH0, hc0', hA0⟩ := ho.read; have HQ := Lib.hid (And.intro (HIA.out.later hb) (And.intro ho (And.intro hc0' (And.intro hA0 (Sep.fresh HIA.out.at0 hb))))); have q0 : wq.cell? ⟨wr.heap.size, 0, none⟩ = some (.int .i64 kd) := (HBX.out.after hb).cell 0; have q1 : wq.cell? ⟨wr.heap.size, 1, none⟩ = some (.int .i64 af) := (HBX.out.after hb).cell 1; have q2 : wq.cell? ⟨wr.heap.size, 2, none⟩ = some (.int .i64 an) := (HBX.out.after hb).cell 2; have q3 : wq.cell? ⟨wr.heap.size, 3, none⟩ = some (.slice aA al ac) := (HBX.out.after hb).cell 3; have q4 : wq.cell? ⟨wr.heap.size, 4, none⟩ = some (.int .i64 (ak 0)) := (HBX.out.after hb).cell 4; have q5 : wq.cell? ⟨wr.heap.size, 5, none⟩ = some (.int .i64 (ak 1)) := (HBX.out.after hb).cell 5; have q6 : wq.cell? ⟨wr.heap.size, 6, none⟩ = some (.int .i64 (ak 2)) := (HBX.out.after hb).cell 6; have q7 : wq.cell? ⟨wr.heap.size, 7, none⟩ = some (.int .i64 (ak 3)) := (HBX.out.after hb).cell 7; clear ho hb hH0 hc0' hA0)
          obtain ⟨n0, hn0⟩ : ∃ n0, l0.length = n0 := ⟨_, rfl⟩
          have HN0 := Lib.hid hn0
          have HXX := HX
          rw [hn0]
          clear hn0
          go_cut [] (fun wx => Hid (∃ v' sd', Inv w g bs wk w3.heap.size wx v' sd'))
          case first =>
            obtain ⟨hq, ho0, hc0', hA0, hsep⟩ := HQ.out
            have hak := HAO.out
            have hD : ∀ b off, aA = some ⟨b, off, none⟩ → abs ≠ [] → b ≠ w.heap.size := fun b off he hne => by
              rcases hak.bytes with h | ⟨b', off', he', hlt', _⟩
              · exact absurd h hne
              · have he' : aA = _ := he'
                rw [he] at he'; cases he'; have hlt' : b < w.heap.size := hlt'; omega
            by_cases h0 : kd = 0
            · subst h0
              have c10 := append_any af abs aA ac w.heap.size w.heap.size v sd wq hq.below.size hq.at (by have := HAL.out; have := of_decide_eq_false hd3; omega) (hak.bytes.keep hq.below) hak.nil hD
              rw [HAL.out] at c10
              have C10 := Lib.hid c10
              have HQ := Lib.hid hq
              clear c10 hq ho0 hc0' hA0 hsep hak hD
              go_wp2_with (go_at_call 10; (with_reducible refine Calls.mono C10.out ?_); rintro e wz ⟨rfl, v', ha, ht⟩; have HZ := Lib.hid (HQ.out.turn ha ht (HQ.out.pref.call hg 0 af abs (.inl (by omega)))); clear ha ht)
              go_meet
              exact Lib.hid ⟨_, _, HZ.out⟩
            · have b0 : (kd == 0) = false := beq_eq_false_iff_ne.mpr h0
              by_cases h1 : kd = 1
              · subst h1
                have C12 := Lib.hid (sync_any af w.heap.size w.heap.size v sd wq hq.below.size hq.at)
                have HQ := Lib.hid hq
                clear hq ho0 hc0' hA0 hsep hak hD
                go_wp2_with (go_at_call 12; (with_reducible refine Calls.mono C12.out ?_); rintro e wz ⟨rfl, v', ha, ht⟩; have HZ := Lib.hid (HQ.out.turn ha ht (HQ.out.pref.call hg 1 af [] (.inl (by omega)))); clear ha ht)
                go_meet
                exact Lib.hid ⟨_, _, HZ.out⟩
              · have b1 : (kd == 1) = false := beq_eq_false_iff_ne.mpr h1
                by_cases h2 : kd = 2
                · subst h2
                  by_cases hne : af = g
                  · have bb : (af != (g : Int)) = false := by simp [hne]
                    have HQ := Lib.hid hq
                    clear hq ho0 hc0' hA0 hsep hak hD
                    go_wp2_with fail
                    go_meet
                    exact Lib.hid ⟨_, _, HQ.out⟩
                  · have bb : (af != (g : Int)) = true := by simp [hne]
                    have C14 := Lib.hid (reset_any af w.heap.size w.heap.size v sd wq hq.below.size hq.at)
                    have HQ := Lib.hid hq
                    clear hq ho0 hc0' hA0 hsep hak hD
                    go_wp2_with (go_at_call 14; (with_reducible refine Calls.mono C14.out ?_); rintro e wz ⟨rfl, v', ha, ht⟩; have HZ := Lib.hid (HQ.out.turn ha ht (HQ.out.pref.call hg 2 af [] (.inr hne))); clear ha ht)
                    go_meet
                    exact Lib.hid ⟨_, _, HZ.out⟩
                · have b2 : (kd == 2) = false := beq_eq_false_iff_ne.mpr h2
                  by_cases h3 : kd = 3
                  · subst h3
                    have c15 := arm_any w.heap.size an _ wq (hq.at0.blk.cell 0) (hq.at0.blk.cell 9) (hq.at0.blk.frozen 9)
                    obtain ⟨nl, hnl⟩ : ∃ nl, (if -1 < an then an else -1) = nl := ⟨_, rfl⟩
                    rw [hnl] at c15
                    have C15 := Lib.hid c15
                    have HZ := Lib.hid (hq.turn (hq.at0.setLeft nl) (hq.at0.turnD 9 _) (hq.pref.left (by have := hak.n; unfold InI at this; dsimp only at this; rw [← hnl]; split <;> omega)))
                    clear c15 hnl hq ho0 hc0' hA0 hsep hak hD
                    go_wp2_with (go_at_call 15; (with_reducible refine Calls.mono C15.out ?_); rintro e wz ⟨⟨r, rfl⟩, rfl⟩)
                    go_meet
                    exact Lib.hid ⟨_, _, HZ.out⟩
                  · have b3 : (kd == 3) = false := beq_eq_false_iff_ne.mpr h3
                    by_cases h4 : kd = 4
                    · subst h4
                      have C16 := Lib.hid (fall_any ak w.heap.size w.heap.size v sd wq hq.below.size hq.at (fun i => ⟨(hak.k i).2, (hak.k i).1⟩))
                      obtain ⟨now, hnow⟩ : ∃ now, (sd.b g).take (keepN (ak g) (sd.b g).length (sd.s g)) = now := ⟨_, rfl⟩
                      obtain ⟨n1, hn1⟩ : ∃ n1, now.length = n1 := ⟨_, rfl⟩
                      have hrd : readP (fallP ak sd).down g (fallP ak sd).b = (now, 0) := by
                        unfold readP
                        rw [if_pos (may_eq (by simp [fallP]; omega)), Int.toNat_natCast, fallP_b ak sd g hg, hnow]
                      have hl0 : e0 = 0 → l0 = sd.b g := fun he => by
                        obtain ⟨r1, r2⟩ := HR.out
                        unfold readP at r1 r2
                        split at r1
                        · rename_i hm
                          rw [if_pos hm] at r2
                          rw [← r2, Int.toNat_natCast]
                        · rename_i hm
                          exact absurd (r1.trans he) hm
                      have hnl : e0 = 0 → n1 ≤ n0 := fun he => by
                        rw [← hn1, ← hnow, ← HN0.out, hl0 he, List.length_take]; omega
                      have C21 := Lib.hid (fun wz v' (h : Inv w g bs wk w3.heap.size wz v' (fallP ak sd) ∧ Sep wz w.heap.size v' wq (wr.alloc (.cells #[.int .i64 4, .int .i64 af, .int .i64 an, .slice aA al ac, .int .i64 (ak 0), .int .i64 (ak 1), .int .i64 (ak 2), .int .i64 (ak 3)] 32)).heap.size) => show Calls Try.prog 21 #[.pointer (some ⟨w.heap.size, 0, none⟩), .int .i64 g] wz (fun e w5 => ∃ A1 c1, e = .returned (.tuple #[.slice A1 n1 c1, .int .i64 0]) ∧ (∀ j, (convert 30 9 (.slice A1 n1 c1)).run Try.prog (w5.drewN j) = .ok (.string (str now)) (w5.drewN j)) ∧ (e0 = 0 → ∀ j, (convert 30 9 (.slice A0 n1 c0')).run Try.prog (w5.drewN j) = .ok (.string (str now)) (w5.drewN j)) ∧ Inv w g bs wk w3.heap.size w5 v' (fallP ak sd)) from by
                        have := read_any g w.heap.size w.heap.size v' (fallP ak sd) wz h.1.at
                        rw [hrd] at this
                        dsimp only at this
                        refine this.mono ?_
                        rintro e w5 ⟨x, rfl, ho, hb⟩
                        obtain ⟨A1, c1, rfl, hH1, hc1, hA1⟩ := ho.read
                        have hz1 := fun j => str_of (w5.drewN j) A1 now c1 (hH1.keep (below_drewN (Below.refl _ _) j)) (fun e => by have := hA1 e; exact List.eq_nil_of_length_eq_zero (by omega))
                        rw [hn1] at hz1 ⊢
                        refine ⟨A1, c1, rfl, hz1, fun he => ?_, h.1.later hb⟩
                        have ho5 := (ho0.as (h.2.later hb).same).read
                        obtain ⟨A3, c3, e3, hH3, _, _⟩ := ho5
                        cases e3
                        have hH4 := hH3.take n1
                        have htk : l0.take n1 = now := by rw [hl0 he, ← hn1, ← hnow, take_take_len]
                        rw [htk] at hH4
                        have := fun j => str_of (w5.drewN j) A0 now c0' (hH4.keep (below_drewN (Below.refl _ _) j)) (fun e => by have := hA0 e; exact List.eq_nil_of_length_eq_zero (by have := hnl he; have := HN0.out; omega))
                        rw [hn1] at this
                        exact this)
                      have HQI := Lib.hid hq
                      have HSP := Lib.hid hsep
                      have hc0n : n0 ≤ c0' := by have := HN0.out; omega
                      have hA0n : A0 = none → n0 = 0 ∧ c0' = 0 := fun e => by have := hA0 e; omega
                      by_cases he : e0 = 0
                      · have hn10 := hnl he
                        have hd6 : decide ((n0 : Int) < (n1 : Int)) = false := decide_eq_false (by omega)
                        subst he
                        clear hq ho0 hc0' hA0 hsep hak hD hnow hn1 hrd hl0 hnl
                        cases A0 with
                        | none =>
                          obtain ⟨rfl, rfl⟩ := hA0n rfl
                          obtain rfl : n1 = 0 := by omega
                          clear hA0n
                          go_upto_region 27 with (first | (go_at_call 16; (with_reducible refine Calls.mono C16.out ?_); rintro e wz ⟨⟨r, rfl⟩, v', ha, ht⟩; have HZ := Lib.hid (And.intro (HQI.out.turn ha ht (HQI.out.pref.fall hg ak)) (HSP.out.turn ht)); clear ha ht) | (go_at_call 21; (with_reducible refine Calls.mono (C21.out _ _ HZ.out) ?_); rintro e w5 ⟨A1, c1, rfl, hcv1, hcv2, hi5⟩; have HI5 := Lib.hid hi5; clear hi5))
                          replace hcv2 := hcv2 trivial
                          go_quiet (fail)
                          go_wp2_with fail
                          go_meet
                          exact Lib.hid ⟨_, _, HI5.out.later (below_drewN (Below.refl _ _) _)⟩
                        | some ad =>
                          have hn1c : n1 ≤ c0' := by omega
                          clear hA0n
                          go_upto_region 27 with (first | (go_at_call 16; (with_reducible refine Calls.mono C16.out ?_); rintro e wz ⟨⟨r, rfl⟩, v', ha, ht⟩; have HZ := Lib.hid (And.intro (HQI.out.turn ha ht (HQI.out.pref.fall hg ak)) (HSP.out.turn ht)); clear ha ht) | (go_at_call 21; (with_reducible refine Calls.mono (C21.out _ _ HZ.out) ?_); rintro e w5 ⟨A1, c1, rfl, hcv1, hcv2, hi5⟩; have HI5 := Lib.hid hi5; clear hi5))
                          replace hcv2 := hcv2 trivial
                          go_quiet (fail)
                          go_wp2_with fail
                          go_meet
                          exact Lib.hid ⟨_, _, HI5.out.later (below_drewN (Below.refl _ _) _)⟩
                      · have hb6 : (e0 == 0) = false := beq_eq_false_iff_ne.mpr he
                        clear hq ho0 hc0' hA0 hsep hak hD hnow hn1 hrd hl0 hnl hA0n
                        go_upto_region 27 with (first | (go_at_call 16; (with_reducible refine Calls.mono C16.out ?_); rintro e wz ⟨⟨r, rfl⟩, v', ha, ht⟩; have HZ := Lib.hid (And.intro (HQI.out.turn ha ht (HQI.out.pref.fall hg ak)) (HSP.out.turn ht)); clear ha ht) | (go_at_call 21; (with_reducible refine Calls.mono (C21.out _ _ HZ.out) ?_); rintro e w5 ⟨A1, c1, rfl, hcv1, hcv2, hi5⟩; have HI5 := Lib.hid hi5; clear hi5))
                        clear hcv2
                        go_quiet (fail)
                        go_wp2_with fail
                        go_meet
                        exact Lib.hid ⟨_, _, HI5.out.later (below_drewN (Below.refl _ _) _)⟩
                    · have b4 : (kd == 4) = false := beq_eq_false_iff_ne.mpr h4
                      have HQ := Lib.hid hq
                      clear hq ho0 hc0' hA0 hsep hak hD
                      go_wp2_with fail
                      go_meet
                      exact Lib.hid ⟨_, _, HQ.out⟩
          case rest =>
            obtain ⟨v', sd', hi⟩ := hcut.out
            obtain ⟨hbs, hHb, hA, hn, hL, hok⟩ := HX.out
            have hsp : safeP g sd' = ((sd'.b g).take (sd'.s g), 0) := by unfold safeP; rw [if_pos (by omega), Int.toNat_natCast]
            have C22 := Lib.hid (show Calls Try.prog 22 #[.pointer (some ⟨w.heap.size, 0, none⟩), .int .i64 g] wc (fun e w6 => ∃ A2 n2 c2, e = .returned (.tuple #[.slice A2 n2 c2, .int .i64 0]) ∧ n ≤ n2 ∧ n2 ≤ c2 ∧ (A2 = none → n2 = 0 ∧ c2 = 0) ∧ (∀ j, (convert 30 9 (.slice A2 n c2)).run Try.prog (w6.drewN j) = .ok (.string (str bs)) (w6.drewN j)) ∧ (∀ j, (convert 30 9 (.slice A n c)).run Try.prog (w6.drewN j) = .ok (.string (str bs)) (w6.drewN j)) ∧ Inv w g bs wk w3.heap.size w6 v' sd') from by
              have := safe_any g w.heap.size w.heap.size v' sd' wc hi.at
              rw [hsp] at this
              dsimp only at this
              refine this.mono ?_
              rintro e w6 ⟨x, rfl, ho, hb⟩
              obtain ⟨A2, c2, rfl, hH2, hc2, hA2⟩ := ho.read
              have hs2 : ((sd'.b g).take (sd'.s g)).length = sd'.s g := by rw [List.length_take]; have := hi.pref.ok.safe g hg; omega
              have hnn : n ≤ sd'.s g := by rw [← hn]; exact hi.pref.safe
              have htk : ((sd'.b g).take (sd'.s g)).take n = bs := by rw [List.take_take, Nat.min_eq_left hnn, ← hn]; exact hi.pref.beg
              have h1 := hH2.take n
              rw [htk] at h1
              have e1 := fun j => str_of (w6.drewN j) A2 bs c2 (h1.keep (below_drewN (Below.refl _ _) j)) (fun e => by have := hA2 e; exact List.eq_nil_of_length_eq_zero (by omega))
              have e2 := fun j => str_of (w6.drewN j) A bs c ((hHb.keep (hi.later hb).below).keep (below_drewN (Below.refl _ _) j)) (fun e => List.eq_nil_of_length_eq_zero (by have := HAN.out e; omega))
              rw [hn] at e1 e2
              rw [hs2] at hc2 ⊢
              exact ⟨A2, _, c2, rfl, hnn, hc2, fun e => by have := hA2 e; omega, e1, e2, hi.later hb⟩)
            clear hi hbs hHb hA hn hL hok hsp
            go_upto_region 30 with (go_at_call 22; (with_reducible refine Calls.mono C22.out ?_); rintro e w6 ⟨A2, n2, c2, rfl, hn2, hc2, hA2, hcv1, hcv2, hi6⟩; have HI6 := Lib.hid hi6; have hd7 : decide ((n2 : Int) < (n : Int)) = false := decide_eq_false (by omega); have hnc2 : n ≤ c2 := Nat.le_trans hn2 hc2; clear hi6)
            cases A2 with
            | none =>
              obtain ⟨rfl, rfl⟩ := hA2 rfl
              obtain rfl : n = 0 := by omega
              go_quiet (fail)
              go_wp2_with fail
              refine ⟨⟨k + 1, by omega, by omega, by first | rfl | go_num, Lib.hid ⟨_, _, HI6.out.later (below_drewN (Below.refl _ _) _)⟩⟩, ?_⟩
              simp [intOf]; omega
            | some ad =>
              clear hA2
              go_quiet (fail)
              go_wp2_with fail
              refine ⟨⟨k + 1, by omega, by omega, by first | rfl | go_num, Lib.hid ⟨_, _, HI6.out.later (below_drewN (Below.refl _ _) _)⟩⟩, ?_⟩
              simp [intOf]; omega
      · obtain ⟨hbs, hHb, hA, hn, hL, hok⟩ := HX.out
        have C19 := Lib.hid one_any
        have C21 := Lib.hid (show Calls Try.prog 21 #[.pointer (some ⟨w3.heap.size, 0, none⟩), .int .i64 g] wr (fun e w4 => ∃ A1 c1, e = .returned (.tuple #[.slice A1 n c1, .int .i64 0]) ∧ (convert 30 9 (.slice A1 n c1)).run Try.prog w4 = .ok (.string (str bs)) w4 ∧ (convert 30 9 (.slice A n c)).run Try.prog w4 = .ok (.string (str bs)) w4 ∧ Calls Try.prog 23 #[.pointer (some ⟨w3.heap.size, 0, none⟩)] w4 (fun e w' => e = .returned (.bool false) ∧ w4 = w') ∧ Below w.heap.size w w4) from by
          obtain ⟨v2, hc2⟩ := H4.out
          have hc3 := hc2.sep HI.out.sep
          have hrd : readP false g (upd initS.b g bs) = (bs, 0) := by unfold readP; rw [if_pos (may_eq (by simp; omega)), Int.toNat_natCast, upd_same]
          have := read_any g w3.heap.size w3.heap.size v2 _ wr hc3
          dsimp only at this
          rw [show initS.down = false from rfl, hrd] at this
          dsimp only at this
          refine this.mono ?_
          rintro e w4 ⟨x, rfl, ho, hb⟩
          obtain ⟨A1, c1, rfl, hH1, hc1, hA1⟩ := ho.read
          have e1 := str_of w4 A1 bs c1 hH1 (fun e => List.eq_nil_of_length_eq_zero (by have := hA1 e; omega))
          have hbw := HI.out.below.trans (hb.mono HI.out.below.size)
          have e2 := str_of w4 A bs c (hHb.keep hbw) (fun e => List.eq_nil_of_length_eq_zero (by have := HAN.out e; omega))
          rw [hn] at e1 e2 ⊢
          have ha4 := hc3.to0.later hb
          exact ⟨A1, c1, rfl, e1, e2, down_any w3.heap.size false w4 (ha4.blk.cell 0) (ha4.blk.cell 10), hbw⟩)
        clear hbs hHb hA hn hL hok
        have hx : ((str bs).toList == (str bs).toList) = true := beq_self_eq_true _
        by_cases hla : k < la
        · have hd1 : decide ((k : Int) < (la : Int)) = true := decide_eq_true (by omega)
          have hd2 : decide ((k : Int) < 40) = false := decide_eq_false (by omega)
          go_wp2_with (first | (go_at_call 21; (with_reducible refine Calls.mono C21.out ?_); rintro e w4 ⟨A1, c1, rfl, hcv1, hcv2, hdn, hb4⟩; have HDN := Lib.hid hdn; have HB4 := Lib.hid hb4; clear hdn hb4) | (go_at_call 23; (with_reducible refine Calls.mono HDN.out ?_); rintro e w' ⟨rfl, rfl⟩) | (go_at_call 19; (with_reducible refine Calls.mono (C19.out _) ?_); rintro e w8 ⟨rfl, hb8⟩; have HB8 := Lib.hid (HB4.out.trans (hb8.mono HB4.out.size)); clear hb8))
          go_ret
          exact ⟨rfl, HB8.out⟩
        · have hd1 : decide ((k : Int) < (la : Int)) = false := decide_eq_false (by omega)
          go_wp2_with (first | (go_at_call 21; (with_reducible refine Calls.mono C21.out ?_); rintro e w4 ⟨A1, c1, rfl, hcv1, hcv2, hdn, hb4⟩; have HDN := Lib.hid hdn; have HB4 := Lib.hid hb4; clear hdn hb4) | (go_at_call 23; (with_reducible refine Calls.mono HDN.out ?_); rintro e w' ⟨rfl, rfl⟩) | (go_at_call 19; (with_reducible refine Calls.mono (C19.out _) ?_); rintro e w8 ⟨rfl, hb8⟩; have HB8 := Lib.hid (HB4.out.trans (hb8.mono HB4.out.size)); clear hb8))
          go_ret
          exact ⟨rfl, HB8.out⟩
#print axioms keeps_any
end Go.Proofs.Ytlecgedmdaenaaa.Disk
