/-
  The law CoombsSum; what the laws of valid counts by the Coombs rule have in common.
-/
import Derived.Test.YtcmoekkaakkpjaaGreatSpecBs
import Derived.Test.YtcmoekkaakkpjaaGreatSpecRs
import Derived.Test.YtcmoekkaakkpjaaGreatW16c
import Derived.Test.YtcmoekkaakkpjaaGreatFlow2
import Derived.Deep.CutRange
namespace Go.Proofs.YtcmoekkaakkpjaaGreat
open Go.RowKit Go.Proofs Go.Shelf
attribute [local go_sem] cell?_more cell?_alloc_some cell?_setCell_far frozen?_alloc_some frozen?_more

theorem may16_any (c k : Int) (A : Option Addr) (n cp : Nat) (l : List Row) (At : Option Addr) (nt ct : Nat) (lot : List Int) (w : World) (h : RRows w A n cp l) (h' : RInts w At nt ct lot) :
    Calls Tryz.prog 38 #[.agg #[.int .i64 c, .int .u8 k, .slice A n cp], .slice At nt ct] w fun e w' => e = .returned (.bool (mayS c k l 1 1 1 lot == 0)) ∧ Below w.heap.size w w' := by
  have hb0 : Below w.heap.size w (w.alloc (.cells #[.int .i64 c, .int .u8 k, .slice A n cp] 24)) := below_allocN
  have hP0 := Has.new w 24 #[.int .i64 c, .int .u8 k, .slice A n cp]
  generalize hW : World.alloc w _ = W0 at hb0 hP0
  have p0 := hP0.cell 0
  have p1 := hP0.cell 1
  have p2 := hP0.cell 2
  go_enter Tryz.func38, Tryz.ntmps38
  go_wp2_with fail
  try simp only [hW]
  clear hW
  refine (may_any c k A n cp l 1 1 1 At nt ct lot W0 (h.below hb0) (h'.below hb0)).mono ?_
  rintro e w1 ⟨rfl, hb1⟩
  go_wp2
  go_ret
  exact ⟨rfl, Below_trans' hb0 hb0.size hb1⟩

set_option maxRecDepth 100000 in
set_option maxHeartbeats 4000000 in
theorem coombsSum_any (c k : Int) (A : Option Addr) (n cp : Nat) (l : List Row) (At : Option Addr) (nt ct : Nat) (lot : List Int) (w : World) (h : RRows w A n cp l) (hl : RInts w At nt ct lot) :
    Calls Tryz.prog 11 #[.agg #[.int .i64 c, .int .u8 k, .slice A n cp], .slice At nt ct] w fun e w' => e = .returned (.bool true) ∧ Below w.heap.size w w' := by
  have hb : Below w.heap.size w (w.alloc (.cells #[.int .i64 c, .int .u8 k, .slice A n cp] 24)) := below_allocN
  have hP := Has.new w 24 #[.int .i64 c, .int .u8 k, .slice A n cp]
  generalize hW : World.alloc w _ = W0 at hb hP
  have p0 := hP.cell 0
  have p1 := hP.cell 1
  have p2 := hP.cell 2
  go_enter Tryz.func11, Tryz.ntmps11
  go_wp2_with fail
  try simp only [hW]
  clear hW
  refine (may16_any c k A n cp l At nt ct lot W0 (h.below hb) (hl.below hb)).mono ?_
  rintro e z0 ⟨rfl, hbz0⟩
  have hbw0 := Below_trans' hb hb.size hbz0
  replace hP := hP.below hbz0 hP.lt
  clear p0 p1 p2
  by_cases hE : mayS c k l 1 1 1 lot = 0
  · have e1 : (mayS c k l 1 1 1 lot == 0) = true := by simp [hE]
    obtain ⟨hc0, hk0, _, _, _, hlot⟩ := may_zero hE
    subst hk0
    have hcs := check_ok hc0
    obtain ⟨C, rfl⟩ : ∃ C : Nat, c = (C : Int) := ⟨c.toNat, by omega⟩
    have Rk := hide (rank_ok hc0)
    have hro := hide (runB_ok hE)
    have hE0 := hide hE
    have hc00 := hide hc0
    have hC10 := (rank_ok hc0).c10
    have hC1 := (rank_ok hc0).c1
    have hnt : nt ≤ 10 := by have h1 := lot_len hlot; have h2 := hl.len; omega
    have hbok := countB_ok (l := l) hlot hC1
    obtain ⟨el, rs, ts, hcx⟩ : ∃ el rs ts, countB l C lot C (rangeI C) [] [] = (el, rs, ts) := ⟨_, _, _, rfl⟩
    rw [hcx] at hbok
    obtain ⟨xe, hxe, hx0, hx1, hxo⟩ := hbok.el
    dsimp only at hxe hxo
    subst hxe
    have Hrs : Hid (RsOK l C rs) := hbok.ok
    have Hrb : Hid (RsB rs) := hbok.b
    have Hxo := hide hxo
    have hrl : rs.length ≤ 10 := by have := hbok.len; dsimp only at this; omega
    have hout : Hid (runB C 1 l 1 lot = ([xe], rs, ts)) := by unfold Hid; rw [hro.out, Int.toNat_natCast]; exact hcx
    clear hcs hE hc0 hlot hcx hbok hxo
    have p0 := hP.cell 0
    have p1 := hP.cell 1
    have p2 := hP.cell 2
    go_wp2_with fail
    refine (pcountB_any C 1 A n cp l 1 At nt ct lot z0 (h.below hbw0) (hl.below hbw0) (by omega)).mono ?_
    rintro e z1 ⟨Ae, ne, ce, Ar, nr, cr, Av, nv, cv, rfl, hO, hbz1⟩
    rw [hout.out] at hO
    rw [hE0.out]
    have hnr : nr = rs.length := hO.2.1.len.symm
    subst hnr
    have hne : ne = 1 := hO.1.len.symm
    subst hne
    clear p0 p1 p2
    go_upto_region 4 with fail
    have hbz2 : Below z1.heap.size z1 (z1.alloc (.cells #[.slice Ae 1 ce, .slice Ar rs.length cr, .slice Av nv cv] 33)) := below_allocN
    have hX := Has.new z1 33 #[.slice Ae 1 ce, .slice Ar rs.length cr, .slice Av nv cv]
    generalize World.alloc z1 _ = z2 at hbz2 hX ⊢
    have hb02 := Below_trans' hbz1 hbz1.size hbz2
    have hbw2 := Below_trans' hbw0 hbw0.size hb02
    have hP2 := hP.below hb02 hP.lt
    have p0 := hP2.cell 0
    have p1 := hP2.cell 1
    have p2 := hP2.cell 2
    go_wp2_with fail
    refine (many_any C 1 A n cp l z2 (h.below hbw2)).mono ?_
    rintro e z3 ⟨rfl, hbz3⟩
    rw [cntV_tot hc00.out, hc00.out]
    have hX3 := hX.below hbz3 hX.lt
    have hbw3 := Below_trans' hbw2 hbw2.size hbz3
    have hRs := (hO.2.1.below below_rnd hbz2).below below_rnd hbz3
    have hEl := (hO.1.below hbz2).below hbz3
    clear p0 p1 p2 hO hX hP2 hP hbz1 hbz2
    have q1 := hX3.cell 1
    go_wp2
    go_loopw [9, 10] (fun v i wr => ∃ t : Nat, t ≤ rs.length ∧ i = .int .i64 t ∧ Own wr z3.heap.size v (outsOf rs t) ∧ Below z3.heap.size z3 wr) (fun v i _ => rs.length - (intOf i).toNat)
    case atStart => exact ⟨0, Nat.zero_le _, rfl, Own.nil_ _ _, Below.refl _ _⟩
    case round =>
      clear q1
      obtain ⟨t, ht, rfl, hOu, hb⟩ := hrel
      obtain ⟨Aout, cout, rfl⟩ := hOu.slice
      generalize hno : (outsOf rs t).length = nout at *
      have Hno := hide hno
      clear hno
      have hXr := hX3.below hb hX3.lt
      have q1 := hXr.cell 1
      by_cases hlt : t < rs.length
      · obtain ⟨bR, oR, vs, x, eAr, _, hcR, hER, _, hatR⟩ := hRs.step hlt
        obtain ⟨el', out, rfl, hol, hox⟩ := Hrs.out t x hatR.out
        obtain ⟨A1, n1, c1, a1, a2, a3, A2, n2, c2, A3, n3, c3, rfl, h5, hL, h7, h9⟩ := hER
        obtain ⟨C1, k1, d1, C2, k2, d2, eq1, g1, g2⟩ := hL
        cases eq1
        dsimp only [rndS, wholeS] at h5 g1 g2 h7 h9
        have r0 := keep_cell hb (hcR 0 _ rfl)
        have r1 := keep_cell hb (hcR 1 _ rfl)
        have r2 := keep_cell hb (hcR 2 _ rfl)
        have r3 := keep_cell hb (hcR 3 _ rfl)
        have r4 := keep_cell hb (hcR 4 _ rfl)
        have r5 := keep_cell hb (hcR 5 _ rfl)
        simp only [Nat.add_zero] at r0
        dsimp only [rndS, wholeS] at r1
        clear hcR
        subst eAr
        go_upto_region 12 with fail
        have hb4 : Below wr.heap.size wr (wr.alloc (.cells #[.slice A1 n1 c1, .bool false, .slice C1 k1 d1, .slice C2 k2 d2, .slice A2 n2 c2, .slice A3 n3 c3] 54)) := below_allocN
        have hG4 := Has.new wr 54 #[.slice A1 n1 c1, .bool false, .slice C1 k1 d1, .slice C2 k2 d2, .slice A2 n2 c2, .slice A3 n3 c3]
        generalize World.alloc wr _ = w4 at hb4 hG4 ⊢
        clear r0 r1 r2 r3 r4 r5 q1
        have s1 := hG4.cell 1
        have s2 := hG4.cell 2
        have s3 := hG4.cell 3
        go_upto_region 14 with fail
        have hb5 : Below w4.heap.size w4 (w4.alloc (.cells #[.bool false, .slice C1 k1 d1, .slice C2 k2 d2] 52)) := below_allocN
        have hS5 := Has.new w4 52 #[.bool false, .slice C1 k1 d1, .slice C2 k2 d2]
        generalize World.alloc w4 _ = w5 at hb5 hS5 ⊢
        clear s1 s2 s3
        obtain ⟨wo, rfl⟩ : ∃ wo : World, wo = wr := ⟨_, rfl⟩
        have hzo := hb
        have hzo4 := Below_trans' hzo hzo.size hb4
        have hol1 := hide (length_outsOf Hrs.out t).1
        have hout4 := (hOu.ints (fun y hy => by have := (length_outsOf Hrs.out t).2 y hy; omega)).below hb4
        have H5 := h5.below below_rat hzo4
        have hG5 := hG4
        have G1 := g1.below hzo4
        have G2 := g2.below hzo4
        obtain ⟨φ, hφ⟩ : ∃ φ, φ = stayB C (outsOf rs t) := ⟨_, rfl⟩
        have Hφ := hide hφ
        rw [← hφ] at H5 G1
        clear hφ hG4 hXr
        obtain rfl : C = n1 := by have := H5.len; rw [List.length_map, length_hadL] at this; exact this
        have hall := had_all (φ := φ) (n := C) Rk.out.marks
        have hLb := Rk.out.lost φ
        have htb := Rk.out.tot
        have htn : 0 ≤ totS l := by have := lostS_bd (φ := φ) Rk.out.pos; omega
        have hget := hide (fun i (hi : i < C) => get_hadL φ l hi)
        have hnn := hide (Rk.out.hads φ)
        have hHl := hide (length_hadL φ l C)
        generalize hadL φ l C = H at H5 hall hget hnn hHl
        have Hall := hide hall
        have hLoss := hide (rfl : lostS φ l = lostS φ l)
        generalize hLL : lostS φ l = L at G1 hall hLb Hall
        have HLL := hide hLL
        clear hLL hall hLoss
        go_wp2
        go_loopw [13] (fun i wr => ∃ (j : Nat) (As : Option Addr) (ns cs : Nat) (Ad : Option Addr) (nd cd : Nat), j ≤ C ∧ i = .int .i64 j ∧ Has wr w4.heap.size 52 #[.bool false, .slice As ns cs, .slice Ad nd cd] ∧ RWrds wr As ns cs (lm (L + (H.take j).sum)) ∧ RWrds wr Ad nd cd [1] ∧ Below w4.heap.size w4 wr) (fun i _ => C - (intOf i).toNat)
        case atStart => exact ⟨0, C1, k1, d1, C2, k2, d2, Nat.zero_le _, rfl, hS5, by simpa using G1.below hb5, G2.below hb5, hb5⟩
        case round =>
          obtain ⟨j, As, ns, cs, Ad, nd, cd, hj, rfl, hS, hs1, hs2, hb⟩ := hrel
          have hGr := hG5.below hb hG5.lt
          have q0 := hGr.cell 0
          by_cases hjc : j < C
          · obtain ⟨bH, oH, vsH, xH, eH, _, hcH, hEH, _, hatH⟩ := H5.step hjc
            obtain rfl : xH = wholeS (hadS φ l j) := by
              have e := hatH.out
              rw [List.getElem?_map, hget.out j hjc] at e
              exact (Option.some.inj e).symm
            obtain ⟨Aw, nw, cw, Av', nv', cv', rfl, gw1, gw2⟩ := hEH
            dsimp only [wholeS] at gw1 gw2
            have hvb := Rk.out.had φ j
            have hsum : Hid (L + (H.take (j + 1)).sum = L + (H.take j).sum + hadS φ l j) := by
              unfold Hid; rw [sum_take_succ' (hget.out j hjc)]; omega
            have hsb := sum_take_bd (fun x hx => (hnn.out x hx).1) j
            have hsb1 : 0 ≤ L + (H.take j).sum ∧ L + (H.take j).sum + hadS φ l j ≤ 4294967295 := by
              have h1 := sum_take_bd (fun x hx => (hnn.out x hx).1) (j + 1)
              have h2 := hsum.out
              have h3 := Hall.out
              omega
            clear hsb hatH
            subst eH
            have e0 := keep_cell hb (hcH 0 _ rfl)
            have e1 := keep_cell hb (hcH 1 _ rfl)
            have e2 := keep_cell hb (hcH 2 _ rfl)
            have gr1 := gw1.below hb
            have gr2 := gw2.below hb
            simp only [Nat.add_zero] at e0
            dsimp only [wholeS] at e0
            have s0 := hS.cell 0
            have s1 := hS.cell 1
            have s2 := hS.cell 2
            go_upto_region 16 with fail
            go_cut [14, 15] from 60 to 70 (fun u v wx => ∃ (g14 : Nat) (A6 : Option Addr) (n6 c6 : Nat) (A7 : Option Addr) (n7 c7 : Nat), u = .pointer (some ⟨g14, 0, none⟩) ∧ v = .int .i64 0 ∧ Has wx g14 52 #[.bool false, .slice A6 n6 c6, .slice A7 n7 c7] ∧ RWrds wx A6 n6 c6 (lm (L + (H.take j).sum + hadS φ l j)) ∧ RWrds wx A7 n7 c7 [1] ∧ Below wr.heap.size wr wx)
            case first =>
              refine wp_region_flowz [0, 1, 2, 3, 4, 5] [0, 1, 2, 3, 4, 5, 7, 8, 9] (fun w' => ∃ q, w' = More wr q) (by kernel_rfl) (by kernel_rfl) ⟨⟨[], wr.drawn + 1⟩, by simp [More]⟩ ?_
              simp only [pickOps, List.getElem?_cons_zero, List.getElem?_cons_succ]
              repeat (go_big_quiet_step (fail))
              refine wpQuiet_nil ?_
              have hdr : Below wr.heap.size wr wr.drew := (Below.refl _ _).drew
              refine flow_two 6 10 (by kernel_rfl) rfl rfl ?_ ?_
              · go_wp2_with fail
                refine (radd4 As Ad Aw Av' ns cs nd cd nw cw nv' cv' (L + (H.take j).sum) (hadS φ l j) _ (hs1.below hdr) (hs2.below hdr) (gr1.below hdr) (gr2.below hdr) (by omega) (by omega) (by omega)).mono ?_
                rintro e wa ⟨A6, n6, c6, A7, n7, c7, rfl, hA6, hA7, hba⟩
                have hbw : Below wr.heap.size wr wa := Below_trans' hdr (Nat.le_refl _) hba
                clear hdr e0 e1 e2 s0 s1 s2
                go_wp2
                refine FlowPost.mk ⟨below_more hbw, ?_⟩
                refine flow_pure [7, 8, 9] (by kernel_rfl) (below_more hbw) ?_
                simp only [pickOps, List.getElem?_cons_zero, List.getElem?_cons_succ]
                repeat (go_big_quiet_step (fail))
                refine wpQuiet_nil ?_
                refine flow_one 10 (by kernel_rfl) rfl ?_
                go_wp2
                refine FlowPost.mk ⟨below_more (hbw.alloc hbw.size _), ?_⟩
                refine flow_one 11 (by kernel_rfl) rfl ?_
                have hN := Has.new wa 52 #[.bool false, .slice A6 n6 c6, .slice A7 n7 c7]
                have hbN : Below wa.heap.size wa (wa.alloc (.cells #[.bool false, .slice A6 n6 c6, .slice A7 n7 c7] 52)) := below_allocN
                have hb8 := Below_trans' hbw hbw.size hbN
                have hA6' := hA6.below hbN
                have hA7' := hA7.below hbN
                go_wp2
                generalize hWN : (World.alloc wa _ : World) = w8 at hN hb8 hA6' hA7' ⊢
                refine FlowPost.mk ⟨below_more hb8, ?_⟩
                refine flow_one 12 (by kernel_rfl) rfl ?_
                go_wp2
                refine FlowPost.mk ⟨below_more hb8, ?_⟩
                refine flow_rest [] (by kernel_rfl) ?_
                simp only [pickOps]
                go_wp2
                go_meet
                exact ⟨wa.heap.size, A6, n6, c6, A7, n7, c7, rfl, rfl, hN, hA6', hA7', hb8⟩
              · go_wp2
                have hbz : Below wr.heap.size wr (wr.alloc (.cells #[.bool false, .slice none 0 0, .slice none 0 0] 52)).drew := ((Below.refl _ _).alloc (Nat.le_refl _) _).drew
                have hNz : Has (wr.alloc (.cells #[.bool false, .slice none 0 0, .slice none 0 0] 52)).drew wr.heap.size 52 #[.bool false, .slice none 0 0, .slice none 0 0] := (Has.new wr 52 #[.bool false, .slice none 0 0, .slice none 0 0]).drew
                generalize World.drew _ = wz at hbz hNz ⊢
                refine FlowPost.mk ⟨below_more hbz, ?_⟩
                refine flow_one 6 (by kernel_rfl) rfl ?_
                go_wp2_with fail
                refine (radd4 As Ad Aw Av' ns cs nd cd nw cw nv' cv' (L + (H.take j).sum) (hadS φ l j) _ (hs1.below hbz) (hs2.below hbz) (gr1.below hbz) (gr2.below hbz) (by omega) (by omega) (by omega)).mono ?_
                rintro e wa ⟨A6, n6, c6, A7, n7, c7, rfl, hA6, hA7, hba⟩
                have hbw : Below wr.heap.size wr wa := Below_trans' hbz hbz.size hba
                have hNa := hNz.below hba hNz.lt
                clear hdr e0 e1 e2 s0 s1 s2
                go_wp2
                refine FlowPost.mk ⟨below_more hbw, ?_⟩
                refine flow_pure [7, 8, 9] (by kernel_rfl) (below_more hbw) ?_
                simp only [pickOps, List.getElem?_cons_zero, List.getElem?_cons_succ]
                repeat (go_big_quiet_step (fail))
                refine wpQuiet_nil ?_
                refine flow_one 11 (by kernel_rfl) rfl ?_
                have t0 := hNa.cell 0
                have t1 := hNa.cell 1
                have t2 := hNa.cell 2
                have f0 := hNa.free 0
                have f1 := hNa.free 1
                have f2 := hNa.free 2
                have hN := put3 (x' := .bool false) (y' := .slice A6 n6 c6) (z' := .slice A7 n7 c7) hNa
                have hF := frame3 wa wr.heap.size (.bool false) (.slice A6 n6 c6) (.slice A7 n7 c7)
                have hA6' := hA6.frame hF (wrds_apart hNa hA6)
                have hA7' := hA7.frame hF (wrds_apart hNa hA7)
                have hb8 := Frame'.below hbw hF (fun b e => by have e : b = wr.heap.size := e; omega) hbw.size
                go_wp2
                generalize hWN : World.setCell (World.setCell (World.setCell wa _ _) _ _) _ _ = w8 at hN hb8 hA6' hA7' ⊢
                refine FlowPost.mk ⟨below_more hb8, ?_⟩
                refine flow_one 12 (by kernel_rfl) rfl ?_
                go_wp2
                refine FlowPost.mk ⟨below_more hb8, ?_⟩
                refine flow_rest [] (by kernel_rfl) ?_
                simp only [pickOps]
                go_wp2
                go_meet
                exact ⟨wr.heap.size, A6, n6, c6, A7, n7, c7, rfl, rfl, hN, hA6', hA7', hb8⟩
            case rest =>
              obtain ⟨g14, A6, n6, c6, A7, n7, c7, rfl, rfl, hN, hn6, hn7, hbc⟩ := hcut
              clear e0 e1 e2 s0 s1 s2 q0
              have hGc := hG5.below (Below_trans' hb hb.size hbc) hG5.lt
              have q0 := hGc.cell 0
              have hb4c := Below_trans' hb hb.size hbc
              have e0 := keep_cell hb4c (hcH 0 _ rfl)
              have e1 := keep_cell hb4c (hcH 1 _ rfl)
              have e2 := keep_cell hb4c (hcH 2 _ rfl)
              simp only [Nat.add_zero] at e0
              dsimp only [wholeS] at e0
              have hSc := hS.below hbc hS.lt
              have n0 := hN.cell 0
              have n1' := hN.cell 1
              have n2 := hN.cell 2
              have s0 := hSc.free 0
              have s1 := hSc.free 1
              have s2 := hSc.free 2
              have z0 := hSc.cell 0
              have z1 := hSc.cell 1
              have z2 := hSc.cell 2
              have hinc := in_any Aout nout cout (outsOf rs t) (j : Int) wc ((hout4.below hb).below hbc)
              have hS6 : Has (((wc.setCell ⟨w4.heap.size, 0, none⟩ (.bool false)).setCell ⟨w4.heap.size, 1, none⟩ (.slice A6 n6 c6)).setCell ⟨w4.heap.size, 2, none⟩ (.slice A7 n7 c7)) w4.heap.size 52 #[.bool false, .slice A6 n6 c6, .slice A7 n7 c7] := put3 hSc
              have hF6 := frame3 wc w4.heap.size (.bool false) (.slice A6 n6 c6) (.slice A7 n7 c7)
              have hn6' := hn6.frame hF6 (wrds_apart hSc hn6)
              have hn7' := hn7.frame hF6 (wrds_apart hSc hn7)
              have hb6 : Below w4.heap.size w4 (((wc.setCell ⟨w4.heap.size, 0, none⟩ (.bool false)).setCell ⟨w4.heap.size, 1, none⟩ (.slice A6 n6 c6)).setCell ⟨w4.heap.size, 2, none⟩ (.slice A7 n7 c7)) := Frame'.below (Below_trans' hb hb.size hbc) hF6 (fun b e => by omega) (Below_trans' hb hb.size hbc).size
              clear hF6 hGc
              cases hin : inL (outsOf rs t) (j : Int) with
              | true =>
                rw [hin] at hinc
                have hz : hadS φ l j = 0 := had_none (by rw [Hφ.out]; exact stay_gone hin)
                have hnw : nw = 0 := by have := gw1.len; rw [hz] at this; exact this.symm
                have f7 : ¬ (0 : Int) < (nw : Int) := by omega
                have Hin := hide hin
                clear hin hz hnw
                go_wp2_with fail
                refine hinc.mono ?_
                rintro e w' ⟨rfl, rfl⟩
                go_upto_region 15 with fail
                generalize World.setCell (World.setCell (World.setCell _ _ _) _ _) _ _ = w6 at hS6 hn6' hn7' hb6 ⊢
                clear n0 n1' n2 s0 s1 s2 z0 z1 z2 e0 e1 e2 q0
                go_wp2
                go_roundw
                case rel => exact ⟨j + 1, A6, n6, c6, A7, n7, c7, by omega, by go_num, hS6, by rw [hsum.out]; exact hn6', hn7', hb6⟩
                case measure => simp [intOf] <;> omega
              | false =>
                rw [hin] at hinc
                have Hin := hide hin
                clear hin
                go_wp2_with fail
                refine hinc.mono ?_
                rintro e w' ⟨rfl, rfl⟩
                go_upto_region 15 with fail
                generalize World.setCell (World.setCell (World.setCell _ _ _) _ _) _ _ = w6 at hS6 hn6' hn7' hb6 ⊢
                clear n0 n1' n2 s0 s1 s2 z0 z1 z2 e0 e1 e2 q0
                go_wp2
                go_roundw
                case rel => exact ⟨j + 1, A6, n6, c6, A7, n7, c7, by omega, by go_num, hS6, by rw [hsum.out]; exact hn6', hn7', hb6⟩
                case measure => simp [intOf] <;> omega
          · have hsl : Hid (L + (H.take j).sum = totS l) := by
              have h1 := Hall.out
              have h2 := hHl.out
              unfold Hid; rw [List.take_of_length_le (by omega)]; omega
            rw [hsl.out] at hs1
            have hS0 := hS
            have s0 := hS.cell 0
            have s1 := hS.cell 1
            have s2 := hS.cell 2
            have hRb := Hrb.out t _ hatR.out
            dsimp only [rndS] at hRb
            obtain ⟨hone, hlt2, hnew⟩ := hRb
            rw [Hno.out] at hlt2
            have Hnew := hide hnew
            have hn2l := h7.len
            have hn3l := h9.len
            have hone' : (n3 : Int) + (n2 : Int) = 1 := by omega
            have hno' : ((nout : Int) != (t : Int)) = false := by simp [hlt2]
            have f9 : ((n3 : Int) + (n2 : Int) != 1) = false := by simp [hone']
            have b9 : (n3 : Int) ≤ 1 ∧ (n2 : Int) ≤ 1 := by omega
            have hGz0 := hG5.below hb hG5.lt
            have y4 := hGz0.cell 4
            have y5 := hGz0.cell 5
            clear hone hone' hlt2 hnew hn2l hn3l
            go_upto_region 20 with fail
            refine wp_region_flowz [0, 1] [0, 1, 4, 5, 6, 7, 8, 9, 10, 11, 12, 13, 14, 15, 16, 17, 18, 19, 20] (fun w' => ∃ q, w' = More wr q) (by kernel_rfl) (by kernel_rfl) (below_more ((Below.refl wr.heap.size wr).drew)) ?_
            simp only [pickOps, List.getElem?_cons_zero, List.getElem?_cons_succ]
            repeat (go_big_quiet_step (fail))
            refine wpQuiet_nil ?_
            have hdr : Below wr.heap.size wr wr.drew := (Below.refl _ _).drew
            refine flow_one 2 (by kernel_rfl) rfl ?_
            go_wp2_with fail
            refine (rwhole_any (totS l) _ (by omega) (by omega)).mono ?_
            rintro e wa ⟨An, nn, cn, Ac, nc, cc, rfl, hn6, hd6, hba, _⟩
            have hbw : Below wr.heap.size wr wa := Below_trans' hdr (Nat.le_refl _) hba
            go_wp2
            refine FlowPost.mk ⟨below_more hbw, ?_⟩
            refine flow_one 3 (by kernel_rfl) rfl ?_
            go_wp2_with fail
            refine (rsame4_eq false As Ad An Ac ns cs nd cd nn cn nc cc _ _ wa (hs1.below hbw) (hs2.below hbw) hn6 hd6).mono ?_
            rintro e wz ⟨rfl, hbz⟩
            have hbwz := Below_trans' hbw hbw.size hbz
            have hb4z := Below_trans' hb hb.size hbwz
            have hboz := Below_trans' hb4 hb4.size hb4z
            go_wp2
            refine FlowPost.mk ⟨below_more hbwz, ?_⟩
            refine flow_pure [4, 5, 6, 7, 8, 9, 10, 11, 12, 13, 14, 15, 16, 17, 18, 19, 20] (by kernel_rfl) (below_more hbwz) ?_
            simp only [pickOps, List.getElem?_cons_zero, List.getElem?_cons_succ]
            repeat (go_big_quiet_step (fail))
            refine wpQuiet_nil ?_
            refine flow_rest [] (by kernel_rfl) ?_
            simp only [pickOps]
            clear hn6 hd6 hba hS hs1 hs2 hGr s0 s1 s2 q0 y4 y5 hGz0
            have hGz := hG5.below hb4z hG5.lt
            have hRo := (h9.below (Below_trans' hzo hzo.size hboz))
            have hRv := hout4.below hb4z
            go_wp2
            go_loop [16] (fun i => ∃ m : Nat, m ≤ n3 ∧ i = .int .i64 m) (fun i => n3 - (intOf i).toNat)
            case atStart => exact ⟨0, Nat.zero_le _, rfl⟩
            case round =>
              obtain ⟨m, hm, rfl⟩ := hrel
              have y5 := hGz.cell 5
              by_cases hmn : m < n3
              · obtain ⟨bo, oo, vo, rfl, hco, _, hato, _⟩ := hRo.step hmn
                have hin := in_any Aout nout cout (outsOf rs t) vo wz hRv
                rw [Hnew.out vo (List.mem_of_getElem? hato.out)] at hin
                clear hato
                go_wp2_with fail
                refine hin.mono ?_
                rintro e w' ⟨rfl, rfl⟩
                go_wp2
                go_round
                case rel => exact ⟨m + 1, by omega, by go_num⟩
                case measure => simp [intOf] <;> omega
              · go_upto_region 27 with fail
                clear y5
                have hout := (h9.below (Below_trans' hzo hzo.size hboz))
                have hOwn := hOu.below hboz
                have hbZ := Below_trans' hzo hzo.size hboz
                obtain ⟨v', w', h41, h42, h43, h44⟩ := run_appInts wz 25 hOwn hout (by have h1 := hol1.out; have h2 := hout.len; have h3 := hol; omega) hbZ.size
                clear h44 hol
                have hGt := hG5.below hb4z hG5.lt
                have q3 := hGt.cell 5
                have hbN : Below z3.heap.size z3 w' := hbZ.grown h43 hbZ.size (fun b hb' => (hOwn.lt b hb').1)
                go_wp2_with (at_builtin; refine list_app rfl rfl rfl rfl h41 ?_)
                go_roundw
                case rel => exact ⟨t + 1, by omega, by go_num, by rw [outsOf_succ hatR.out]; exact h42, hbN⟩
                case measure => simp [intOf] <;> omega
      · have hbe := Below_trans' hbw3 hbw3.size hb
        obtain rfl : rs.length = t := by omega
        have hout5 := hOu.ints (fun y hy => by have := (length_outsOf Hrs.out rs.length).2 y hy; omega)
        obtain ⟨be, oe, ve, ee, hce, _, hate, _⟩ := (hEl.below hb).step (show 0 < 1 by omega)
        obtain rfl : ve = xe := by simpa using hate.out.symm
        subst ee
        simp only [Nat.add_zero] at hce
        have q0 := hXr.cell 0
        have hin := in_any Aout nout cout (outsOf rs rs.length) ve wr hout5
        rw [Hxo.out] at hin
        clear hate
        go_wp2_with fail
        refine hin.mono ?_
        rintro e w' ⟨rfl, rfl⟩
        go_wp2_with fail
        refine (wakes16_any _).mono ?_
        rintro e w9 ⟨rfl, hb9⟩
        go_wp2
        go_ret
        exact ⟨rfl, Below_trans' hbe (hbe).size hb9⟩
  · have e1 : (mayS c k l 1 1 1 lot == 0) = false := by simp [hE]
    clear hE
    go_wp2_with fail
    refine (wakes16_any _).mono ?_
    rintro e w9 ⟨rfl, hb9⟩
    go_wp2
    go_ret
    exact ⟨rfl, Below_trans' hbw0 (hbw0).size hb9⟩
end Go.Proofs.YtcmoekkaakkpjaaGreat
