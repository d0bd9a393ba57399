/-
  The law PathsTies.
-/
import Derived.Test.YtkhclcdmehjfkaaGreatW13h
import Derived.Test.YtkhclcdmehjfkaaGreatW13f
import Derived.Test.YtkhclcdmehjfkaaGreatFlow2
import Derived.Deep.CutRange
namespace Go.Proofs.YtkhclcdmehjfkaaGreat
open Go.RowKit Go.Proofs Go.Shelf
attribute [local go_sem] cell?_more cell?_alloc_some cell?_setCell_far frozen?_alloc_some frozen?_more
set_option maxRecDepth 100000 in
set_option maxHeartbeats 4000000 in
theorem pathsTies_any (c k : Int) (A : Option Addr) (n cp : Nat) (l : List Row) (At : Option Addr) (nt ct : Nat) (lot : List Int) (w : World) (h : RRows w A n cp l) (hl : RInts w At nt ct lot) :
    Calls Tryz.prog 4 #[.agg #[.int .i64 c, .int .u8 k, .slice A n cp], .slice At nt ct] w fun e w' => e = .returned (.bool true) ∧ Below w.heap.size w w' := by
  have hb : Below w.heap.size w (w.alloc (.cells #[.int .i64 c, .int .u8 k, .slice A n cp] 28)) := below_allocN
  have hP := Has.new w 28 #[.int .i64 c, .int .u8 k, .slice A n cp]
  go_enter Tryz.func4, Tryz.ntmps4
  go_upto_region 1 with fail
  generalize World.alloc w _ = W0 at hb hP ⊢
  have p0 := hP.cell 0
  have p1 := hP.cell 1
  have p2 := hP.cell 2
  go_wp2_with fail
  refine (may13_any c k A n cp l At nt ct lot W0 (h.below hb) (hl.below hb)).mono ?_
  rintro e z0 ⟨rfl, hbz0⟩
  have hbw0 := Below_trans' hb hb.size hbz0
  replace hP := hP.below hbz0 hP.lt
  clear p0 p1 p2
  by_cases hE : mayS c k l 1 1 1 lot = 0
  · have e1 : (mayS c k l 1 1 1 lot == 0) = true := by simp [hE]
    obtain ⟨hc0, hk0, _, _, _, hlot⟩ := may_zero hE
    subst hk0
    have hcs := check_ok hc0
    obtain ⟨C, rfl⟩ : ∃ C : Nat, c = (C : Int) := ⟨c.toNat, by omega⟩
    have Hlot := hide hlot
    have hro := hide (pathR_ok hE)
    have hE0 := hide hE
    have hc00 := hide hc0
    have hC10 := (rank_ok hc0).c10
    have hC1 := (rank_ok hc0).c1
    have hnt : nt ≤ 10 := by have h1 := lot_len hlot; have h2 := hl.len; omega
    have hrt := hide (ofR_right (k := 1) hc0 (c' := (C : Int)) (Int.le_refl _) (by omega))
    have Hse := hide (strErr_ok hrt.out)
    have Hst := hide (strV_ok hrt.out)
    have p0 := hP.cell 0
    have p1 := hP.cell 1
    have p2 := hP.cell 2
    clear hcs hE hc0 hlot
    go_wp2_with fail
    refine (schulze_any C 1 A n cp l 1 At nt ct lot z0 (h.below hbw0) (hl.below hbw0) (by omega)).mono ?_
    rintro e z1 ⟨Ae, ne, ce, Ar, nr, cr, Av, nv, cv, rfl, hO, hbz1⟩
    rw [hro.out, Int.toNat_natCast] at hO
    rw [hE0.out]
    have hnr : nr = 1 := hO.2.1.len.symm
    subst hnr
    have hne : ne = 1 := hO.1.len.symm
    subst hne
    clear p0 p1 p2
    go_upto_region 4 with fail
    have hbz2 : Below z1.heap.size z1 (z1.alloc (.cells #[.slice Ae 1 ce, .slice Ar 1 cr, .slice Av nv cv] 38)) := below_allocN
    have hX := Has.new z1 38 #[.slice Ae 1 ce, .slice Ar 1 cr, .slice Av nv cv]
    generalize World.alloc z1 _ = z2 at hbz2 hX ⊢
    have hb02 := Below_trans' hbz1 hbz1.size hbz2
    have hbw2 := Below_trans' hbw0 hbw0.size hb02
    have hP2 := hP.below hb02 hP.lt
    have p0 := hP2.cell 0
    have p1 := hP2.cell 1
    have p2 := hP2.cell 2
    have hpo := pof_any C 1 A n cp l z2 (h.below hbw2)
    unfold POfPost at hpo
    rw [hc00.out] at hpo
    go_wp2_with fail
    refine hpo.mono ?_
    rintro e w2 ⟨D, rfl, hD, hb2⟩
    clear hpo p0 p1 p2
    have hDs := hD.size
    have hM3 : Has ((w2.alloc (.cells Tryz.zeroCells24 24)).setRow w2.heap.size D) w2.heap.size 24 D := (Has.new _ _ _).setRow _
    have hb23 : Below w2.heap.size w2 ((w2.alloc (.cells Tryz.zeroCells24 24)).setRow w2.heap.size D) := below_setRow ((Below.refl _ _).alloc (Nat.le_refl _) _) (Nat.le_refl _) _
    go_upto_region 5 with (refine stMat rfl rfl rfl rfl (Has.new _ _ _) zeroMat.size hDs hD.one ?_)
    generalize World.setRow (World.alloc w2 _) _ _ = w3 at hM3 hb23 ⊢
    have hb13 := Below_trans' hb2 hb2.size hb23
    have hP3 := hP2.below hb13 hP2.lt
    have p0 := hP3.cell 0
    go_wp2_with (refine ldMat rfl rfl rfl hM3 hDs ?_)
    refine (strengths_any D _ hD C w3).mono ?_
    rintro e w4 ⟨S, rfl, hS, hb4⟩
    clear p0
    rw [Hse.out]
    have hSs := hS.size
    have hS5 : Has ((w4.alloc (.cells Tryz.zeroCells24 24)).setRow w4.heap.size S) w4.heap.size 24 S := (Has.new _ _ _).setRow _
    have hb45 : Below w4.heap.size w4 ((w4.alloc (.cells Tryz.zeroCells24 24)).setRow w4.heap.size S) := below_setRow ((Below.refl _ _).alloc (Nat.le_refl _) _) (Nat.le_refl _) _
    go_upto_region 6 with (refine stMat rfl rfl rfl rfl (Has.new _ _ _) zeroMat.size hSs hS.one ?_)
    generalize World.setRow (World.alloc w4 _) _ _ = w5 at hS5 hb45 ⊢
    have hb25 := Below_trans' (Below_trans' hb13 hb13.size hb4) (Below_trans' hb13 hb13.size hb4).size hb45
    have hP5 := hP2.below hb25 hP2.lt
    have hX5 := hX.below hb25 hX.lt
    have hO5 := (hO.below hbz2).below hb25
    have hbw5 := Below_trans' hbw2 hbw2.size hb25
    generalize strV (ofR C 1 l) C = SV at *
    have hgs : Hid (w4.heap.size < w5.heap.size) := hS5.lt
    clear hb13 hb23 hb25 hb45 hb4 hb2 hM3 hP3 hX hO hbz1 hbz2 hb02 hP2
    have hpath : pathO SV C lot = ([frstS lot (topS SV C)], [rndS (hadPL SV C) 0 [frstS lot (topS SV C)] []], tiedS [] (topS SV C) (frstS lot (topS SV C))) := rfl
    rw [hpath] at hO5
    clear hpath
    obtain ⟨hEl, hRs, hTs⟩ := hO5
    dsimp only at hEl hRs hTs
    obtain ⟨bR, oR, vs, rr, eAr, _, hcR, hER, _, hatR⟩ := hRs.step (show 0 < 1 by omega)
    obtain rfl : rndS (hadPL SV C) 0 [frstS lot (topS SV C)] [] = rr := by have e := hatR.out; simpa using e
    obtain ⟨A1, n1, c1, a1, a2, a3, A2, n2, c2, A3, n3, c3, rfl, h5, hL, h7, h9⟩ := hER
    dsimp only [rndS] at h5
    obtain rfl : C = n1 := by have := h5.len; rw [List.length_map, length_hadPL] at this; exact this
    have r0 := hcR 0 _ rfl
    simp only [Nat.zero_mul, Nat.add_zero] at r0
    subst eAr
    have q0 := hX5.cell 0
    have q1 := hX5.cell 1
    have p0 := hP5.cell 0
    clear hRs hatR
    refine wp_region_more (by kernel_rfl) (by kernel_rfl) ?_
    repeat (go_big_quiet_step (fail))
    refine wpQuiet_nil ?_
    rintro w6 ⟨qw6, hww6⟩
    have hbw6 := below_of_eq hww6
    clear hww6 qw6
    clear q0 q1 p0
    have hP6 := hP5.below hbw6 hP5.lt
    have hX6 := hX5.below hbw6 hX5.lt
    have hS6 := hS5.below hbw6 hS5.lt
    have h56 := h5.below below_rat hbw6
    have hEl6 := hEl.below hbw6
    have hTs6 := hTs.below below_tie hbw6
    have hbww := Below_trans' hbw5 hbw5.size hbw6
    have r06 := keep_cell hbw6 r0
    have hgs6 : Hid (w4.heap.size < w6.heap.size) := hS6.lt
    clear hP5 hX5 hS5 h5 hEl hTs hbw5 r0 hgs h7 h9 hL hbw6
    go_wp2
    go_loopw [11, 12] (fun v i wr => ∃ X : Nat, X ≤ C ∧ i = .int .i64 X ∧ Own wr w6.heap.size v (topT SV C X) ∧ Below w6.heap.size w6 wr) (fun v i _ => C - (intOf i).toNat)
    case atStart => exact ⟨0, Nat.zero_le _, rfl, Own.nil_ _ _, Below.refl _ _⟩
    case round =>
      obtain ⟨X, hXl, rfl, hT, hb⟩ := hrel
      obtain ⟨wo, rfl⟩ : ∃ wo : World, wo = wr := ⟨_, rfl⟩
      have hPo := hP6.below hb hP6.lt
      have p0 := hPo.cell 0
      obtain ⟨Au, cu, rfl⟩ := hT.slice
      have hlt := length_topT SV C X
      by_cases hXC : X < C
      · have hX10 : X < 10 := by omega
        have b1 : (X : Int) < 10 := by omega
        generalize hlu : (topT SV C X).length = nu at *
        have Hlu := hide hlu
        clear hlu
        go_wp2
        clear p0
        go_loopw [13, 14] (fun v i wr => ∃ Y : Nat, Y ≤ C ∧ i = .int .i64 Y ∧ v = .int .i64 (hadP SV X Y : Int) ∧ Below wo.heap.size wo wr) (fun v i _ => C - (intOf i).toNat)
        case atStart => exact ⟨0, Nat.zero_le _, rfl, rfl, Below.refl _ _⟩
        case round =>
          obtain ⟨Y, hY, rfl, rfl, hbi⟩ := hrel
          have hPr := hPo.below hbi hPo.lt
          have p0 := hPr.cell 0
          have hbr := Below_trans' hb hb.size hbi
          have hSr := hS6.below hbr hgs6.out
          have hpb := (hadP_le SV X Y).1
          by_cases hYC : Y < C
          · have hY10 : Y < 10 := by omega
            have b2 : (Y : Int) < 10 := by omega
            by_cases hne : X = Y
            · have f13 : ((Y : Int) != (X : Int)) = false := by simp [hne]
              have hno : Hid (hadP SV X (Y + 1) = hadP SV X Y) := by unfold Hid; rw [hadP_succ, if_neg (fun h => h.1 hne)]; rfl
              clear hne
              go_upto_region 16 with fail
              refine wp_region_more (by kernel_rfl) (by kernel_rfl) ?_
              repeat (go_big_quiet_step (fail))
              refine wpQuiet_nil ?_
              rintro w2 ⟨qw2, hww2⟩
              have hbw2 := below_of_eq hww2
              clear hww2 qw2
              have hb2 := Below_trans' hbi hbi.size hbw2
              go_wp2
              go_roundw
              case rel => exact ⟨Y + 1, by omega, by go_num, by rw [hno.out], hb2⟩
              case measure => simp [intOf] <;> omega
            · have f13 : ((Y : Int) != (X : Int)) = true := by simp; omega
              have hyes := hide (fun (hle : SV Y X ≤ SV X Y) => (show hadP SV X (Y + 1) = hadP SV X Y + 1 by rw [hadP_succ, if_pos ⟨hne, hle⟩]))
              have hno := hide (fun (hle : ¬ SV Y X ≤ SV X Y) => (show hadP SV X (Y + 1) = hadP SV X Y by rw [hadP_succ, if_neg (fun h => hle h.2)]; rfl))
              clear hne
              have hc1 := (hSr.cell (X * 10 + Y)).trans (hS.at_ X Y hX10 hY10)
              have hc2 := (hSr.cell (Y * 10 + X)).trans (hS.at_ Y X hY10 hX10)
              generalize SV X Y = v at hc1 hyes hno
              generalize SV Y X = u at hc2 hyes hno
              by_cases hle : u ≤ v
              · have d1 : decide (u ≤ v) = true := by simpa using hle
                have hset := hide (hyes.out hle)
                clear hyes hno
                go_upto_region 16 with fail
                refine wp_region_more (by kernel_rfl) (by kernel_rfl) ?_
                repeat (go_big_quiet_step (fail))
                refine wpQuiet_nil ?_
                rintro w2 ⟨qw2, hww2⟩
                have hbw2 := below_of_eq hww2
                clear hww2 qw2
                clear hc1 hc2 hle
                have hb2 := Below_trans' hbi hbi.size hbw2
                go_wp2
                go_roundw
                case rel => exact ⟨Y + 1, by omega, by go_num, congrArg (Value.int .i64) (by rw [hset.out]; omega), hb2⟩
                case measure => simp [intOf] <;> omega
              · have d1 : decide (u ≤ v) = false := by simpa using hle
                have hset := hide (hno.out hle)
                clear hyes hno
                go_upto_region 16 with fail
                refine wp_region_more (by kernel_rfl) (by kernel_rfl) ?_
                repeat (go_big_quiet_step (fail))
                refine wpQuiet_nil ?_
                rintro w2 ⟨qw2, hww2⟩
                have hbw2 := below_of_eq hww2
                clear hww2 qw2
                clear hc1 hc2 hle
                have hb2 := Below_trans' hbi hbi.size hbw2
                go_wp2
                go_roundw
                case rel => exact ⟨Y + 1, by omega, by go_num, by rw [hset.out], hb2⟩
                case measure => simp [intOf] <;> omega
          · obtain rfl : C = Y := by omega
            obtain ⟨wi, rfl⟩ : ∃ wi : World, wi = wr := ⟨_, rfl⟩
            have hT2 := hT.below hbi
            have hXi := hX6.below hbr hX6.lt
            have q1 := hXi.cell 1
            have ri := keep_cell hbr r06
            obtain ⟨bH, oH, vsH, xH, eH, _, hcH, hEH, _, hatH⟩ := (h56.below below_rat hbr).step hXC
            obtain rfl : xH = wholeS (hadP SV X C : Int) := by
              have e := hatH.out
              rw [List.getElem?_map, get_hadPL SV hXC] at e
              exact (Option.some.inj e).symm
            obtain ⟨Aw, nw, cw, Ax, nx, cx, rfl, gw1, gw2⟩ := hEH
            dsimp only [wholeS] at gw1 gw2
            have e0 := hcH 0 _ rfl
            have e1' := hcH 1 _ rfl
            have e2 := hcH 2 _ rfl
            simp only [Nat.add_zero] at e0
            dsimp only [wholeS] at e0
            subst eH
            clear hatH hcH
            go_upto_region 18 with fail
            clear p0
            refine wp_region_flowz [0, 1, 2, 3, 4, 5, 6, 7, 8] [0, 1, 2, 3, 4, 5, 6, 7, 8, 11] (fun w' => ∃ q, w' = More wi q) (by kernel_rfl) (by kernel_rfl) (below_more ((Below.refl wi.heap.size wi).drew)) ?_
            simp only [pickOps, List.getElem?_cons_zero, List.getElem?_cons_succ]
            repeat (go_big_quiet_step (fail))
            refine wpQuiet_nil ?_
            have hdr : Below wi.heap.size wi wi.drew := (Below.refl _ _).drew
            clear q1 ri e0 e1' e2
            refine flow_one 9 (by kernel_rfl) rfl ?_
            go_wp2_with fail
            refine (rwhole_any (hadP SV X C : Int) wi.drew (by omega) (by omega)).mono ?_
            rintro e wD ⟨An, nn, cn, Ad, nd, cd, rfl, hn9, hd9, hbD, hfD⟩
            have hiD : Below wi.heap.size wi wD := Below_trans' hdr (Nat.le_refl _) hbD
            clear hfD hdr
            go_wp2
            refine FlowPost.mk ⟨below_more hiD, ?_⟩
            refine flow_one 10 (by kernel_rfl) rfl ?_
            go_wp2_with fail
            refine (rsame4_eq false Aw Ax An Ad nw cw nx cx nn cn nd cd _ _ wD (gw1.below hiD) (gw2.below hiD) hn9 hd9).mono ?_
            rintro e wX ⟨rfl, hbX⟩
            have hiX := Below_trans' hiD hiD.size hbX
            clear hn9 hd9
            go_wp2
            refine FlowPost.mk ⟨below_more hiX, ?_⟩
            refine flow_pure [11] (by kernel_rfl) (below_more hiX) ?_
            simp only [pickOps, List.getElem?_cons_zero, List.getElem?_cons_succ]
            repeat (go_big_quiet_step (fail))
            refine wpQuiet_nil ?_
            refine flow_rest [] (by kernel_rfl) ?_
            simp only [pickOps]
            have hbrX := Below_trans' hbr hbr.size hiX
            have hTX := hT2.below hiX
            have hPX := hP6.below hbrX hP6.lt
            have hzX := hbrX.size
            have p0 := hPX.cell 0
            have hst := hide (topT_succ SV C X)
            by_cases htp : hadP SV X C + 1 = C
            · have f17 : ((hadP SV X C : Int) == (C : Int) - 1) = true := by simp; omega
              have hst2 : Hid (topT SV C (X + 1) = topT SV C X ++ [(X : Int)]) := by unfold Hid; rw [hst.out, if_pos htp]
              have hlu2 := Hlu.out
              clear htp hst
              go_wp2_with (at_builtin; refine appInt rfl rfl rfl (hTX.below below_allocN) rfl ((Has.new _ _ _).cell 0) (by omega) (by simp; omega) ?_)
              intro v' w' hO' hg
              have hb3 : Below w6.heap.size w6 w' := (hbrX.alloc hzX _).grown hg (by simp; omega) (fun i hi => (hTX.lt i hi).1)
              go_wp2
              go_roundw
              case rel => exact ⟨X + 1, by omega, by go_num, by rw [hst2.out]; exact hO', hb3⟩
              case measure => simp [intOf] <;> omega
            · have f17 : ((hadP SV X C : Int) == (C : Int) - 1) = false := by simp; omega
              have hst2 : Hid (topT SV C (X + 1) = topT SV C X) := by unfold Hid; rw [hst.out, if_neg htp, List.append_nil]
              clear htp hst
              go_wp2
              go_roundw
              case rel => exact ⟨X + 1, by omega, by go_num, by rw [hst2.out]; exact hTX, hbrX⟩
              case measure => simp [intOf] <;> omega
      · obtain rfl : C = X := by omega
        have hT' : Own wo w6.heap.size (.slice Au (topT SV C C).length cu) (topS SV C) := hT
        have hna : (topT SV C C).length = (topS SV C).length := rfl
        clear hT
        have htp := List.length_pos_iff.2 (topS_ne Hst.out (show 0 < C by omega) hC10)
        generalize hlv : (topT SV C C).length = na at *
        have hna0 : 0 < na := by omega
        have d0 : decide (0 < na) = true := by simpa using hna0
        have d1 : decide ((0 : Int) < (na : Int)) = true := by simp; omega
        clear hlv hna htp
        have hbwo := Below_trans' hbww hbww.size hb
        have htm : ∀ y ∈ topS SV C, 0 ≤ y ∧ y < C := fun y hy => mem_rangeI.1 ((top_sub SV C).subset hy)
        have hI2 := hT'.ints (fun y hy => by have := htm y hy; omega)
        have hxm : frstS lot (topS SV C) ∈ topS SV C := by
          obtain ⟨a, ha⟩ := List.exists_mem_of_ne_nil _ (topS_ne Hst.out (show 0 < C by omega) hC10)
          unfold frstS
          cases hf : lot.find? (inL (topS SV C)) with
          | none => exact absurd (inL_iff.2 ha) (by have := List.find?_eq_none.1 hf a (lot_in Hlot.out ((top_sub SV C).subset ha)); simpa using this)
          | some y => exact inL_iff.1 (by simpa using List.find?_some hf)
        have hxr := htm _ hxm
        clear htm hxm hT'
        go_wp2_with fail
        refine (rfirst_any At nt ct lot Au na cu (topS SV C) wo (hl.below hbwo) hI2).mono ?_
        rintro e w' ⟨rfl, rfl⟩
        clear p0
        generalize frstS lot (topS SV C) = x at *
        have hXo := hX6.below hb hX6.lt
        have q0 := hXo.cell 0
        have q2 := hXo.cell 2
        obtain ⟨be, oe, ve, ee, hcx, _, hatx, _⟩ := (hEl6.below hb).step (show 0 < 1 by omega)
        cases ee
        obtain rfl : x = ve := by have e := hatx.out; simpa using e
        simp only [Nat.add_zero] at hcx
        have f9 : (x == x) = true := by simp
        clear hatx
        go_upto_region 23 with fail
        refine wp_region_flowz [0, 1, 2, 3, 4, 5, 6, 7, 8, 9, 10, 11, 12, 13, 14, 15] [0, 1, 2, 3, 4, 5, 6, 7, 8, 9, 10, 11, 12, 13, 14, 15, 18, 19, 21, 22] (fun w' => ∃ q, w' = More wo q) (by kernel_rfl) (by kernel_rfl) (below_more ((Below.refl wo.heap.size wo).drew)) ?_
        simp only [pickOps, List.getElem?_cons_zero, List.getElem?_cons_succ]
        repeat (go_big_quiet_step (fail))
        refine wpQuiet_nil ?_
        have hdr : Below wo.heap.size wo wo.drew := (Below.refl _ _).drew
        clear q0 q2 hcx
        refine flow_one 16 (by kernel_rfl) rfl ?_
        go_wp2_with fail
        refine (tied_any wo.drew.heap.size (.slice none 0 0) (fun _ => False) [] Au na cu (topS SV C) x wo.drew (Nat.le_refl _) (OAgg.nil_ _ _ _ _ _) (hI2.below hdr) (fun b e => by cases e) (by unfold I64; omega) (by simp)).mono ?_
        rintro e w17 ⟨vt', fp', rfl, hT17, hft', hvt', hF17⟩
        obtain ⟨At', ct', rfl⟩ := hT17.slice
        have hb17 : Below wo.heap.size wo w17 := Frame'.below hdr hF17 (fun b e => by cases e) (Nat.le_refl _)
        clear hdr
        go_wp2
        refine FlowPost.mk ⟨below_more hb17, ?_⟩
        refine flow_one 17 (by kernel_rfl) rfl ?_
        go_wp2_with fail
        refine (ties_eq _ _ _ _ _ _ _ w17 ((hTs6.below below_tie hb).below below_tie hb17) hT17.reads).mono ?_
        rintro e w18 ⟨rfl, hb18⟩
        have hbo18 := Below_trans' hb17 hb17.size hb18
        go_wp2
        refine FlowPost.mk ⟨below_more hbo18, ?_⟩
        refine flow_pure [18, 19] (by kernel_rfl) (below_more hbo18) ?_
        simp only [pickOps, List.getElem?_cons_zero, List.getElem?_cons_succ]
        repeat (go_big_quiet_step (fail))
        refine wpQuiet_nil ?_
        refine flow_one 20 (by kernel_rfl) rfl ?_
        go_wp2_with fail
        refine (wakes13_any w18).mono ?_
        rintro e w19 ⟨rfl, hb19⟩
        have hbo19 := Below_trans' hbo18 hbo18.size hb19
        go_wp2
        refine FlowPost.mk ⟨below_more hbo19, ?_⟩
        refine flow_pure [21, 22] (by kernel_rfl) (below_more hbo19) ?_
        simp only [pickOps, List.getElem?_cons_zero, List.getElem?_cons_succ]
        repeat (go_big_quiet_step (fail))
        refine wpQuiet_nil ?_
        refine flow_rest [] (by kernel_rfl) ?_
        simp only [pickOps]
        go_wp2
        go_ret
        exact ⟨rfl, Below_trans' hbwo hbwo.size hbo19⟩
  · have e1 : (mayS c k l 1 1 1 lot == 0) = false := by simp [hE]
    clear hE
    go_wp2_with fail
    refine (wakes13_any _).mono ?_
    rintro e w9 ⟨rfl, hb9⟩
    go_wp2
    go_ret
    exact ⟨rfl, Below_trans' hbw0 (hbw0).size hb9⟩
end Go.Proofs.YtkhclcdmehjfkaaGreat
