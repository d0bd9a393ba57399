/-
  The law CoombsRounds.
-/
import Derived.Test.YtcmoekkaakkpjaaGreatSpecCr
import Derived.Test.YtcmoekkaakkpjaaGreatW16c
import Derived.Test.YtcmoekkaakkpjaaGreatW11h
import Derived.Test.YtcmoekkaakkpjaaGreatFlow2
import Derived.Deep.CutBlock
namespace Go.Proofs.YtcmoekkaakkpjaaGreat
open Go.RowKit Go.Proofs Go.Shelf
attribute [local go_sem] cell?_more cell?_alloc_some cell?_setCell_far frozen?_alloc_some frozen?_more

theorem mayCr_any (c k : Int) (A : Option Addr) (n cp : Nat) (l : List Row) (At : Option Addr) (nt ct : Nat) (lot : List Int) (w : World) (h : RRows w A n cp l) (h' : RInts w At nt ct lot) :
    Calls Tryz.prog 38 #[.agg #[.int .i64 c, .int .u8 k, .slice A n cp], .slice At nt ct] w fun e w' => e = .returned (.bool (mayS c k l 1 1 1 lot == 0)) ∧ Below w.heap.size w w' := by
  have hb0 : Below w.heap.size w (w.alloc (.cells #[.int .i64 c, .int .u8 k, .slice A n cp] 24)) := below_allocN
  have hP0 := Has.new w 24 #[.int .i64 c, .int .u8 k, .slice A n cp]
  generalize hW : World.alloc w _ = W0 at hb0 hP0
  have p0 := hP0.cell 0
  have p1 := hP0.cell 1
  have p2 := hP0.cell 2
  go_enter Tryz.func38, Tryz.ntmps38
  go_wp2_with fail
  try simp only [hW]
  clear hW
  refine (may_any c k A n cp l 1 1 1 At nt ct lot W0 (h.below hb0) (h'.below hb0)).mono ?_
  rintro e w1 ⟨rfl, hb1⟩
  go_wp2
  go_ret
  exact ⟨rfl, Below_trans' hb0 hb0.size hb1⟩


theorem tru_set {C j : Nat} (hj : j < C) : (List.replicate j true ++ List.replicate (C - j) false).set j true = List.replicate (j + 1) true ++ List.replicate (C - (j + 1)) false := by
  refine List.ext_getElem? fun i => ?_
  rw [List.getElem?_set]
  by_cases e : j = i
  · subst e; rw [if_pos rfl, if_pos (by simp; omega), List.getElem?_append_left (by simp)]; simp
  · rw [if_neg e, List.getElem?_append, List.getElem?_append, List.length_replicate, List.length_replicate]
    by_cases h1 : i < j
    · rw [if_pos h1, if_pos (by omega), List.getElem?_replicate, List.getElem?_replicate, if_pos h1, if_pos (by omega)]
    · rw [if_neg h1, if_neg (by omega), List.getElem?_replicate, List.getElem?_replicate]
      by_cases h2 : i < C
      · rw [if_pos (by omega), if_pos (by omega)]
      · rw [if_neg (by omega), if_neg (by omega)]

set_option maxRecDepth 100000 in
set_option maxHeartbeats 4000000 in
theorem coombsRounds_any (c k : Int) (A : Option Addr) (n cp : Nat) (l : List Row) (At : Option Addr) (nt ct : Nat) (lot : List Int) (w : World) (h : RRows w A n cp l) (hl : RInts w At nt ct lot) :
    Calls Tryz.prog 8 #[.agg #[.int .i64 c, .int .u8 k, .slice A n cp], .slice At nt ct] w fun e w' => e = .returned (.bool true) ∧ Below w.heap.size w w' := by
  have hb : Below w.heap.size w (w.alloc (.cells #[.int .i64 c, .int .u8 k, .slice A n cp] 24)) := below_allocN
  have hP := Has.new w 24 #[.int .i64 c, .int .u8 k, .slice A n cp]
  generalize hW : World.alloc w _ = W0 at hb hP
  have p0 := hP.cell 0
  have p1 := hP.cell 1
  have p2 := hP.cell 2
  go_enter Tryz.func8, Tryz.ntmps8
  go_wp2_with fail
  try simp only [hW]
  clear hW
  refine (mayCr_any c k A n cp l At nt ct lot W0 (h.below hb) (hl.below hb)).mono ?_
  rintro e z0 ⟨rfl, hbz0⟩
  have hbw0 := Below_trans' hb hb.size hbz0
  replace hP := hP.below hbz0 hP.lt
  clear p0 p1 p2
  by_cases hE : mayS c k l 1 1 1 lot = 0
  · have e1 : (mayS c k l 1 1 1 lot == 0) = true := by simp [hE]
    obtain ⟨hc0, hk0, _, _, _, hlot⟩ := may_zero hE
    subst hk0
    have hcs := check_ok hc0
    obtain ⟨C, rfl⟩ : ∃ C : Nat, c = (C : Int) := ⟨c.toNat, by omega⟩
    have Rk := hide (rank_ok hc0)
    have Hnd := hide (marks_once hc0 rfl)
    have Hlot := hide hlot
    have hro := hide (runB_ok hE)
    have hE0 := hide hE
    have hc00 := hide hc0
    have hC10 := (rank_ok hc0).c10
    have hC1 := (rank_ok hc0).c1
    have hnt : nt ≤ 10 := by have h1 := lot_len hlot; have h2 := hl.len; omega
    obtain ⟨x, rs, te, hcx, hrun, hrl, hx0, hx1⟩ := runB_of (l := l) hlot C (rangeI C) [] [] (List.Sublist.refl _) (fun e => by have := congrArg List.length e; rw [length_rangeI] at this; simp at this; omega) (by rw [length_rangeI]; exact Nat.le_refl _)
    rw [length_rangeI] at hrl
    rw [List.nil_append] at hcx
    have hr1 : 1 ≤ rs.length := List.length_pos_iff.2 hrun.ne
    have hout : Hid (runB C 1 l 1 lot = ([x], rs, te)) := by unfold Hid; rw [hro.out, Int.toNat_natCast]; exact hcx
    have Hrun := hide hrun
    have hF0 := hide (firstsE_ok hc0 rfl)
    clear hcs hE hc0 hlot hcx hrun
    have p0 := hP.cell 0
    have p1 := hP.cell 1
    have p2 := hP.cell 2
    go_wp2_with fail
    refine (pcountB_any C 1 A n cp l 1 At nt ct lot z0 (h.below hbw0) (hl.below hbw0) (by omega)).mono ?_
    rintro e z1 ⟨Ae, ne, ce, Ar, nr, cr, Av, nv, cv, rfl, hO, hbz1⟩
    rw [hout.out] at hO
    rw [hE0.out]
    have hnr : nr = rs.length := hO.2.1.len.symm
    subst hnr
    have hne : ne = 1 := hO.1.len.symm
    subst hne
    clear p0 p1 p2
    go_upto_region 4 with fail
    have hbz2 : Below z1.heap.size z1 (z1.alloc (.cells #[.slice Ae 1 ce, .slice Ar rs.length cr, .slice Av nv cv] 33)) := below_allocN
    have hX := Has.new z1 33 #[.slice Ae 1 ce, .slice Ar rs.length cr, .slice Av nv cv]
    generalize World.alloc z1 _ = z2 at hbz2 hX ⊢
    have hb02 := Below_trans' hbz1 hbz1.size hbz2
    have hbw2 := Below_trans' hbw0 hbw0.size hb02
    have hP2 := hP.below hb02 hP.lt
    have p0 := hP2.cell 0
    have p1 := hP2.cell 1
    have p2 := hP2.cell 2
    have hRs := hO.2.1.below below_rnd hbz2
    have hEl := hO.1.below hbz2
    have hTs := hO.2.2.below below_tie hbz2
    have q0 := hX.cell 0
    have q1 := hX.cell 1
    have hmk := run_make_row' (P := Tryz.prog) 26 4 (.bool false) 1 Tryz.underlying26 info4 rfl .i64 .i64 C (by omega) (by omega)
    have hM := OwnB.made z2 z2.heap.size C (Nat.le_refl _) (by omega)
    have hbM : Below z2.heap.size z2 (z2.alloc (.cells (madeCells #[.bool false] C) 4)) := below_allocN
    have hgM : z2.heap.size < (z2.alloc (.cells (madeCells #[.bool false] C) 4)).heap.size := by simp
    clear hO hP hbz1 hbz2 p1 p2
    go_wp2
    clear p0 q0 q1 hmk
    generalize World.alloc z2 _ = w3 at hM hbM hgM ⊢
    go_loopw [8] (fun i wr => ∃ j : Nat, j ≤ C ∧ i = .int .i64 j ∧ OwnB wr z2.heap.size (.slice (some ⟨z2.heap.size, 0, none⟩) C C) (List.replicate j true ++ List.replicate (C - j) false) ∧ Below z2.heap.size z2 wr ∧ z2.heap.size < wr.heap.size) (fun i _ => C - (intOf i).toNat)
    case atStart => exact ⟨0, Nat.zero_le _, rfl, by simpa using hM, hbM, hgM⟩
    case round =>
      clear hM hbM hgM
      obtain ⟨j, hj, rfl, hM, hb, hgz⟩ := hrel
      have hPr := hP2.below hb hP2.lt
      have p0 := hPr.cell 0
      by_cases hjc : j < C
      · have hlj : (List.replicate j true ++ List.replicate (C - j) false).length = C := by simp; omega
        obtain ⟨⟨u, hu⟩, hfu, hBg⟩ := hM.at hlj hjc
        have hset := hide (tru_set hjc)
        have hM2 := hM.set hlj j true
        have hb5 := hb.setCell (p := ⟨z2.heap.size, j, none⟩) (Nat.le_refl _) (.bool true)
        have hsz5 : z2.heap.size < (wr.setCell ⟨z2.heap.size, j, none⟩ (.bool true)).heap.size := by simpa [World.setCell] using hgz
        go_wp2
        go_roundw
        case rel => exact ⟨j + 1, by omega, by go_num, by rw [← hset.out]; exact hM2, hb5, hsz5⟩
        case measure => simp [intOf] <;> omega
      · obtain rfl : C = j := by omega
        rw [Nat.sub_self, List.replicate_zero, List.append_nil] at hM
        obtain ⟨wq, rfl⟩ : ∃ wq : World, wq = wr := ⟨_, rfl⟩
        have hst := hide (StayOK.start C)
        have hne0 : Hid (rangeI C ≠ []) := fun e => by have := congrArg List.length e; rw [length_rangeI] at this; simp at this; omega
        go_wp2
        clear p0
        go_loopw [9, 10] (fun v i wr => ∃ (t : Nat) (left : List Int) (bs : List Bool) (ts : List Row) (ft : Nat → Prop), t < rs.length ∧ i = .int .i64 t ∧ Hid (RunB l C lot x te left ts (rs.drop t)) ∧ Hid (left.Sublist (rangeI C)) ∧ Hid (left ≠ []) ∧ Hid (StayOK C bs left) ∧ OwnB wr z2.heap.size (.slice (some ⟨z2.heap.size, 0, none⟩) C C) bs ∧ OAgg ETie 86 2 ft wr (z2.heap.size + 1) v ts ∧ Hid (∀ b, ft b → z2.heap.size + 1 ≤ b) ∧ ts.length ≤ t ∧ Below z2.heap.size z2 wr ∧ z2.heap.size < wr.heap.size) (fun v i _ => rs.length - (intOf i).toNat)
        case atStart => exact ⟨0, rangeI C, List.replicate C true, [], fun _ => False, by omega, rfl, by rw [List.drop_zero]; exact Hrun.out, List.Sublist.refl _, hne0.out, hst.out, hM, OAgg.nil_ _ _ _ _ _, fun _ h => h.elim, Nat.zero_le _, hb, hgz⟩
        case round =>
          clear hM hb hgz hst hne0 hPr
          obtain ⟨t, left, bs, ts, ft, ht, rfl, HR, Hsub, Hne, Hst, hS, hT, Hft, htl, hb, hgz⟩ := hrel
          obtain ⟨wo, rfl⟩ : ∃ wo : World, wo = wr := ⟨_, rfl⟩
          obtain ⟨Avt, cvt, evt⟩ := hT.slice
          have hntl := hide (rfl : ts.length = ts.length)
          generalize hnvt : ts.length = nvt at evt
          subst evt
          clear hntl
          have hT0 := hide (fun b (e : (Value.slice Avt nvt cvt).ownBlock = some b) => hT.lt e)
          obtain ⟨el, out, rs', hrs, hcase⟩ := HR.out.head
          have hat : rs[t]? = some (rndS (hadL (inL left) l C) (lostS (inL left) l) el out) := by have e := congrArg (fun z => z[0]?) hrs; simpa [List.getElem?_drop] using e
          have hnx : Hid (rs.drop (t + 1) = rs') := by unfold Hid; rw [← List.drop_drop, hrs]; rfl
          have Hcase := hide hcase
          have hXr := hX.below hb hX.lt
          have q1 := hXr.cell 1

          obtain ⟨bR, oR, vs, x', eAr, _, hcR, hER, _, hatR⟩ := hRs.step (show t < rs.length from ht)
          obtain rfl : rndS (hadL (inL left) l C) (lostS (inL left) l) el out = x' := Option.some.inj (hat.symm.trans hatR.out)
          obtain ⟨A1, n1, c1, a1, a2, a3, A2, n2, c2, A3, n3, c3, rfl, h5, hL, h7, h9⟩ := hER
          obtain ⟨C1, k1, d1, C2, k2, d2, eq1, g1, g2⟩ := hL
          cases eq1
          dsimp only [rndS, wholeS] at h5 g1 g2 h7 h9
          have r0 := keep_cell hb (hcR 0 _ rfl)
          have r1 := keep_cell hb (hcR 1 _ rfl)
          have r2 := keep_cell hb (hcR 2 _ rfl)
          have r3 := keep_cell hb (hcR 3 _ rfl)
          have r4 := keep_cell hb (hcR 4 _ rfl)
          have r5 := keep_cell hb (hcR 5 _ rfl)
          simp only [Nat.add_zero] at r0
          dsimp only [rndS, wholeS] at r1
          have Hn2 := hide h7.len
          have Hn3 := hide h9.len
          clear hcR hat hatR hrs hcase
          subst eAr
          go_upto_region 16 with fail
          have hb4 : Below wo.heap.size wo (wo.alloc (.cells #[.slice A1 n1 c1, .bool false, .slice C1 k1 d1, .slice C2 k2 d2, .slice A2 n2 c2, .slice A3 n3 c3] 54)) := below_allocN
          have hG4 := Has.new wo 54 #[.slice A1 n1 c1, .bool false, .slice C1 k1 d1, .slice C2 k2 d2, .slice A2 n2 c2, .slice A3 n3 c3]
          generalize World.alloc wo _ = w4 at hb4 hG4 ⊢
          clear r0 r1 r2 r3 r4 r5 q1
          have hz4 := Below_trans' hb hb.size hb4
          have hP4 := hP2.below hz4 hP2.lt
          have p0 := hP4.cell 0
          have p1 := hP4.cell 1
          have p2 := hP4.cell 2
          have hbw4 := Below_trans' hbw2 hbw2.size hz4
          have hS4 := hS.below hb4
          have hisS : isS bs = inL left := stay_isS Hst.out
          have hlf : leftT bs C = left := left_bools Hst.out Hsub.out
          have hFl : firstsL C 1 l bs = hadL (inL left) l C := by unfold firstsL; rw [if_pos hF0.out, hisS, Int.toNat_natCast]
          have hFn : firstsN C 1 l bs = lostS (inL left) l := by unfold firstsN; rw [if_pos hF0.out, hisS]
          have hLl : lastsL C 1 l bs = badL left l C := by unfold lastsL; rw [if_pos hF0.out, Int.toNat_natCast, hlf]
          have hfi := pfirsts_any C 1 A n cp l (some ⟨z2.heap.size, 0, none⟩) C C bs w4 (h.below hbw4) hS4.bools
          unfold FsPost at hfi
          rw [hFl, hFn, hF0.out] at hfi
          clear hisS hlf hFl hFn
          go_wp2_with fail
          refine hfi.mono ?_
          rintro e w5 ⟨v5, rfl, hO5, hb5⟩
          clear hfi p0 p1 p2
          have hz5 := Below_trans' hz4 hz4.size hb5
          have hbw5 := Below_trans' hbw2 hbw2.size hz5
          have hS5 := hS4.below hb5
          have hP5 := hP2.below hz5 hP2.lt
          have p0 := hP5.cell 0
          have p1 := hP5.cell 1
          have p2 := hP5.cell 2
          obtain ⟨A5, c5, rfl⟩ := hO5.slice
          have hR5 := hO5.ints (fun y hy => by have := Rk.out.hads _ y hy; omega)
          rw [length_hadL] at hR5 ⊢
          clear hO5
          have hla := plasts_any C 1 A n cp l (some ⟨z2.heap.size, 0, none⟩) C C bs w5 (h.below hbw5) hS5.bools
          unfold LsPost at hla
          rw [hLl, hF0.out] at hla
          clear hLl
          go_wp2_with fail
          refine hla.mono ?_
          rintro e w6 ⟨v6, rfl, hO6, hb6⟩
          clear hla p0 p1 p2
          have hbdb := hide (fun y => badS_bd (left := left) Rk.out.pos y)
          have hto := Rk.out.tot
          obtain ⟨A6, c6, rfl⟩ := hO6.slice
          have hR6 := hO6.ints (fun y hy => by obtain ⟨z, _, rfl⟩ := List.mem_map.1 hy; have := hbdb.out (z : Int); omega)
          rw [length_badL] at hR6 ⊢
          clear hO6
          have hz6 := Below_trans' hz5 hz5.size hb6
          have hb46 := Below_trans' hb5 hb5.size hb6
          have hG6 := hG4.below hb46 hG4.lt
          have hP6 := hP2.below hz6 hP2.lt
          have p0 := hP6.cell 0
          have s0 := hG6.cell 0
          have s1 := hG6.cell 1
          have s2 := hG6.cell 2
          have s3 := hG6.cell 3
          go_upto_region 18 with fail
          refine wp_region_flowz [0, 1, 2] [0, 1, 2, 3, 4, 5, 6, 7, 8, 9, 10, 11, 12, 13, 14, 15, 16, 17, 18, 19, 20, 21, 22, 23, 26, 27, 28, 29, 30, 31, 34, 35] (fun w' => ∃ q, w' = More w6 q) (by kernel_rfl) (by kernel_rfl) (below_more ((Below.refl w6.heap.size w6).drew)) ?_
          simp only [pickOps, List.getElem?_cons_zero, List.getElem?_cons_succ]
          repeat (go_big_quiet_step (fail))
          refine wpQuiet_nil ?_
          have hdr : Below w6.heap.size w6 w6.drew := (Below.refl _ _).drew
          refine flow_pure [3, 4, 5, 6, 7, 8, 9, 10, 11, 12, 13, 14, 15, 16, 17, 18, 19, 20, 21, 22, 23] (by kernel_rfl) (below_more hdr) ?_
          simp only [pickOps, List.getElem?_cons_zero, List.getElem?_cons_succ]
          repeat (go_big_quiet_step (fail))
          refine wpQuiet_nil ?_
          clear s0 p0
          refine flow_one 24 (by kernel_rfl) rfl ?_
          go_wp2_with fail
          refine (rwholes_any A5 C c5 (hadL (inL left) l C) w6.drew ((hR5.below hb6).below hdr) (by omega) (fun y hy => by have := Rk.out.hads _ y hy; omega)).mono ?_
          rintro e w7 ⟨v7, fp7, rfl, hO7, hf7, hb7⟩
          have hb67 : Below w6.heap.size w6 w7 := Below_trans' hdr (Nat.le_refl _) hb7
          have hz7 := Below_trans' hz6 hz6.size hb67
          obtain ⟨A7, c7, rfl⟩ := hO7.slice
          have hR7 := hO7.reads
          rw [List.length_map, length_hadL] at hR7 ⊢
          obtain rfl : C = n1 := by have := h5.len; rw [List.length_map, length_hadL] at this; exact this
          clear hO7 hf7 hdr
          go_wp2
          refine FlowPost.mk ⟨below_more hb67, ?_⟩
          refine flow_one 25 (by kernel_rfl) rfl ?_
          go_wp2_with fail
          refine (rall4_eq _ _ _ _ _ _ _ w7 (h5.below below_rat hz7) hR7).mono ?_
          rintro e w8 ⟨rfl, hb8⟩
          have hb68 := Below_trans' hb67 hb67.size hb8
          clear hR7
          go_wp2
          refine FlowPost.mk ⟨below_more hb68, ?_⟩
          refine flow_pure [26, 27, 28, 29, 30, 31] (by kernel_rfl) (below_more hb68) ?_
          simp only [pickOps, List.getElem?_cons_zero, List.getElem?_cons_succ]
          repeat (go_big_quiet_step (fail))
          refine wpQuiet_nil ?_
          clear s1 s2 s3
          refine flow_one 32 (by kernel_rfl) rfl ?_
          have hlo := Rk.out.lost (inL left)
          go_wp2_with fail
          refine (rwhole_any (lostS (inL left) l) w8 hlo.1 (by have := hlo.2; omega)).mono ?_
          rintro e w9 ⟨An, nn, cn, Ad, nd, cd, rfl, hn9, hd9, hb9, hf9⟩
          have hb69 := Below_trans' hb68 hb68.size hb9
          have hz9 := Below_trans' hz6 hz6.size hb69
          clear hf9
          go_wp2
          refine FlowPost.mk ⟨below_more hb69, ?_⟩
          refine flow_one 33 (by kernel_rfl) rfl ?_
          go_wp2_with fail
          refine (rsame4_eq false C1 C2 An Ad k1 d1 k2 d2 nn cn nd cd _ _ w9 (g1.below hz9) (g2.below hz9) hn9 hd9).mono ?_
          rintro e wX ⟨rfl, hbX⟩
          have hb6X := Below_trans' hb69 hb69.size hbX
          have hzX := Below_trans' hz6 hz6.size hb6X
          clear hn9 hd9
          go_wp2
          refine FlowPost.mk ⟨below_more hb6X, ?_⟩
          refine flow_pure [34, 35] (by kernel_rfl) (below_more hb6X) ?_
          simp only [pickOps, List.getElem?_cons_zero, List.getElem?_cons_succ]
          repeat (go_big_quiet_step (fail))
          refine wpQuiet_nil ?_
          refine flow_rest [] (by kernel_rfl) ?_
          simp only [pickOps]
          have hgX := hgz
          have hPX := hP2.below hzX hP2.lt
          have hSX := ((hS5.below hb6).below hb6X)
          have hRX := ((hR5.below hb6).below hb6X)
          have hBX := hR6.below hb6X
          have hTX := ((hT.below (Below_trans' hb4 hb4.size hb5)).below hb6).below hb6X
          have hGX := hG6.below hb6X hG6.lt
          have hbwX := Below_trans' hbw2 hbw2.size hzX
          have p0 := hPX.cell 0
          clear hb67 hb68 hb69 hb8 hb7 hb9 hbX hz7 hz9 hG6 hP6 hS5 hS4 hS hR5 hR6 hT h5 g1 g2 hlo
          go_wp2
          go_loop [17, 18, 19, 20] (fun a m k i => ∃ j : Nat, j ≤ C ∧ i = .int .i64 j ∧ a = .int .i64 ((hadL (inL left) l C).take j).sum ∧ m = .int .i64 (maxT bs (fun y : Nat => badS left l (y : Int)) j) ∧ k = .int .i64 ((leftT bs j).length : Int)) (fun a m k i => C - (intOf i).toNat)
          case atStart => exact ⟨0, Nat.zero_le _, rfl, rfl, rfl, rfl⟩
          case round =>
            obtain ⟨j, hj, rfl, rfl, rfl, rfl⟩ := hrel
            have hsb := sum_take_bd (fun y hy => (Rk.out.hads (inL left) y hy).1) j
            have hss := Rk.out.sum (inL left)
            have hmb := maxT_bd (bs := bs) (bad := fun y : Nat => badS left l (y : Int)) (M := 1000000) (by omega) (fun y => by have := hbdb.out (y : Int); omega) j
            have hlb := length_leftT bs j
            by_cases hjc : j < C
            · obtain ⟨b1, o1, v1, rfl, hk1, _, hat1, _⟩ := hRX.step hjc
              obtain rfl : hadS (inL left) l (j : Int) = v1 := by have e := hat1.out; rw [get_hadL _ _ hjc] at e; exact Option.some.inj e
              obtain ⟨b2, o2, e2, hk2⟩ := hSX.bools.at hjc
              cases e2
              obtain ⟨b3, o3, v3, rfl, hk3, _, hat3, _⟩ := hBX.step hjc
              obtain rfl : badS left l (j : Int) = v3 := by have e := hat3.out; rw [get_badL _ _ hjc] at e; exact Option.some.inj e
              simp only [Nat.zero_add] at hk2
              have hvb := Rk.out.had (inL left) j
              have hbb := hbdb.out (j : Int)
              have hsn : Hid (((hadL (inL left) l C).take (j + 1)).sum = ((hadL (inL left) l C).take j).sum + hadS (inL left) l (j : Int)) := by unfold Hid; rw [List.take_add_one, hat1.out, List.sum_append]; simp
              have hls := hide (leftT_succ bs j)
              have hms := hide (maxT_succ bs (fun y : Nat => badS left l (y : Int)) j)
              clear hat1 hat3
              generalize ((hadL (inL left) l C).take j).sum = sj at *
              generalize maxT bs (fun y : Nat => badS left l (y : Int)) j = mj at *
              cases hv : bs.getD j false with
              | true =>
                rw [hv] at hk2
                have hls' : Hid ((leftT bs (j + 1)).length = (leftT bs j).length + 1) := by unfold Hid; rw [hls.out, if_pos hv, List.length_append]; rfl
                have hms' : Hid (maxT bs (fun y : Nat => badS left l (y : Int)) (j + 1) = max mj (badS left l (j : Int))) := by unfold Hid; rw [hms.out, if_pos hv]
                clear hv hls hms
                generalize (leftT bs j).length = lj at *
                go_wp2
                go_round
                case rel => exact ⟨j + 1, by omega, by go_num, congrArg (Value.int .i64) hsn.out.symm, congrArg (Value.int .i64) hms'.out.symm, congrArg (Value.int .i64) (by rw [hls'.out]; omega)⟩
                case measure => simp [intOf] <;> omega
              | false =>
                rw [hv] at hk2
                have hls' : Hid ((leftT bs (j + 1)).length = (leftT bs j).length) := by unfold Hid; rw [hls.out, if_neg (by rw [hv]; simp), List.append_nil]
                have hms' : Hid (maxT bs (fun y : Nat => badS left l (y : Int)) (j + 1) = mj) := by unfold Hid; rw [hms.out, if_neg (by rw [hv]; simp)]
                clear hv hls hms
                generalize (leftT bs j).length = lj at *
                go_wp2
                go_round
                case rel => exact ⟨j + 1, by omega, by go_num, congrArg (Value.int .i64) hsn.out.symm, congrArg (Value.int .i64) hms'.out.symm, congrArg (Value.int .i64) (by rw [hls'.out])⟩
                case measure => simp [intOf] <;> omega
            · obtain rfl : C = j := by omega
              have htk : (hadL (inL left) l C).take C = hadL (inL left) l C := List.take_of_length_le (by rw [length_hadL]; exact Nat.le_refl _)
              rw [htk] at hsb ⊢
              rw [left_bools Hst.out Hsub.out] at hlb ⊢
              have hmost := hide (among_most Hst.out Hsub.out Hne.out Rk.out.pos)
              have hends := hide (ends_win (had := hadL (inL left) l C) Hsub.out Hne.out hsb.1 (fun y hy => by
                by_cases hyc : y < C
                · rw [getI_had ⟨by omega, by omega⟩]; exact had_none hy
                · unfold getI; rw [Int.toNat_natCast, List.getD, List.getElem?_eq_none (by rw [length_hadL]; omega)]; rfl))
              have hone : Hid (((left.length : Int) == 1) = endsT (decide (left.length = 1)) (hadL (inL left) l C) 0) := by
                unfold Hid endsT
                rw [List.range_zero, List.any_nil, Bool.or_false, Bool.eq_iff_iff]; simp only [beq_iff_eq, decide_eq_true_eq]; omega
              have hgI := hide (fun y (hy : y < C) => getI_had (φ := inL left) (l := l) (C := C) (x := (y : Int)) ⟨by omega, by omega⟩)
              generalize maxT bs (fun y : Nat => badS left l (y : Int)) C = M at *
              clear htk
              go_wp2
              clear p0
              go_loopw [21, 22, 23] (fun e v i wr => ∃ j : Nat, j ≤ C ∧ i = .int .i64 j ∧ e = .bool (endsT (decide (left.length = 1)) (hadL (inL left) l C) j) ∧ Own wr wX.heap.size v (amongT bs (fun y : Nat => badS left l (y : Int)) M j) ∧ Below wX.heap.size wX wr) (fun e v i _ => C - (intOf i).toNat)
              case atStart => exact ⟨0, Nat.zero_le _, rfl, congrArg Value.bool hone.out, Own.nil_ _ _, Below.refl _ _⟩
              case round =>
                obtain ⟨j, hj, rfl, rfl, hA, hbA⟩ := hrel
                have hzA := hbA.size
                have hPA := hPX.below hbA hPX.lt
                have p0 := hPA.cell 0
                have hla := length_amongT bs (fun y : Nat => badS left l (y : Int)) M j
                by_cases hjc : j < C
                · obtain ⟨b1, o1, v1, rfl, hk1, _, hat1, _⟩ := (hRX.below hbA).step hjc
                  obtain rfl : hadS (inL left) l (j : Int) = v1 := by have e := hat1.out; rw [get_hadL _ _ hjc] at e; exact Option.some.inj e
                  obtain ⟨b2, o2, e2, hk2⟩ := (hSX.below hbA).bools.at hjc
                  cases e2
                  obtain ⟨b3, o3, v3, rfl, hk3, _, hat3, _⟩ := (hBX.below hbA).step hjc
                  obtain rfl : badS left l (j : Int) = v3 := by have e := hat3.out; rw [get_badL _ _ hjc] at e; exact Option.some.inj e
                  simp only [Nat.zero_add] at hk2
                  have hvb := Rk.out.had (inL left) j
                  have hbb := hbdb.out (j : Int)
                  have hes := hide (endsT_succ (one := decide (left.length = 1)) (had := hadL (inL left) l C) (t := j))
                  have hgj := hgI.out j hjc
                  have has := hide (amongT_succ bs (fun y : Nat => badS left l (y : Int)) M j)
                  clear hat1 hat3
                  cases he : endsT (decide (left.length = 1)) (hadL (inL left) l C) j with
                  | true =>
                    have hen : Hid (true = endsT (decide (left.length = 1)) (hadL (inL left) l C) (j + 1)) := by unfold Hid; rw [hes.out, he]; rfl
                    clear he hes hgj
                    cases hv : bs.getD j false with
                    | true =>
                      rw [hv] at hk2
                      by_cases heq : badS left l (j : Int) = M
                      · have f1 : (badS left l (j : Int) == M) = true := by simp [heq]
                        have has' : Hid (amongT bs (fun y : Nat => badS left l (y : Int)) M (j + 1) = amongT bs (fun y : Nat => badS left l (y : Int)) M j ++ [(j : Int)]) := by unfold Hid; rw [has.out, if_pos (by rw [hv]; simp [heq])]
                        clear hv has heq
                        go_wp2_with (at_builtin; refine appInt rfl rfl rfl (hA.below below_allocN) rfl ((Has.new _ _ _).cell 0) (by omega) (by simp; omega) ?_)
                        intro v' w' hO' hg
                        go_wp2
                        go_roundw
                        case rel => exact ⟨j + 1, by omega, by go_num, congrArg Value.bool hen.out, by rw [has'.out]; exact hO', (hbA.alloc hzA _).grown hg (by simp; omega) (fun i hi => (hA.lt i hi).1)⟩
                        case measure => simp [intOf] <;> omega
                      · have f1 : (badS left l (j : Int) == M) = false := by simpa using heq
                        have has' : Hid (amongT bs (fun y : Nat => badS left l (y : Int)) M (j + 1) = amongT bs (fun y : Nat => badS left l (y : Int)) M j) := by unfold Hid; rw [has.out, if_neg (by rw [hv]; simp [heq]), List.append_nil]
                        clear hv has heq
                        go_wp2
                        go_roundw
                        case rel => exact ⟨j + 1, by omega, by go_num, congrArg Value.bool hen.out, by rw [has'.out]; exact hA, hbA⟩
                        case measure => simp [intOf] <;> omega
                    | false =>
                      rw [hv] at hk2
                      have has' : Hid (amongT bs (fun y : Nat => badS left l (y : Int)) M (j + 1) = amongT bs (fun y : Nat => badS left l (y : Int)) M j) := by unfold Hid; rw [has.out, if_neg (by rw [hv]; simp), List.append_nil]
                      clear hv has
                      go_wp2
                      go_roundw
                      case rel => exact ⟨j + 1, by omega, by go_num, congrArg Value.bool hen.out, by rw [has'.out]; exact hA, hbA⟩
                      case measure => simp [intOf] <;> omega
                  | false =>
                    by_cases hgt : (hadL (inL left) l C).sum < 2 * hadS (inL left) l (j : Int)
                    · have hen : Hid (true = endsT (decide (left.length = 1)) (hadL (inL left) l C) (j + 1)) := by unfold Hid; rw [hes.out, he, hgj]; simp [hgt]
                      clear he hes hgj
                      cases hv : bs.getD j false with
                      | true =>
                        rw [hv] at hk2
                        by_cases heq : badS left l (j : Int) = M
                        · have f1 : (badS left l (j : Int) == M) = true := by simp [heq]
                          have has' : Hid (amongT bs (fun y : Nat => badS left l (y : Int)) M (j + 1) = amongT bs (fun y : Nat => badS left l (y : Int)) M j ++ [(j : Int)]) := by unfold Hid; rw [has.out, if_pos (by rw [hv]; simp [heq])]
                          clear hv has heq
                          go_wp2_with (at_builtin; refine appInt rfl rfl rfl (hA.below below_allocN) rfl ((Has.new _ _ _).cell 0) (by omega) (by simp; omega) ?_)
                          intro v' w' hO' hg
                          go_wp2
                          go_roundw
                          case rel => exact ⟨j + 1, by omega, by go_num, congrArg Value.bool hen.out, by rw [has'.out]; exact hO', (hbA.alloc hzA _).grown hg (by simp; omega) (fun i hi => (hA.lt i hi).1)⟩
                          case measure => simp [intOf] <;> omega
                        · have f1 : (badS left l (j : Int) == M) = false := by simpa using heq
                          have has' : Hid (amongT bs (fun y : Nat => badS left l (y : Int)) M (j + 1) = amongT bs (fun y : Nat => badS left l (y : Int)) M j) := by unfold Hid; rw [has.out, if_neg (by rw [hv]; simp [heq]), List.append_nil]
                          clear hv has heq
                          go_wp2
                          go_roundw
                          case rel => exact ⟨j + 1, by omega, by go_num, congrArg Value.bool hen.out, by rw [has'.out]; exact hA, hbA⟩
                          case measure => simp [intOf] <;> omega
                      | false =>
                        rw [hv] at hk2
                        have has' : Hid (amongT bs (fun y : Nat => badS left l (y : Int)) M (j + 1) = amongT bs (fun y : Nat => badS left l (y : Int)) M j) := by unfold Hid; rw [has.out, if_neg (by rw [hv]; simp), List.append_nil]
                        clear hv has
                        go_wp2
                        go_roundw
                        case rel => exact ⟨j + 1, by omega, by go_num, congrArg Value.bool hen.out, by rw [has'.out]; exact hA, hbA⟩
                        case measure => simp [intOf] <;> omega
                    · have hen : Hid (false = endsT (decide (left.length = 1)) (hadL (inL left) l C) (j + 1)) := by unfold Hid; rw [hes.out, he, hgj]; simp; omega
                      clear he hes hgj
                      cases hv : bs.getD j false with
                      | true =>
                        rw [hv] at hk2
                        by_cases heq : badS left l (j : Int) = M
                        · have f1 : (badS left l (j : Int) == M) = true := by simp [heq]
                          have has' : Hid (amongT bs (fun y : Nat => badS left l (y : Int)) M (j + 1) = amongT bs (fun y : Nat => badS left l (y : Int)) M j ++ [(j : Int)]) := by unfold Hid; rw [has.out, if_pos (by rw [hv]; simp [heq])]
                          clear hv has heq
                          go_wp2_with (at_builtin; refine appInt rfl rfl rfl (hA.below below_allocN) rfl ((Has.new _ _ _).cell 0) (by omega) (by simp; omega) ?_)
                          intro v' w' hO' hg
                          go_wp2
                          go_roundw
                          case rel => exact ⟨j + 1, by omega, by go_num, congrArg Value.bool hen.out, by rw [has'.out]; exact hO', (hbA.alloc hzA _).grown hg (by simp; omega) (fun i hi => (hA.lt i hi).1)⟩
                          case measure => simp [intOf] <;> omega
                        · have f1 : (badS left l (j : Int) == M) = false := by simpa using heq
                          have has' : Hid (amongT bs (fun y : Nat => badS left l (y : Int)) M (j + 1) = amongT bs (fun y : Nat => badS left l (y : Int)) M j) := by unfold Hid; rw [has.out, if_neg (by rw [hv]; simp [heq]), List.append_nil]
                          clear hv has heq
                          go_wp2
                          go_roundw
                          case rel => exact ⟨j + 1, by omega, by go_num, congrArg Value.bool hen.out, by rw [has'.out]; exact hA, hbA⟩
                          case measure => simp [intOf] <;> omega
                      | false =>
                        rw [hv] at hk2
                        have has' : Hid (amongT bs (fun y : Nat => badS left l (y : Int)) M (j + 1) = amongT bs (fun y : Nat => badS left l (y : Int)) M j) := by unfold Hid; rw [has.out, if_neg (by rw [hv]; simp), List.append_nil]
                        clear hv has
                        go_wp2
                        go_roundw
                        case rel => exact ⟨j + 1, by omega, by go_num, congrArg Value.bool hen.out, by rw [has'.out]; exact hA, hbA⟩
                        case measure => simp [intOf] <;> omega
                · obtain rfl : C = j := by omega
                  rw [hmost.out] at hA hla
                  obtain ⟨wE, rfl⟩ : ∃ wE : World, wE = wr := ⟨_, rfl⟩
                  have hmr : ∀ y ∈ mostS l C left, 0 ≤ y ∧ y < C := fun y hy => mem_rangeI.1 (Hsub.out.subset ((most_sub l C left).subset hy))
                  have Hmr := hide hmr
                  obtain ⟨Am, cm, rfl⟩ := hA.slice
                  have hRm := hA.ints (fun y hy => by have := hmr y hy; omega)
                  have hAm := hide (fun b (hb : fpS Am (mostS l C left).length b) => hA.own_lt (hA.fps hb))
                  have hzE := Below_trans' hzX hzX.size hbA
                  have hbwE := Below_trans' hbwX hbwX.size hbA
                  have hXE := hX.below hzE hX.lt
                  have q0 := hXE.cell 0
                  have q1 := hXE.cell 1
                  have hGE := hGX.below hbA hGX.lt
                  have s4 := hGE.cell 4
                  have s5 := hGE.cell 5
                  have hLen := hide (show rs.length - (t + 1) = rs'.length by rw [← hnx.out, List.length_drop])
                  clear hmr hone hsb hss hmb hlb hA
                  rcases Hcase.out with ⟨hw, hel, hou, hr', hte⟩ | ⟨hw, hel, hou, hr', hrun'⟩
                  · have htl1 : t + 1 = rs.length := by have := hLen.out; rw [hr'] at this; simp at this; omega
                    have f36 : ((t : Int) == (rs.length : Int) - 1) = true := by simp; omega
                    obtain rfl : n2 = 1 := by rw [← Hn2.out, hel]; rfl
                    obtain rfl : n3 = 0 := by rw [← Hn3.out, hou]; rfl
                    have hxl := List.mem_of_find?_eq_some hw
                    have hpw := List.find?_some hw
                    obtain ⟨X, rfl⟩ : ∃ X : Nat, x = X := ⟨x.toNat, by omega⟩
                    have hXC : X < C := by omega
                    have hbX : bs.getD X false = true := by rw [← isS_getD, Hst.out.2]; exact inL_iff.2 hxl
                    have hx2 : RInts wE A2 1 c2 [(X : Int)] := by rw [← hel]; exact h7.below hzE
                    obtain ⟨be, oe, ve, ee, hcx, _, hatx, _⟩ := (hEl.below hzE).step (show 0 < 1 by omega)
                    cases ee
                    obtain rfl : (X : Int) = ve := by have e := hatx.out; simpa using e
                    simp only [Nat.add_zero] at hcx
                    have Hte := hide hte
                    have Hpw := hide hpw
                    have HbX := hide hbX
                    clear hatx hxl hbX hw hel hou hr' hte hpw htl1
                    go_wp2_with fail
                    refine (ints_eq _ _ _ _ _ _ _ wE hx2 (hEl.below hzE)).mono ?_
                    rintro e wF ⟨rfl, hbF⟩
                    clear p0 q0 q1 s4 s5 hcx
                    have hzF := Below_trans' hzE hzE.size hbF
                    have hbXF := Below_trans' hbA hbA.size hbF
                    have hbwF := Below_trans' hbwX hbwX.size hbXF
                    have q2 := (hX.below hzF hX.lt).cell 2
                    have s5 := (hGX.below hbXF hGX.lt).cell 5
                    obtain ⟨b2, o2, e2, hk2⟩ := (hSX.below hbXF).bools.at hXC
                    cases e2
                    rw [HbX.out] at hk2
                    simp only [Nat.zero_add] at hk2
                    obtain ⟨b1, o1, v1, rfl, hk1, _, hat1, _⟩ := (hRX.below hbXF).step hXC
                    obtain rfl : hadS (inL left) l (X : Int) = v1 := by have e := hat1.out; rw [get_hadL _ _ hXC] at e; exact Option.some.inj e
                    have hvb := Rk.out.had (inL left) X
                    have hsm := Rk.out.sum (inL left)
                    have hsn := sum_take_bd (fun y hy => (Rk.out.hads (inL left) y hy).1) C
                    have hTF : RAgg ETie 2 wF Avt nvt cvt te := by
                      have e := hTX.reads.below below_tie hbXF
                      rw [Hte.out] at e
                      exact e
                    clear hat1 hsn
                    by_cases h1 : left.length = 1
                    · have g1' : ((left.length : Int) == 1) = true := by simp [h1]
                      clear h1
                      go_wp2_with fail
                      refine (ties_eq _ _ _ _ _ _ _ wF (hTs.below below_tie hzF) hTF).mono ?_
                      rintro e wG ⟨rfl, hbG⟩
                      have hbwG := Below_trans' hbwF hbwF.size hbG
                      go_wp2_with fail
                      refine (wakes16_any _).mono ?_
                      rintro e w9 ⟨rfl, hb9⟩
                      go_wp2
                      go_ret
                      exact ⟨rfl, Below_trans' hbwG (hbwG).size hb9⟩
                    · have g1' : ((left.length : Int) == 1) = false := by simp; omega
                      have hgt : (hadL (inL left) l C).sum < 2 * hadS (inL left) l (X : Int) := by
                        have e := Hpw.out
                        rw [hgI.out X hXC] at e
                        simpa [h1] using e
                      clear h1
                      go_wp2_with fail
                      refine (ties_eq _ _ _ _ _ _ _ wF (hTs.below below_tie hzF) hTF).mono ?_
                      rintro e wG ⟨rfl, hbG⟩
                      have hbwG := Below_trans' hbwF hbwF.size hbG
                      go_wp2_with fail
                      refine (wakes16_any _).mono ?_
                      rintro e w9 ⟨rfl, hb9⟩
                      go_wp2
                      go_ret
                      exact ⟨rfl, Below_trans' hbwG (hbwG).size hb9⟩
                  · have htl1 : t + 1 < rs.length := by have h1 := hLen.out; have h2 := List.length_pos_iff.2 hr'; omega
                    have f36 : ((t : Int) == (rs.length : Int) - 1) = false := by simp; omega
                    obtain rfl : n2 = 0 := by rw [← Hn2.out, hel]; rfl
                    obtain rfl : n3 = 1 := by rw [← Hn3.out, hou]; rfl
                    have hm := most_last (l := l) Hsub.out Hne.out Hlot.out
                    have hzr := Hmr.out _ hm
                    have hml := (most_sub l C left).subset hm
                    have hen : endsT (decide (left.length = 1)) (hadL (inL left) l C) C = false := by rw [hends.out, hw]; rfl
                    rw [hen]
                    have hln := length_outS ((nodup_rangeI C).sublist Hsub.out) hml
                    have hn1 : left.length ≠ 1 := fun e => win_of_one e hw
                    have hp1 := List.length_pos_iff.2 Hne.out
                    have hts := length_tiedS ts (mostS l C left) (lastS lot (mostS l C left))
                    have hla2 : ∀ q, Calls Tryz.prog 42 #[.slice At nt ct, .slice Am (mostS l C left).length cm] (More wE q) fun e w' => e = .returned (.int .i64 (lastS lot (mostS l C left))) ∧ More wE q = w' := fun q => rlast_any At nt ct lot Am _ cm (mostS l C left) _ ((hl.below hbwE).more _) (hRm.more _)
                    obtain ⟨Z, hZ⟩ : ∃ Z : Nat, lastS lot (mostS l C left) = (Z : Int) := ⟨(lastS lot (mostS l C left)).toNat, by omega⟩
                    rw [hZ] at hou hrun' hla2 hts hln hzr
                    have hZC : Z < C := by omega
                    have Hne2 : Hid (outS left (Z : Int) ≠ []) := List.length_pos_iff.1 (by omega)
                    have Hrun2 := hide hrun'
                    have HZ := hide hZ
                    obtain ⟨b4, o4, v4, e4, hk4, _, hat4, _⟩ := (h9.below hzE).step (show 0 < 1 by omega)
                    obtain rfl : (Z : Int) = v4 := by have e := hat4.out; rw [hou] at e; simpa using e
                    cases e4
                    simp only [Nat.add_zero] at hk4
                    have f39 : ((Z : Int) != (Z : Int)) = false := by simp
                    have hz2 := hzE.size
                    clear hat4 hw hel hr' hrun' hen hm hml hn1 hp1 hln hZ
                    go_upto_region 39 with fail
                    refine wp_region_more (by kernel_rfl) (by kernel_rfl) ?_
                    repeat (go_big_quiet_step (exact more_same (hla2 _)))
                    refine wpQuiet_nil ?_
                    rintro wL ⟨qwL, hwwL⟩
                    have hbwL := below_of_eq hwwL
                    clear hwwL qwL
                    clear hla2 p0 q0 q1 s4 s5 hk4
                    have hbEL := hbwL
                    have hbXL := Below_trans' hbA hbA.size hbEL
                    have hzL := Below_trans' hzE hzE.size hbEL
                    have hGL := hGX.below hbXL hGX.lt
                    have s5 := hGL.cell 5
                    obtain ⟨b4, o4, v4, e4, hk4, _, hat4, _⟩ := (h9.below hzL).step (show 0 < 1 by omega)
                    obtain rfl : (Z : Int) = v4 := by have e := hat4.out; rw [hou] at e; simpa using e
                    cases e4
                    simp only [Nat.add_zero] at hk4
                    have hTL := hTX.below hbXL
                    have hgz2 := hgz
                    have hzXs := hb6X.size
                    have hti := tied_any (z2.heap.size + 1) (.slice Avt nvt cvt) ft ts Am _ cm (mostS l C left) (Z : Int) wL (by have h1 := hbEL.size; have h2 := hbA.size; have h3 := hb46.size; have h4 := hb4.size; omega) hTL (hRm.below hbEL) (fun b hv hb => by
                      have h1 := hAm.out b hb
                      have h2 := (hT0.out b hv)
                      have h3 := hb46.size
                      have h4 := hb4.size
                      omega) ⟨by omega, by omega⟩ (by omega)
                    clear hat4
                    go_wp2_with fail
                    refine hti.mono ?_
                    rintro e wT ⟨v', ft', rfl, hT', hft', hvt', hF'⟩
                    clear hti s5 hk4
                    have hGT := hF'.has hGL (fun e => by have h1 := (hT0.out _ e).2; omega)
                    have s5 := hGT.cell 5
                    have hzT : Below z2.heap.size z2 wT := Frame'.below hzL hF' (fun b e => by have h1 := (hT0.out b e).1; omega) hzL.size
                    obtain ⟨b4, o4, v4, e4, hk4, _, hat4, _⟩ := (h9.below hzT).step (show 0 < 1 by omega)
                    obtain rfl : (Z : Int) = v4 := by have e := hat4.out; rw [hou] at e; simpa using e
                    cases e4
                    simp only [Nat.add_zero] at hk4
                    have hST := (hSX.below hbXL).frame hF' (fun e => by have h1 := (hT0.out _ e).1; omega)
                    have hlb : bs.length = C := Hst.out.1
                    obtain ⟨⟨u, hu⟩, hfu, hBg⟩ := hST.at hlb hZC
                    have hS9 := hST.set hlb Z false
                    have hF9 : Frame' (fun b => b = z2.heap.size) wT (wT.setCell ⟨z2.heap.size, Z, none⟩ (.bool false)) := Frame'.setCell (p := ⟨z2.heap.size, Z, none⟩) (Frame'.refl (fun b => b = z2.heap.size) wT) (.inl rfl) _
                    have hft2 : ∀ b, ft' b → z2.heap.size + 1 ≤ b := fun b hb => by
                      rcases hft' b hb with h1 | h1
                      · exact Hft.out b h1
                      · have h2 := hAm.out b h1; have h3 := hb46.size; have h4 := hb4.size; omega
                    have hT9 := hT'.frame hF9 (fun b hb e => by have := hft2 b hb; omega) (fun b hb e => by have := (hT'.lt hb).1; omega)
                    have hz9 : Below z2.heap.size z2 (wT.setCell ⟨z2.heap.size, Z, none⟩ (.bool false)) := hzT.setCell (p := ⟨z2.heap.size, Z, none⟩) (Nat.le_refl _) (.bool false)
                    have hs9 : z2.heap.size < (wT.setCell ⟨z2.heap.size, Z, none⟩ (.bool false)).heap.size := by have h1 := hF'.size; have h2 := hbEL.size; have h3 := hbA.size; have h4 := hb46.size; have h5 := hb4.size; simp only [World.setCell]; simp; omega
                    have Hft2 := hide hft2
                    clear hat4 hft2 hft' hvt'
                    obtain ⟨Av', cv', rfl⟩ := hT'.slice
                    go_wp2
                    go_roundw
                    case rel => exact ⟨t + 1, outS left (Z : Int), bs.set Z false, tiedS ts (mostS l C left) (Z : Int), ft', htl1, by go_num, by rw [hnx.out]; exact Hrun2.out, (outS_sub _ _).trans Hsub.out, Hne2.out, Hst.out.out hZC, hS9, hT9, Hft2.out, by omega, hz9, hs9⟩
                    case measure => simp [intOf] <;> omega
  · have e1 : (mayS c k l 1 1 1 lot == 0) = false := by simp [hE]
    clear hE
    go_wp2_with fail
    refine (wakes16_any _).mono ?_
    rintro e w9 ⟨rfl, hb9⟩
    go_wp2
    go_ret
    exact ⟨rfl, Below_trans' hbw0 (hbw0).size hb9⟩
end Go.Proofs.YtcmoekkaakkpjaaGreat
