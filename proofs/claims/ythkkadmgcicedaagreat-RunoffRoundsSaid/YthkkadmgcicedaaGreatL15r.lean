/-
  The law RunoffRounds.
-/
import Derived.Test.YthkkadmgcicedaaGreatSpecRr
import Derived.Test.YthkkadmgcicedaaGreatL15f
import Derived.Test.YthkkadmgcicedaaGreatW11h
import Derived.Test.YthkkadmgcicedaaGreatW9m
import Derived.Test.YthkkadmgcicedaaGreatFlow2
import Derived.Test.YthkkadmgcicedaaGreatQTail
import Derived.Deep.CutBlock
import Derived.Deep.CutRange
namespace Go.Proofs.YthkkadmgcicedaaGreat
open Go.RowKit Go.Proofs Go.Shelf
attribute [local go_sem] cell?_more cell?_alloc_some cell?_setCell_far frozen?_alloc_some frozen?_more
theorem mayRr_any (c k : Int) (A : Option Addr) (n cp : Nat) (l : List Row) (At : Option Addr) (nt ct : Nat) (lot : List Int) (w : World) (h : RRows w A n cp l) (h' : RInts w At nt ct lot) :
    Calls Tryz.prog 5 #[.agg #[.int .i64 c, .int .u8 k, .slice A n cp], .slice At nt ct] w fun e w' => e = .returned (.bool (mayS c k l 1 1 1 lot == 0)) ∧ Below w.heap.size w w' := by
  have hb0 : Below w.heap.size w (w.alloc (.cells #[.int .i64 c, .int .u8 k, .slice A n cp] 24)) := below_allocN
  have hP0 := Has.new w 24 #[.int .i64 c, .int .u8 k, .slice A n cp]
  generalize hW : World.alloc w _ = W0 at hb0 hP0
  have p0 := hP0.cell 0
  have p1 := hP0.cell 1
  have p2 := hP0.cell 2
  go_enter Tryz.func5, Tryz.ntmps5
  go_wp2_with fail
  try simp only [hW]
  clear hW
  refine (may_any c k A n cp l 1 1 1 At nt ct lot W0 (h.below hb0) (h'.below hb0)).mono ?_
  rintro e w1 ⟨rfl, hb1⟩
  go_wp2
  go_ret
  exact ⟨rfl, Below_trans' hb0 hb0.size hb1⟩


theorem tru_set {C j : Nat} (hj : j < C) : (List.replicate j true ++ List.replicate (C - j) false).set j true = List.replicate (j + 1) true ++ List.replicate (C - (j + 1)) false := by
  refine List.ext_getElem? fun i => ?_
  rw [List.getElem?_set]
  by_cases e : j = i
  · subst e; rw [if_pos rfl, if_pos (by simp; omega), List.getElem?_append_left (by simp)]; simp
  · rw [if_neg e, List.getElem?_append, List.getElem?_append, List.length_replicate, List.length_replicate]
    by_cases h1 : i < j
    · rw [if_pos h1, if_pos (by omega), List.getElem?_replicate, List.getElem?_replicate, if_pos h1, if_pos (by omega)]
    · rw [if_neg h1, if_neg (by omega), List.getElem?_replicate, List.getElem?_replicate]
      by_cases h2 : i < C
      · rw [if_pos (by omega), if_pos (by omega)]
      · rw [if_neg (by omega), if_neg (by omega)]

set_option maxRecDepth 100000 in
set_option maxHeartbeats 4000000 in
theorem runoffRounds_any (c k : Int) (A : Option Addr) (n cp : Nat) (l : List Row) (At : Option Addr) (nt ct : Nat) (lot : List Int) (w : World) (h : RRows w A n cp l) (hl : RInts w At nt ct lot) :
    Calls Tryz.prog 3 #[.agg #[.int .i64 c, .int .u8 k, .slice A n cp], .slice At nt ct] w fun e w' => e = .returned (.bool true) ∧ Below w.heap.size w w' := by
  have hb : Below w.heap.size w (w.alloc (.cells #[.int .i64 c, .int .u8 k, .slice A n cp] 24)) := below_allocN
  have hP := Has.new w 24 #[.int .i64 c, .int .u8 k, .slice A n cp]
  generalize hW : World.alloc w _ = W0 at hb hP
  have p0 := hP.cell 0
  have p1 := hP.cell 1
  have p2 := hP.cell 2
  go_enter Tryz.func3, Tryz.ntmps3
  go_wp2_with fail
  try simp only [hW]
  clear hW
  refine (mayRr_any c k A n cp l At nt ct lot W0 (h.below hb) (hl.below hb)).mono ?_
  rintro e z0 ⟨rfl, hbz0⟩
  have hbw0 := Below_trans' hb hb.size hbz0
  replace hP := hP.below hbz0 hP.lt
  clear p0 p1 p2
  by_cases hE : mayS c k l 1 1 1 lot = 0
  · have e1 : (mayS c k l 1 1 1 lot == 0) = true := by simp [hE]
    obtain ⟨hc0, hk0, _, _, _, hlot⟩ := may_zero hE
    subst hk0
    have hcs := check_ok hc0
    obtain ⟨C, rfl⟩ : ∃ C : Nat, c = (C : Int) := ⟨c.toNat, by omega⟩
    have Rk := hide (rank_ok hc0)
    have Hnd := hide (marks_once hc0 rfl)
    have Hlot := hide hlot
    have hro := hide (runO_ok hE)
    have hE0 := hide hE
    have hc00 := hide hc0
    have hC10 := (rank_ok hc0).c10
    have hC1 := (rank_ok hc0).c1
    have hnt : nt ≤ 10 := by have h1 := lot_len hlot; have h2 := hl.len; omega
    obtain ⟨x, rs, te, hcx, hrun, hrl, hx0, hx1⟩ := runR_of (l := l) hlot C (rangeI C) [] [] (List.Sublist.refl _) (fun e => by have := congrArg List.length e; rw [length_rangeI] at this; simp at this; omega) (by rw [length_rangeI]; exact Nat.le_refl _)
    rw [length_rangeI] at hrl
    rw [List.nil_append] at hcx
    have hr1 : 1 ≤ rs.length := List.length_pos_iff.2 hrun.ne
    have hout : Hid (runO C 1 l 1 lot = ([x], rs, te)) := by unfold Hid; rw [hro.out, Int.toNat_natCast]; exact hcx
    have Hrun := hide hrun
    have hF0 := hide (firstsE_ok hc0 rfl)
    clear hcs hE hc0 hlot hcx hrun
    have p0 := hP.cell 0
    have p1 := hP.cell 1
    have p2 := hP.cell 2
    go_wp2_with fail
    refine (pcount_any C 1 A n cp l 1 At nt ct lot z0 (h.below hbw0) (hl.below hbw0) (by omega)).mono ?_
    rintro e z1 ⟨Ae, ne, ce, Ar, nr, cr, Av, nv, cv, rfl, hO, hbz1⟩
    rw [hout.out] at hO
    rw [hE0.out]
    have hnr : nr = rs.length := hO.2.1.len.symm
    subst hnr
    have hne : ne = 1 := hO.1.len.symm
    subst hne
    clear p0 p1 p2
    go_upto_region 4 with fail
    have hbz2 : Below z1.heap.size z1 (z1.alloc (.cells #[.slice Ae 1 ce, .slice Ar rs.length cr, .slice Av nv cv] 31)) := below_allocN
    have hX := Has.new z1 31 #[.slice Ae 1 ce, .slice Ar rs.length cr, .slice Av nv cv]
    generalize World.alloc z1 _ = z2 at hbz2 hX ⊢
    have hb02 := Below_trans' hbz1 hbz1.size hbz2
    have hbw2 := Below_trans' hbw0 hbw0.size hb02
    have hP2 := hP.below hb02 hP.lt
    have p0 := hP2.cell 0
    have p1 := hP2.cell 1
    have p2 := hP2.cell 2
    have hRs := hO.2.1.below below_rnd hbz2
    have hEl := hO.1.below hbz2
    have hTs := hO.2.2.below below_tie hbz2
    have q0 := hX.cell 0
    have q1 := hX.cell 1
    have hmk := run_make_row' (P := Tryz.prog) 35 4 (.bool false) 1 Tryz.underlying35 info4 rfl .i64 .i64 C (by omega) (by omega)
    have hM := OwnB.made z2 z2.heap.size C (Nat.le_refl _) (by omega)
    have hbM : Below z2.heap.size z2 (z2.alloc (.cells (madeCells #[.bool false] C) 4)) := below_allocN
    have hgM : z2.heap.size < (z2.alloc (.cells (madeCells #[.bool false] C) 4)).heap.size := by simp
    clear hO hP hbz1 hbz2 p1 p2
    go_wp2
    clear p0 q0 q1 hmk
    generalize World.alloc z2 _ = w3 at hM hbM hgM ⊢
    go_loopw [8] (fun i wr => ∃ j : Nat, j ≤ C ∧ i = .int .i64 j ∧ OwnB wr z2.heap.size (.slice (some ⟨z2.heap.size, 0, none⟩) C C) (List.replicate j true ++ List.replicate (C - j) false) ∧ Below z2.heap.size z2 wr ∧ z2.heap.size < wr.heap.size) (fun i _ => C - (intOf i).toNat)
    case atStart => exact ⟨0, Nat.zero_le _, rfl, by simpa using hM, hbM, hgM⟩
    case round =>
      clear hM hbM hgM
      obtain ⟨j, hj, rfl, hM, hb, hgz⟩ := hrel
      have hPr := hP2.below hb hP2.lt
      have p0 := hPr.cell 0
      by_cases hjc : j < C
      · have hlj : (List.replicate j true ++ List.replicate (C - j) false).length = C := by simp; omega
        obtain ⟨⟨u, hu⟩, hfu, hBg⟩ := hM.at hlj hjc
        have hset := hide (tru_set hjc)
        have hM2 := hM.set hlj j true
        have hb5 := hb.setCell (p := ⟨z2.heap.size, j, none⟩) (Nat.le_refl _) (.bool true)
        have hsz5 : z2.heap.size < (wr.setCell ⟨z2.heap.size, j, none⟩ (.bool true)).heap.size := by simpa [World.setCell] using hgz
        go_wp2
        go_roundw
        case rel => exact ⟨j + 1, by omega, by go_num, by rw [← hset.out]; exact hM2, hb5, hsz5⟩
        case measure => simp [intOf] <;> omega
      · obtain rfl : C = j := by omega
        rw [Nat.sub_self, List.replicate_zero, List.append_nil] at hM
        obtain ⟨wq, rfl⟩ : ∃ wq : World, wq = wr := ⟨_, rfl⟩
        have hst := hide (StayOK.start C)
        have hne0 : Hid (rangeI C ≠ []) := fun e => by have := congrArg List.length e; rw [length_rangeI] at this; simp at this; omega
        go_wp2
        clear p0
        go_loopw [9, 10] (fun v i wr => ∃ (t : Nat) (left : List Int) (bs : List Bool) (ts : List Row) (ft : Nat → Prop), t < rs.length ∧ i = .int .i64 t ∧ Hid (RunR l C lot x te left ts (rs.drop t)) ∧ Hid (left.Sublist (rangeI C)) ∧ Hid (left ≠ []) ∧ Hid (StayOK C bs left) ∧ OwnB wr z2.heap.size (.slice (some ⟨z2.heap.size, 0, none⟩) C C) bs ∧ OAgg ETie 65 2 ft wr (z2.heap.size + 1) v ts ∧ Hid (∀ b, ft b → z2.heap.size + 1 ≤ b) ∧ ts.length ≤ t ∧ Below z2.heap.size z2 wr ∧ z2.heap.size < wr.heap.size) (fun v i _ => rs.length - (intOf i).toNat)
        case atStart => exact ⟨0, rangeI C, List.replicate C true, [], fun _ => False, by omega, rfl, by rw [List.drop_zero]; exact Hrun.out, List.Sublist.refl _, hne0.out, hst.out, hM, OAgg.nil_ _ _ _ _ _, fun _ h => h.elim, Nat.zero_le _, hb, hgz⟩
        case round =>
          clear hM hb hgz hst hne0 hPr
          obtain ⟨t, left, bs, ts, ft, ht, rfl, HR, Hsub, Hne, Hst, hS, hT, Hft, htl, hb, hgz⟩ := hrel
          obtain ⟨wo, rfl⟩ : ∃ wo : World, wo = wr := ⟨_, rfl⟩
          obtain ⟨Avt, cvt, evt⟩ := hT.slice
          have hntl := hide (rfl : ts.length = ts.length)
          generalize hnvt : ts.length = nvt at evt
          subst evt
          clear hntl
          have hT0 := hide (fun b (e : (Value.slice Avt nvt cvt).ownBlock = some b) => hT.lt e)
          obtain ⟨el, out, rs', hrs, hcase⟩ := HR.out.head
          have hat : rs[t]? = some (rndS (hadL (inL left) l C) (lostS (inL left) l) el out) := by have e := congrArg (fun z => z[0]?) hrs; simpa [List.getElem?_drop] using e
          have hnx : Hid (rs.drop (t + 1) = rs') := by unfold Hid; rw [← List.drop_drop, hrs]; rfl
          have Hcase := hide hcase
          have hXr := hX.below hb hX.lt
          have q1 := hXr.cell 1

          obtain ⟨bR, oR, vs, x', eAr, _, hcR, hER, _, hatR⟩ := hRs.step (show t < rs.length from ht)
          obtain rfl : rndS (hadL (inL left) l C) (lostS (inL left) l) el out = x' := Option.some.inj (hat.symm.trans hatR.out)
          obtain ⟨A1, n1, c1, a1, a2, a3, A2, n2, c2, A3, n3, c3, rfl, h5, hL, h7, h9⟩ := hER
          obtain ⟨C1, k1, d1, C2, k2, d2, eq1, g1, g2⟩ := hL
          cases eq1
          dsimp only [rndS, wholeS] at h5 g1 g2 h7 h9
          have r0 := keep_cell hb (hcR 0 _ rfl)
          have r1 := keep_cell hb (hcR 1 _ rfl)
          have r2 := keep_cell hb (hcR 2 _ rfl)
          have r3 := keep_cell hb (hcR 3 _ rfl)
          have r4 := keep_cell hb (hcR 4 _ rfl)
          have r5 := keep_cell hb (hcR 5 _ rfl)
          simp only [Nat.add_zero] at r0
          dsimp only [rndS, wholeS] at r1
          have Hn2 := hide h7.len
          have Hn3 := hide h9.len
          clear hcR hat hatR hrs hcase
          subst eAr
          go_upto_region 16 with fail
          have hb4 : Below wo.heap.size wo (wo.alloc (.cells #[.slice A1 n1 c1, .bool false, .slice C1 k1 d1, .slice C2 k2 d2, .slice A2 n2 c2, .slice A3 n3 c3] 41)) := below_allocN
          have hG4 := Has.new wo 41 #[.slice A1 n1 c1, .bool false, .slice C1 k1 d1, .slice C2 k2 d2, .slice A2 n2 c2, .slice A3 n3 c3]
          generalize World.alloc wo _ = w4 at hb4 hG4 ⊢
          clear r0 r1 r2 r3 r4 r5 q1
          have hz4 := Below_trans' hb hb.size hb4
          have hP4 := hP2.below hz4 hP2.lt
          have p0 := hP4.cell 0
          have p1 := hP4.cell 1
          have p2 := hP4.cell 2
          have hbw4 := Below_trans' hbw2 hbw2.size hz4
          have hS4 := hS.below hb4
          have hisS : isS bs = inL left := stay_isS Hst.out
          have hturn : turnP (fun ms => keptS 1 ms bs) (C : Int) 1 l = ⟨0, (C : Int), 1, eachS (fun ms => keptS 1 ms bs) l⟩ := by unfold turnP; rw [if_pos hc00.out]
          have hfi := pkeep_any C 1 A n cp l (some ⟨z2.heap.size, 0, none⟩) C C bs w4 (h.below hbw4) hS4.bools
          have hKL := hide (hadL_kept bs l C)
          have hKN := hide (lostS_kept bs l)
          have hKR : RankOK (eachS (fun ms => keptS 1 ms bs) l) C := rank_ok (kept_check' bs hc00.out)
          rw [hturn] at hfi
          unfold PPostO at hfi
          dsimp only at hfi
          rw [hisS] at hKL hKN
          generalize eachS (fun ms => keptS 1 ms bs) l = K at hfi hKL hKN hKR
          have HK := hide hKR
          clear hturn hisS hKR
          go_wp2_with fail
          refine hfi.mono ?_
          rintro e w5 ⟨A5, n5, c5, rfl, hO5, hb5⟩
          clear hfi p1 p2
          have hK5 := hO5.rows
          clear hO5
          go_upto_region 17 with fail
          have hb6 : Below w5.heap.size w5 (w5.alloc (.cells #[.int .i64 C, .int .u8 1, .slice A5 n5 c5] 24)) := below_allocN
          have hQ6 := Has.new w5 24 #[.int .i64 C, .int .u8 1, .slice A5 n5 c5]
          generalize World.alloc w5 _ = w6 at hb6 hQ6 ⊢
          clear p0
          have hb46 := Below_trans' hb5 hb5.size hb6
          have hz6 := Below_trans' hz4 hz4.size hb46
          have hK6 := hK5.below hb6
          have hG6 := hG4.below hb46 hG4.lt
          have hP6 := hP2.below hz6 hP2.lt
          have p0 := hP6.cell 0
          have s0 := hG6.cell 0
          have hmk := run_make_row' (P := Tryz.prog) 25 3 (.int .i64 0) 8 Tryz.underlying25 info3 rfl .i64 .i64 C (by omega) (by omega)
          have hM7 := Own.made w6 w6.heap.size C (Nat.le_refl _) (by omega)
          have hbM7 : Below w6.heap.size w6 (w6.alloc (.cells (madeCells #[.int .i64 0] C) 3)) := below_allocN
          have hgM7 : w6.heap.size < (w6.alloc (.cells (madeCells #[.int .i64 0] C) 3)).heap.size := by simp
          obtain rfl : C = n1 := by have := h5.len; rw [List.length_map, length_hadL] at this; exact this
          have hn5 := hide hK6.len
          have hn5l := hK6.le
          clear hK5
          go_wp2
          clear p0 s0 hmk
          generalize World.alloc w6 _ = w7 at hM7 hbM7 hgM7 ⊢
          have hQ0 := hQ6.lt
          have hqz : Hid (w6.heap.size ≠ w5.heap.size) := fun e => by have h1 : w5.heap.size < w6.heap.size := hQ0; omega
          go_loopw [15, 16, 17] (fun lo al i wr => ∃ j : Nat, j ≤ n5 ∧ i = .int .i64 j ∧ lo = .int .i64 (lostS anyC (K.take j)) ∧ al = .int .i64 ((hadL anyC (K.take j) C).sum) ∧ Own wr w6.heap.size (.slice (some ⟨w6.heap.size, 0, none⟩) C C) (hadL anyC (K.take j) C) ∧ Below w6.heap.size w6 wr ∧ w6.heap.size < wr.heap.size) (fun lo al i _ => n5 - (intOf i).toNat)
          case atStart => exact ⟨0, Nat.zero_le _, rfl, rfl, congrArg (Value.int .i64) (by rw [List.take_zero, hadL_zero]; simp), by rw [List.take_zero, hadL_zero]; exact hM7, hbM7, hgM7⟩
          case round =>
            clear hM7 hbM7 hgM7
            obtain ⟨j, hj, rfl, rfl, rfl, hO, hbj, hgj⟩ := hrel
            have hQr := hQ6.below hbj hQ6.lt
            have q2 := hQr.cell 2
            by_cases hjn : j < n5
            · as_aux_lemma =>
              obtain ⟨b, off, Am, nm, cm, ms, y, rfl, hc0, hRm, hc1, _, hat, hy0, hy1⟩ := (hK6.below hbj).step hjn
              have hroom := hide (HK.out.room hat.out anyC)
              have hsr := sum_room (φ := anyC) HK.out hat.out
              have hmr := hide (HK.out.marks _ (List.mem_of_getElem? hat.out))
              have hml := hide hRm.len
              have hmle := hRm.le
              by_cases hm0 : nm = 0
              · subst hm0
                have hf := find_anyC_none hml.out
                have hlm := hide (lostS_miss hat.out hf)
                have hhm := hide (hadL_miss (n := C) hat.out hf)
                have hsm := hide (sum_miss (n := C) hat.out hf)
                have hro := hroom.out 0
                clear hf hroom
                go_wp2
                go_roundw
                case rel => exact ⟨j + 1, by omega, by go_num, by rw [hlm.out], by rw [hsm.out], by rw [hhm.out]; exact hO, hbj, hgj⟩
                case measure => simp [intOf] <;> omega
              · have f25 : ((nm : Int) == 0) = false := by simp; omega
                obtain ⟨b2, off2, v, rfl, hc2, _, hat2, _⟩ := hRm.step (show 0 < nm by omega)
                obtain ⟨hv0, hv1⟩ := hmr.out v (List.mem_of_getElem? hat2.out)
                obtain ⟨X, rfl⟩ : ∃ X : Nat, v = (X : Int) := ⟨v.toNat, by omega⟩
                have hXC : X < C := by omega
                have hm1 : 0 < nm := by omega
                have hf := find_anyC_some hat2.out
                have hlm := hide (lostS_hit hat.out hf)
                have hhm := hide (hadL_hit (n := C) hat.out hf)
                have hsm := hide (sum_hit hXC hat.out hf)
                have hro := hroom.out (X : Int)
                have hXg := hide (get_hadL anyC (K.take j) hXC)
                have hlen : (hadL anyC (K.take j) C).length = C := length_hadL _ _ _
                obtain ⟨u, hu, hcu, hfu⟩ := hO.at hlen hXC
                obtain rfl : hadS anyC (K.take j) (X : Int) = u := by have := hu.out; rw [hXg.out] at this; exact Option.some.inj this
                simp only [Nat.add_zero] at hc2
                clear hu hf hat2 hroom hm0
                go_upto_region 26 with fail
                refine wp_region_more_tail 13 (by as_aux_lemma => kernel_rfl) (by as_aux_lemma => kernel_rfl) ?_
                simp only [List.take]
                repeat (go_big_quiet_step (fail))
                refine wpQuiet_nil ?_
                rintro w2 ⟨qq, hw2⟩
                have hb2 := below_of_eq hw2
                clear hw2 qq
                have hO2 := hO.below hb2
                have hbq := Below_trans' hbj hbj.size hb2
                obtain ⟨u2, hu2, hcu2, hfu2⟩ := hO2.at hlen hXC
                clear hcu hfu hu2 hlen hc2 hc0 hc1 q2
                go_upto_region 27 with fail
                have hO3 := hO2.set (length_hadL _ _ _) X (hadS anyC (K.take j) (X : Int) + y)
                have hb3 := hbq.setCell (p := ⟨w6.heap.size, X, none⟩) (Nat.le_refl _) (.int .i64 (hadS anyC (K.take j) (X : Int) + y))
                have hg3 : w6.heap.size < (w2.setCell ⟨w6.heap.size, X, none⟩ (.int .i64 (hadS anyC (K.take j) (X : Int) + y))).heap.size := by have h1 := hb2.size; simp only [World.setCell]; simp; omega
                generalize World.setCell w2 _ _ = w8 at hO3 hb3 hg3 ⊢
                clear hcu2 hfu2
                obtain ⟨b', off', Am', nm', cm', ms', y', eA, _, _, hc1, _, hat', _, _⟩ := (hK6.below hb3).step hjn
                cases eA
                obtain rfl : y = y' := by have e := hat'.out; rw [hat.out] at e; injection e with e; injection e
                have hQ8 := hQ6.below hb3 hQ6.lt
                have q2 := hQ8.cell 2
                clear hat'
                go_wp2
                go_roundw
                case rel => exact ⟨j + 1, by omega, by go_num, by rw [hlm.out], by rw [hsm.out], by rw [hhm.out]; exact hO3, hb3, hg3⟩
                case measure => simp [intOf] <;> omega
            · have hKe : Hid (K.take j = K) := List.take_of_length_le (by rw [hn5.out]; omega)
              rw [hKe.out, hKL.out] at hO ⊢
              rw [hKN.out]
              clear hKe hKL hKN HK hK6 hn5 hqz
              obtain ⟨wY, rfl⟩ : ∃ wY : World, wY = wr := ⟨_, rfl⟩
              have hzY := Below_trans' hz6 hz6.size hbj
              have hGY := hG6.below hbj hG6.lt
              have hR := hO.ints (fun y hy => by have := Rk.out.hads _ y hy; omega)
              have hlo := Rk.out.lost (inL left)
              have hto := Rk.out.tot
              have hsb := sum_take_bd (fun y hy => (Rk.out.hads (inL left) y hy).1) C
              have hss := Rk.out.sum (inL left)
              rw [List.take_of_length_le (by rw [length_hadL]; exact Nat.le_refl _)] at hsb
              have s0 := hGY.cell 0
              have s1 := hGY.cell 1
              have s2 := hGY.cell 2
              have s3 := hGY.cell 3
              clear hG6 hP6
              go_upto_region 28 with fail
              clear q2 hQr
              refine wp_region_flowz [0, 1, 2] [0, 1, 2, 5, 6, 7, 8, 9, 12, 13] (fun w' => ∃ q, w' = More wY q) (by as_aux_lemma => kernel_rfl) (by as_aux_lemma => kernel_rfl) (below_more ((Below.refl wY.heap.size wY).drew)) ?_
              simp only [pickOps, List.getElem?_cons_zero, List.getElem?_cons_succ]
              repeat (go_big_quiet_step (fail))
              refine wpQuiet_nil ?_
              have hdr : Below wY.heap.size wY wY.drew := (Below.refl _ _).drew
              clear s0
              refine flow_one 3 (by as_aux_lemma => kernel_rfl) rfl ?_
              go_wp2_with fail
              refine (rwholes_any (some ⟨w6.heap.size, 0, none⟩) C C (hadL (inL left) l C) wY.drew (hR.below hdr) (by omega) (fun y hy => by have := Rk.out.hads _ y hy; omega)).mono ?_
              rintro e wA ⟨v7, fp7, rfl, hO7, hf7, hbA⟩
              have hYA : Below wY.heap.size wY wA := Below_trans' hdr (Nat.le_refl _) hbA
              have hzA := Below_trans' hzY hzY.size hYA
              obtain ⟨A7, c7, rfl⟩ := hO7.slice
              have hR7 := hO7.reads
              rw [List.length_map, length_hadL] at hR7 ⊢
              clear hO7 hf7 hdr
              go_wp2
              refine FlowPost.mk ⟨below_more hYA, ?_⟩
              refine flow_one 4 (by as_aux_lemma => kernel_rfl) rfl ?_
              go_wp2_with fail
              refine (rall4_eq _ _ _ _ _ _ _ wA (h5.below below_rat hzA) hR7).mono ?_
              rintro e wB ⟨rfl, hbB⟩
              have hYB := Below_trans' hYA hYA.size hbB
              clear hR7
              go_wp2
              refine FlowPost.mk ⟨below_more hYB, ?_⟩
              refine flow_pure [5, 6, 7, 8, 9] (by as_aux_lemma => kernel_rfl) (below_more hYB) ?_
              simp only [pickOps, List.getElem?_cons_zero, List.getElem?_cons_succ]
              repeat (go_big_quiet_step (fail))
              refine wpQuiet_nil ?_
              clear s1 s2 s3
              refine flow_one 10 (by as_aux_lemma => kernel_rfl) rfl ?_
              go_wp2_with fail
              refine (rwhole_any (lostS (inL left) l) wB hlo.1 (by have := hlo.2; omega)).mono ?_
              rintro e wD ⟨An, nn, cn, Ad, nd, cd, rfl, hn9, hd9, hbD, hfD⟩
              have hYD := Below_trans' hYB hYB.size hbD
              have hzD := Below_trans' hzY hzY.size hYD
              clear hfD
              go_wp2
              refine FlowPost.mk ⟨below_more hYD, ?_⟩
              refine flow_one 11 (by as_aux_lemma => kernel_rfl) rfl ?_
              go_wp2_with fail
              refine (rsame4_eq false C1 C2 An Ad k1 d1 k2 d2 nn cn nd cd _ _ wD (g1.below hzD) (g2.below hzD) hn9 hd9).mono ?_
              rintro e wX ⟨rfl, hbX⟩
              have hYX := Below_trans' hYD hYD.size hbX
              have hzX := Below_trans' hzY hzY.size hYX
              clear hn9 hd9
              go_wp2
              refine FlowPost.mk ⟨below_more hYX, ?_⟩
              refine flow_pure [12, 13] (by as_aux_lemma => kernel_rfl) (below_more hYX) ?_
              simp only [pickOps, List.getElem?_cons_zero, List.getElem?_cons_succ]
              repeat (go_big_quiet_step (fail))
              refine wpQuiet_nil ?_
              refine flow_rest [] (by as_aux_lemma => kernel_rfl) ?_
              simp only [pickOps]
              have hb4X := Below_trans' (Below_trans' hb46 hb46.size hbj) (Below_trans' hb46 hb46.size hbj).size hYX
              have hPX := hP2.below hzX hP2.lt
              have hSX := hS4.below hb4X
              have hRX := hR.below hYX
              have hTX := (hT.below hb4).below hb4X
              have hGX := hGY.below hYX hGY.lt
              have hbwX := Below_trans' hbw2 hbw2.size hzX
              have p0 := hPX.cell 0
              clear hYA hYB hYD hbA hbB hbD hbX hzA hzD hGY hS4 hS hR hT h5 g1 g2 hlo hO
              have hgI := hide (fun y (hy : y < C) => getI_had (φ := inL left) (l := l) (C := C) (x := (y : Int)) ⟨by omega, by omega⟩)
              have hsub := hide (length_leftT bs)
              go_wp2
              clear p0
              go_loopw [19, 21, 22] (fun v m i wr => ∃ j : Nat, j ≤ C ∧ i = .int .i64 j ∧ m = .int .i64 (lowT bs (fun y : Nat => hadS (inL left) l (y : Int)) j) ∧ Own wr wX.heap.size v (leftT bs j) ∧ Below wX.heap.size wX wr) (fun v m i _ => C - (intOf i).toNat)
              case atStart => exact ⟨0, Nat.zero_le _, rfl, rfl, Own.nil_ _ _, Below.refl _ _⟩
              case round =>
                obtain ⟨j, hj, rfl, rfl, hA, hbA⟩ := hrel
                have hzA := hbA.size
                have hPA := hPX.below hbA hPX.lt
                have p0 := hPA.cell 0
                have hla := length_leftT bs j
                have hmb := lowT_bd (bs := bs) (had := fun y : Nat => hadS (inL left) l (y : Int)) (fun y => by have := Rk.out.had (inL left) (y : Int); omega) j
                by_cases hjc : j < C
                · as_aux_lemma =>
                  obtain ⟨b2, o2, e2, hk2⟩ := (hSX.below hbA).bools.at hjc
                  cases e2
                  simp only [Nat.zero_add] at hk2
                  have hls := hide (leftT_succ bs j)
                  have hms := hide (lowT_succ bs (fun y : Nat => hadS (inL left) l (y : Int)) j)
                  have hvb := Rk.out.had (inL left) (j : Int)
                  generalize lowT bs (fun y : Nat => hadS (inL left) l (y : Int)) j = mj at *
                  cases hv : bs.getD j false with
                  | true =>
                    rw [hv] at hk2
                    have hls' : Hid (leftT bs (j + 1) = leftT bs j ++ [(j : Int)]) := by unfold Hid; rw [hls.out, if_pos hv]
                    have hms' : Hid (lowT bs (fun y : Nat => hadS (inL left) l (y : Int)) (j + 1) = min mj (hadS (inL left) l (j : Int))) := by unfold Hid; rw [hms.out, if_pos hv]
                    clear hv hls hms
                    go_wp2_with (at_builtin; refine appInt rfl rfl rfl (hA.below below_allocN) rfl ((Has.new _ _ _).cell 0) (by omega) (by simp; omega) ?_)
                    intro v' w' hO' hg
                    have hbA' : Below wX.heap.size wX w' := (hbA.alloc hzA _).grown hg (by simp; omega) (fun i hi => (hA.lt i hi).1)
                    obtain ⟨b1, o1, v1, e1', hk1, _, hat1, _⟩ := (hRX.below hbA').step hjc
                    cases e1'
                    obtain rfl : hadS (inL left) l (j : Int) = v1 := by have e := hat1.out; rw [get_hadL _ _ hjc] at e; exact Option.some.inj e
                    simp only [Nat.zero_add] at hk1
                    clear hat1
                    go_wp2
                    go_roundw
                    case rel => exact ⟨j + 1, by omega, by go_num, congrArg (Value.int .i64) hms'.out.symm, by rw [hls'.out]; exact hO', hbA'⟩
                    case measure => simp [intOf] <;> omega
                  | false =>
                    rw [hv] at hk2
                    have hls' : Hid (leftT bs (j + 1) = leftT bs j) := by unfold Hid; rw [hls.out, if_neg (by rw [hv]; simp), List.append_nil]
                    have hms' : Hid (lowT bs (fun y : Nat => hadS (inL left) l (y : Int)) (j + 1) = mj) := by unfold Hid; rw [hms.out, if_neg (by rw [hv]; simp)]
                    clear hv hls hms
                    go_wp2
                    go_roundw
                    case rel => exact ⟨j + 1, by omega, by go_num, congrArg (Value.int .i64) hms'.out.symm, by rw [hls'.out]; exact hA, hbA⟩
                    case measure => simp [intOf] <;> omega
                · obtain rfl : C = j := by omega
                  rw [left_bools Hst.out Hsub.out] at hA hla
                  have hleast := hide (lowL_least (l := l) Hst.out Hsub.out Hne.out (fun t => by have := Rk.out.had (inL left) (t : Int); omega))
                  have Hlr : Hid (∀ y ∈ left, 0 ≤ y ∧ y < C) := fun y hy => mem_rangeI.1 (Hsub.out.subset hy)
                  generalize lowT bs (fun y : Nat => hadS (inL left) l (y : Int)) C = M at *
                  obtain ⟨wV, rfl⟩ : ∃ wV : World, wV = wr := ⟨_, rfl⟩
                  obtain ⟨As, cs, rfl⟩ := hA.slice
                  have hRs' := hA.ints (fun y hy => by have := Hlr.out y hy; omega)
                  have hRV := hRX.below hbA
                  clear hA
                  go_wp2
                  clear p0
                  generalize hLn : left.length = L at *
                  have HLn := hide hLn
                  clear hLn
                  go_loopw [20, 23, 24] (fun v e i wr => ∃ j : Nat, j ≤ L ∧ i = .int .i64 j ∧ e = .bool (endsL left (hadS (inL left) l) (hadL (inL left) l C).sum j) ∧ Own wr wV.heap.size v (lowL left (hadS (inL left) l) M j) ∧ Below wV.heap.size wV wr) (fun v e i _ => L - (intOf i).toNat)
                  case atStart => exact ⟨0, Nat.zero_le _, rfl, by rw [endsL_zero], by rw [lowL_zero]; exact Own.nil_ _ _, Below.refl _ _⟩
                  case round =>
                    obtain ⟨j, hj, rfl, rfl, hB, hbB⟩ := hrel
                    have hzB := hbB.size
                    have hlb := length_lowL left (hadS (inL left) l) M j
                    by_cases hjl : j < L
                    · as_aux_lemma =>
                      obtain ⟨b3, o3, v3, e3, hk3, _, hat3, _⟩ := (hRs'.below hbB).step hjl
                      have hv3 := Hlr.out v3 (List.mem_of_getElem? hat3.out)
                      obtain ⟨X, rfl⟩ : ∃ X : Nat, v3 = X := ⟨v3.toNat, by omega⟩
                      have hXC : X < C := by omega
                      obtain ⟨b1, o1, v1, e1', hk1, _, hat1, _⟩ := (hRV.below hbB).step hXC
                      cases e1'
                      subst e3
                      obtain rfl : hadS (inL left) l (X : Int) = v1 := by have e := hat1.out; rw [get_hadL _ _ hXC] at e; exact Option.some.inj e
                      simp only [Nat.zero_add] at hk1
                      have hvb := Rk.out.had (inL left) (X : Int)
                      have hes := hide (endsL_succ (f := hadS (inL left) l) (s := (hadL (inL left) l C).sum) hat3.out)
                      have has := hide (lowL_succ (f := hadS (inL left) l) (m := M) hat3.out)
                      clear hat1 hat3
                      go_upto_region 42 with fail
                      go_cut [23] from 189 to 223 (fun e wx => e = .bool (endsL left (hadS (inL left) l) (hadL (inL left) l C).sum (j + 1)) ∧ wx = wr)
                      case first =>
                        cases he : endsL left (hadS (inL left) l) (hadL (inL left) l C).sum j with
                        | true =>
                          have hen : Hid (true = endsL left (hadS (inL left) l) (hadL (inL left) l C).sum (j + 1)) := by unfold Hid; rw [hes.out, he]; rfl
                          clear he hes has
                          go_wp2
                          go_meet
                          exact ⟨congrArg Value.bool hen.out, rfl⟩
                        | false =>
                          by_cases hgt : (hadL (inL left) l C).sum < 2 * hadS (inL left) l (X : Int)
                          · have hen : Hid (true = endsL left (hadS (inL left) l) (hadL (inL left) l C).sum (j + 1)) := by unfold Hid; rw [hes.out, he]; simp [hgt]
                            clear he hes has
                            go_wp2
                            go_meet
                            exact ⟨congrArg Value.bool hen.out, rfl⟩
                          · have hen : Hid (false = endsL left (hadS (inL left) l) (hadL (inL left) l C).sum (j + 1)) := by unfold Hid; rw [hes.out, he]; simp; omega
                            clear he hes has
                            go_wp2
                            go_meet
                            exact ⟨congrArg Value.bool hen.out, rfl⟩
                      case rest =>
                        obtain ⟨rfl, rfl⟩ := hcut
                        clear hes
                        by_cases heq : hadS (inL left) l (X : Int) = M
                        · have f1 : (hadS (inL left) l (X : Int) == M) = true := by simp [heq]
                          have has' : Hid (lowL left (hadS (inL left) l) M (j + 1) = lowL left (hadS (inL left) l) M j ++ [(X : Int)]) := by unfold Hid; rw [has.out, if_pos heq]
                          clear has heq
                          go_wp2_with (at_builtin; refine appInt rfl rfl rfl (hB.below below_allocN) rfl ((Has.new _ _ _).cell 0) (by omega) (by simp; omega) ?_)
                          intro v' w' hO' hg
                          go_wp2
                          go_roundw
                          case rel => exact ⟨j + 1, by omega, by go_num, rfl, by rw [has'.out]; exact hO', (hbB.alloc hzB _).grown hg (by simp; omega) (fun i hi => (hB.lt i hi).1)⟩
                          case measure => simp [intOf] <;> omega
                        · have f1 : (hadS (inL left) l (X : Int) == M) = false := by simpa using heq
                          have has' : Hid (lowL left (hadS (inL left) l) M (j + 1) = lowL left (hadS (inL left) l) M j) := by unfold Hid; rw [has.out, if_neg heq, List.append_nil]
                          clear has heq
                          go_wp2
                          go_roundw
                          case rel => exact ⟨j + 1, by omega, by go_num, rfl, by rw [has'.out]; exact hB, hbB⟩
                          case measure => simp [intOf] <;> omega
                    · obtain rfl : L = j := by omega
                      obtain ⟨wE, rfl⟩ : ∃ wE : World, wE = wr := ⟨_, rfl⟩
                      rw [hleast.out] at hB hlb
                      obtain ⟨Am, cm, rfl⟩ := hB.slice
                      have hlsub := bestS_sub (fun c => - getI (hadL (inL left) l C) c) left
                      have hmr : ∀ y ∈ leastS (hadL (inL left) l C) left, 0 ≤ y ∧ y < C := fun y hy => Hlr.out y (hlsub.subset hy)
                      have Hmr := hide hmr
                      have hRm := hB.ints (fun y hy => by have := hmr y hy; omega)
                      have hAm := hide (fun b (hb : fpS Am (leastS (hadL (inL left) l C) left).length b) => hB.own_lt (hB.fps hb))
                      have hXE := Below_trans' hbA hbA.size hbB
                      have hzE := Below_trans' hzX hzX.size hXE
                      have hbwE := Below_trans' hbwX hbwX.size hXE
                      have hoE := hX.below hzE hX.lt
                      have q0 := hoE.cell 0
                      have q1 := hoE.cell 1
                      have hGE := hGX.below hXE hGX.lt
                      have s4 := hGE.cell 4
                      have s5 := hGE.cell 5
                      have hLen := hide (show rs.length - (t + 1) = rs'.length by rw [← hnx.out, List.length_drop])
                      have Hlsub := hide hlsub
                      clear hmr hsb hss hmb hlb hB hlsub
                      rcases Hcase.out with ⟨hw, hel, hou, hr', hte⟩ | ⟨hw, hel, hou, hr', hrun'⟩
                      · as_aux_lemma =>
                        have htl1 : t + 1 = rs.length := by have := hLen.out; rw [hr'] at this; simp at this; omega
                        have f36 : ((t : Int) == (rs.length : Int) - 1) = true := by simp; omega
                        obtain rfl : n2 = 1 := by rw [← Hn2.out, hel]; rfl
                        obtain rfl : n3 = 0 := by rw [← Hn3.out, hou]; rfl
                        have hxl := List.mem_of_find?_eq_some hw
                        have hpw := List.find?_some hw
                        obtain ⟨X, rfl⟩ : ∃ X : Nat, x = X := ⟨x.toNat, by omega⟩
                        have hXC : X < C := by omega
                        have hx2 : RInts wE A2 1 c2 [(X : Int)] := by rw [← hel]; exact h7.below hzE
                        obtain ⟨be, oe, ve, ee, hcx, _, hatx, _⟩ := (hEl.below hzE).step (show 0 < 1 by omega)
                        cases ee
                        obtain rfl : (X : Int) = ve := by have e := hatx.out; simpa using e
                        simp only [Nat.add_zero] at hcx
                        have Hte := hide hte
                        have Hpw := hide hpw
                        have hinX : inL left (X : Int) = true := inL_iff.2 hxl
                        have HinX := hide hinX
                        clear hatx hxl hw hel hou hr' hte hpw htl1 hinX
                        go_wp2_with fail
                        refine (ints_eq _ _ _ _ _ _ _ wE hx2 (hEl.below hzE)).mono ?_
                        rintro e wF ⟨rfl, hbF⟩
                        clear q0 q1 s4 s5 hcx
                        have hzF := Below_trans' hzE hzE.size hbF
                        have hbXF := Below_trans' hXE hXE.size hbF
                        have hbwF := Below_trans' hbwX hbwX.size hbXF
                        have q2 := (hX.below hzF hX.lt).cell 2
                        have s5 := (hGX.below hbXF hGX.lt).cell 5
                        obtain ⟨b1, o1, v1, e1', hk1, _, hat1, _⟩ := (hRX.below hbXF).step hXC
                        cases e1'
                        obtain rfl : hadS (inL left) l (X : Int) = v1 := by have e := hat1.out; rw [get_hadL _ _ hXC] at e; exact Option.some.inj e
                        simp only [Nat.zero_add] at hk1
                        have hvb := Rk.out.had (inL left) (X : Int)
                        have hsm := Rk.out.sum (inL left)
                        have hTF : RAgg ETie 2 wF Avt nvt cvt te := by
                          have e := hTX.reads.below below_tie hbXF
                          rw [Hte.out] at e
                          exact e
                        have hin := in_any As L cs left (X : Int) wF ((hRs'.below hbB).below hbF)
                        rw [HinX.out] at hin
                        clear hat1
                        by_cases h1 : L = 1
                        · have g1' : ((L : Int) == 1) = true := by simp [h1]
                          clear h1
                          go_wp2_with fail
                          refine hin.mono ?_
                          rintro e wF' ⟨rfl, rfl⟩
                          go_wp2_with fail
                          refine (ties_eq _ _ _ _ _ _ _ wF (hTs.below below_tie hzF) hTF).mono ?_
                          rintro e wG ⟨rfl, hbG⟩
                          have hbwG := Below_trans' hbwF hbwF.size hbG
                          go_wp2_with fail
                          refine (wakes15_any _).mono ?_
                          rintro e w9 ⟨rfl, hb9⟩
                          go_wp2
                          go_ret
                          exact ⟨rfl, Below_trans' hbwG (hbwG).size hb9⟩
                        · have g1' : ((L : Int) == 1) = false := by simp; omega
                          have hgt : (hadL (inL left) l C).sum < 2 * hadS (inL left) l (X : Int) := by
                            have e := Hpw.out
                            rw [hgI.out X hXC] at e
                            have e1 := HLn.out
                            simpa [e1, h1] using e
                          clear h1
                          go_wp2_with fail
                          refine hin.mono ?_
                          rintro e wF' ⟨rfl, rfl⟩
                          go_wp2_with fail
                          refine (ties_eq _ _ _ _ _ _ _ wF (hTs.below below_tie hzF) hTF).mono ?_
                          rintro e wG ⟨rfl, hbG⟩
                          have hbwG := Below_trans' hbwF hbwF.size hbG
                          go_wp2_with fail
                          refine (wakes15_any _).mono ?_
                          rintro e w9 ⟨rfl, hb9⟩
                          go_wp2
                          go_ret
                          exact ⟨rfl, Below_trans' hbwG (hbwG).size hb9⟩
                      · as_aux_lemma =>
                        have htl1 : t + 1 < rs.length := by have h1 := hLen.out; have h2 := List.length_pos_iff.2 hr'; omega
                        have f36 : ((t : Int) == (rs.length : Int) - 1) = false := by simp; omega
                        obtain rfl : n2 = 0 := by rw [← Hn2.out, hel]; rfl
                        obtain rfl : n3 = 1 := by rw [← Hn3.out, hou]; rfl
                        have hm := least_in (had := hadL (inL left) l C) Hsub.out Hne.out Hlot.out
                        have hzr := Hmr.out _ hm
                        have hml : lastS lot (leastS (hadL (inL left) l C) left) ∈ left := Hlsub.out.subset hm
                        have hen := endsL_none Hsub.out hw
                        rw [HLn.out] at hen
                        rw [hen]
                        have hln := length_outS ((nodup_rangeI C).sublist Hsub.out) hml
                        have hn1 : left.length ≠ 1 := fun e => win_of_one e hw
                        have hp1 := List.length_pos_iff.2 Hne.out
                        rw [HLn.out] at hn1 hp1 hln
                        have hts := length_tiedS ts (leastS (hadL (inL left) l C) left) (lastS lot (leastS (hadL (inL left) l C) left))
                        have hla2 : ∀ q, Calls Tryz.prog 16 #[.slice At nt ct, .slice Am (leastS (hadL (inL left) l C) left).length cm] (More wE q) fun e w' => e = .returned (.int .i64 (lastS lot (leastS (hadL (inL left) l C) left))) ∧ More wE q = w' := fun q => rlast_any At nt ct lot Am _ cm (leastS (hadL (inL left) l C) left) _ ((hl.below hbwE).more _) (hRm.more _)
                        obtain ⟨Z, hZ⟩ : ∃ Z : Nat, lastS lot (leastS (hadL (inL left) l C) left) = (Z : Int) := ⟨(lastS lot (leastS (hadL (inL left) l C) left)).toNat, by omega⟩
                        rw [hZ] at hou hrun' hla2 hts hln hzr
                        have hZC : Z < C := by omega
                        have Hne2 : Hid (outS left (Z : Int) ≠ []) := List.length_pos_iff.1 (by omega)
                        have Hrun2 := hide hrun'
                        have HZ := hide hZ
                        obtain ⟨b4, o4, v4, e4, hk4, _, hat4, _⟩ := (h9.below hzE).step (show 0 < 1 by omega)
                        obtain rfl : (Z : Int) = v4 := by have e := hat4.out; rw [hou] at e; simpa using e
                        cases e4
                        simp only [Nat.add_zero] at hk4
                        have f39 : ((Z : Int) != (Z : Int)) = false := by simp
                        have hL2 : ¬ L < 2 := by omega
                        have hL3 : decide (L < 2) = false := by simp; omega
                        have hL4 : decide ((L : Int) < 2) = false := by simp; omega
                        have hz2 := hzE.size
                        clear hat4 hw hel hr' hrun' hen hm hml hn1 hp1 hln hZ
                        go_upto_region 48 with fail
                        refine wp_region_more (by as_aux_lemma => kernel_rfl) (by as_aux_lemma => kernel_rfl) ?_
                        repeat (go_big_quiet_step (exact more_same (hla2 _)))
                        refine wpQuiet_nil ?_
                        rintro wL ⟨qwL, hwL⟩
                        have hbwL := below_of_eq hwL
                        clear hwL qwL
                        clear hla2 q0 q1 s4 s5 hk4
                        have hbEL := hbwL
                        have hbXL := Below_trans' hXE hXE.size hbEL
                        have hzL := Below_trans' hzE hzE.size hbEL
                        have hGL := hGX.below hbXL hGX.lt
                        have s5 := hGL.cell 5
                        obtain ⟨b4, o4, v4, e4, hk4, _, hat4, _⟩ := (h9.below hzL).step (show 0 < 1 by omega)
                        obtain rfl : (Z : Int) = v4 := by have e := hat4.out; rw [hou] at e; simpa using e
                        cases e4
                        simp only [Nat.add_zero] at hk4
                        have hTL := hTX.below hbXL
                        have hgz2 := hgz
                        have hzXs := hb4X.size
                        have hti := tied_any (z2.heap.size + 1) (.slice Avt nvt cvt) ft ts Am _ cm (leastS (hadL (inL left) l C) left) (Z : Int) wL (by have h1 := hbEL.size; have h2 := hXE.size; have h4 := hb4.size; omega) hTL (hRm.below hbEL) (fun b hv hb => by
                          have h1 := hAm.out b hb
                          have h2 := (hT0.out b hv)
                          have h3 := hbA.size
                          have h4 := hb4.size
                          omega) ⟨by omega, by omega⟩ (by omega)
                        clear hat4
                        go_wp2_with fail
                        refine hti.mono ?_
                        rintro e wT ⟨v', ft', rfl, hT', hft', hvt', hF'⟩
                        clear hti s5 hk4
                        have hGT := hF'.has hGL (fun e => by have h1 := (hT0.out _ e).2; omega)
                        have s5 := hGT.cell 5
                        have hzT : Below z2.heap.size z2 wT := Frame'.below hzL hF' (fun b e => by have h1 := (hT0.out b e).1; omega) hzL.size
                        obtain ⟨b4, o4, v4, e4, hk4, _, hat4, _⟩ := (h9.below hzT).step (show 0 < 1 by omega)
                        obtain rfl : (Z : Int) = v4 := by have e := hat4.out; rw [hou] at e; simpa using e
                        cases e4
                        simp only [Nat.add_zero] at hk4
                        have hST := (hSX.below hbXL).frame hF' (fun e => by have h1 := (hT0.out _ e).1; omega)
                        have hlb : bs.length = C := Hst.out.1
                        obtain ⟨⟨u, hu⟩, hfu, hBg⟩ := hST.at hlb hZC
                        have hS9 := hST.set hlb Z false
                        have hF9 : Frame' (fun b => b = z2.heap.size) wT (wT.setCell ⟨z2.heap.size, Z, none⟩ (.bool false)) := Frame'.setCell (p := ⟨z2.heap.size, Z, none⟩) (Frame'.refl (fun b => b = z2.heap.size) wT) (.inl rfl) _
                        have hft2 : ∀ b, ft' b → z2.heap.size + 1 ≤ b := fun b hb => by
                          rcases hft' b hb with h1 | h1
                          · exact Hft.out b h1
                          · have h2 := hAm.out b h1; have h3 := hbA.size; have h4 := hb4.size; omega
                        have hT9 := hT'.frame hF9 (fun b hb e => by have := hft2 b hb; omega) (fun b hb e => by have := (hT'.lt hb).1; omega)
                        have hz9 : Below z2.heap.size z2 (wT.setCell ⟨z2.heap.size, Z, none⟩ (.bool false)) := hzT.setCell (p := ⟨z2.heap.size, Z, none⟩) (Nat.le_refl _) (.bool false)
                        have hs9 : z2.heap.size < (wT.setCell ⟨z2.heap.size, Z, none⟩ (.bool false)).heap.size := by have h1 := hF'.size; have h2 := hbEL.size; have h3 := hXE.size; have h5 := hb4.size; simp only [World.setCell]; simp; omega
                        have Hft2 := hide hft2
                        clear hat4 hft2 hft' hvt'
                        obtain ⟨Av', cv', rfl⟩ := hT'.slice
                        go_wp2
                        go_roundw
                        case rel => exact ⟨t + 1, outS left (Z : Int), bs.set Z false, tiedS ts (leastS (hadL (inL left) l C) left) (Z : Int), ft', htl1, by go_num, by rw [hnx.out]; exact Hrun2.out, (outS_sub _ _).trans Hsub.out, Hne2.out, Hst.out.out hZC, hS9, hT9, Hft2.out, by omega, hz9, hs9⟩
                        case measure => simp [intOf] <;> omega
  · have e1 : (mayS c k l 1 1 1 lot == 0) = false := by simp [hE]
    clear hE
    go_wp2_with fail
    refine (wakes15_any _).mono ?_
    rintro e w9 ⟨rfl, hb9⟩
    go_wp2
    go_ret
    exact ⟨rfl, Below_trans' hbw0 (hbw0).size hb9⟩
end Go.Proofs.YthkkadmgcicedaaGreat
