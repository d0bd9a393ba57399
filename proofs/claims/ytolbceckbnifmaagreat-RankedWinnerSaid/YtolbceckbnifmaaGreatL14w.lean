/-
  The law RankedWinner.
-/
import Derived.Test.YtolbceckbnifmaaGreatW14q
import Derived.Test.YtolbceckbnifmaaGreatW12c
import Derived.Test.YtolbceckbnifmaaGreatSpecCo
import Derived.Test.YtolbceckbnifmaaGreatFlow2
namespace Go.Proofs.YtolbceckbnifmaaGreat
open Go.RowKit Go.Proofs Go.Shelf
attribute [local go_sem] cell?_more cell?_alloc_some cell?_setCell_far frozen?_alloc_some frozen?_more
set_option maxRecDepth 100000 in
set_option maxHeartbeats 8000000 in
theorem rankedWinner_any (c k : Int) (A : Option Addr) (n cp : Nat) (l : List Row) (At : Option Addr) (nt ct : Nat) (lot : List Int) (w : World) (h : RRows w A n cp l) (hl : RInts w At nt ct lot) :
    Calls Tryz.prog 7 #[.agg #[.int .i64 c, .int .u8 k, .slice A n cp], .slice At nt ct] w fun e w' => e = .returned (.bool true) ∧ Below w.heap.size w w' := by
  have hb : Below w.heap.size w (w.alloc (.cells #[.int .i64 c, .int .u8 k, .slice A n cp] 27)) := below_allocN
  have hP := Has.new w 27 #[.int .i64 c, .int .u8 k, .slice A n cp]
  go_enter Tryz.func7, Tryz.ntmps7
  go_upto_region 1 with fail
  generalize World.alloc w _ = W0 at hb hP ⊢
  have p0 := hP.cell 0
  have p1 := hP.cell 1
  have p2 := hP.cell 2
  go_wp2_with fail
  refine (one14_any c k A n cp l At nt ct lot W0 (h.below hb) (hl.below hb)).mono ?_
  rintro e z0 ⟨rfl, hbz0⟩
  have hbw0 := Below_trans' hb hb.size hbz0
  replace hP := hP.below hbz0 hP.lt
  clear p0 p1 p2
  by_cases hE : mayS c k l 1 1 1 lot = 0
  · have e1 : (mayS c k l 1 1 1 lot == 0) = true := by simp [hE]
    obtain ⟨hc0, hk0, _, _, _, hlot⟩ := may_zero hE
    subst hk0
    have hcs := check_ok hc0
    obtain ⟨C, rfl⟩ : ∃ C : Nat, c = (C : Int) := ⟨c.toNat, by omega⟩
    have Hlot := hide hlot
    have hro := hide (rankR_ok hE)
    rw [Int.toNat_natCast] at hro
    have hE0 := hide hE
    have hc00 := hide hc0
    have hC10 := (rank_ok hc0).c10
    have hC1 := (rank_ok hc0).c1
    have hnt : nt ≤ 10 := by have h1 := lot_len hlot; have h2 := hl.len; omega
    have hrt := hide (ofR_right (k := 1) hc0 (c' := (C : Int)) (Int.le_refl _) (by omega))
    have HsE := hide (smithErr_ok hrt.out)
    have hLP := lotP_of hlot
    have hKe : ordErr (ofR C 1 l) C lot = 0 := ordErr_ok (by omega) hlot hrt.out
    have hLO := hide (lockM_ok (m := ofR C 1 l) hLP hC10)
    have hfne := hide (free_ne (m := ofR C 1 l) hLP (show 0 < C by omega))
    have hlv := hide (lockV_ok hKe)
    have Hke := hide hKe
    have hsm := smithS_ok (m := ofR C 1 l) (show 0 < C by omega)
    have hsv := smithV_ok hrt.out hsm
    have hfd := free_dom hLP hsm.dom
    have hfm := frst_mem (lot := lot) hfne.out fun x hx => lot_in hlot (mem_rangeI.2 (mem_freeS.1 hx).1)
    have hin : Hid (inL (smithV (ofR C 1 l) C) (frstS lot (freeS C (lockM (ofR C 1 l) lot C))) = true) := by unfold Hid; rw [hsv, inL_iff]; exact hfd hfm
    have hxr := (mem_freeS.1 hfm).1
    have hTr : Hid (∀ x ∈ smithV (ofR C 1 l) C, 0 ≤ x ∧ x < C) := fun x hx => by rw [hsv] at hx; exact mem_rangeI.1 (hsm.dom.sub.subset hx)
    have hlw : Hid ((loneV (ofR C 1 l) C).2 = true → frstS lot (freeS C (lockM (ofR C 1 l) lot C)) = (loneV (ofR C 1 l) C).1 ∧ tiedS [] (freeS C (lockM (ofR C 1 l) lot C)) (frstS lot (freeS C (lockM (ofR C 1 l) lot C))) = []) := fun hb => by
      obtain ⟨_, X, hX1, hX2, hX3⟩ := lone_true (x := (loneV (ofR C 1 l) C).1) (Prod.ext rfl hb)
      have ht := free_one hLP (show 0 < C by omega) (lone_dom (show X < C by omega) hX3)
      rw [ht] at hfm ⊢
      refine ⟨by rw [hX1]; exact List.mem_singleton.1 hfm, ?_⟩
      unfold tiedS; rw [if_pos (by simp)]
    clear hsm hsv hfm hfd hLP hKe
    have p0 := hP.cell 0
    have p1 := hP.cell 1
    have p2 := hP.cell 2
    clear hcs hE hc0 hlot
    go_wp2_with fail
    refine (ranked_any C 1 A n cp l 1 At nt ct lot z0 (h.below hbw0) (hl.below hbw0) (by omega)).mono ?_
    rintro e z1 ⟨Ae, ne, ce, Ar, nr, cr, Av, nv, cv, rfl, hO, hbz1⟩
    rw [hro.out] at hO
    rw [hE0.out]
    have hnr : nr = 1 := hO.2.1.len.symm
    subst hnr
    have hne : ne = 1 := hO.1.len.symm
    subst hne
    clear p0 p1 p2
    go_upto_region 4 with fail
    have hbz2 : Below z1.heap.size z1 (z1.alloc (.cells #[.slice Ae 1 ce, .slice Ar 1 cr, .slice Av nv cv] 39)) := below_allocN
    have hX := Has.new z1 39 #[.slice Ae 1 ce, .slice Ar 1 cr, .slice Av nv cv]
    generalize World.alloc z1 _ = z2 at hbz2 hX ⊢
    have hb02 := Below_trans' hbz1 hbz1.size hbz2
    have hbw2 := Below_trans' hbw0 hbw0.size hb02
    have hP2 := hP.below hb02 hP.lt
    have p0 := hP2.cell 0
    have p1 := hP2.cell 1
    have p2 := hP2.cell 2
    have hpo := pof_any C 1 A n cp l z2 (h.below hbw2)
    unfold POfPost at hpo
    rw [hc00.out] at hpo
    go_wp2_with fail
    refine hpo.mono ?_
    rintro e w2 ⟨D, rfl, hD, hb2⟩
    clear hpo p0 p1 p2
    have hDs := hD.size
    have hM3 : Has ((w2.alloc (.cells Tryz.zeroCells24 24)).setRow w2.heap.size D) w2.heap.size 24 D := (Has.new _ _ _).setRow _
    have hb23 : Below w2.heap.size w2 ((w2.alloc (.cells Tryz.zeroCells24 24)).setRow w2.heap.size D) := below_setRow ((Below.refl _ _).alloc (Nat.le_refl _) _) (Nat.le_refl _) _
    go_upto_region 5 with (refine stMat rfl rfl rfl rfl (Has.new _ _ _) zeroMat.size hDs hD.one ?_)
    generalize World.setRow (World.alloc w2 _) _ _ = w3 at hM3 hb23 ⊢
    have hb13 := Below_trans' hb2 hb2.size hb23
    have hP3 := hP2.below hb13 hP2.lt
    have p0 := hP3.cell 0
    go_wp2_with (refine ldMat rfl rfl rfl hM3 hDs ?_)
    refine (smith_any D _ hD C w3).mono ?_
    rintro e w4 ⟨vs, rfl, hOs, hb4⟩
    clear p0
    rw [HsE.out]
    generalize smithV (ofR C 1 l) C = T at *
    obtain ⟨As, cs, rfl⟩ := hOs.slice
    have hRT := hOs.ints fun x hx => by have := hTr.out x hx; omega
    generalize T.length = nT at *
    have hM4 := hM3.below hb4 hM3.lt
    have hb14 := Below_trans' hb13 hb13.size hb4
    have hP4 := hP2.below hb14 hP2.lt
    have hbw4 := Below_trans' hbw2 hbw2.size hb14
    have p0 := hP4.cell 0
    go_wp2_with (refine ldMat rfl rfl rfl hM4 hDs ?_)
    refine (lock_any D _ hD C At nt ct lot w4 (hl.below hbw4) (by omega)).mono ?_
    rintro e w5 ⟨vL, rfl, hL5, hb5⟩
    clear p0
    rw [hlv.out] at hL5
    rw [Hke.out]
    have hM5 := hM4.below hb5 hM4.lt
    have hb15 := Below_trans' hb14 hb14.size hb5
    have hP5 := hP2.below hb15 hP2.lt
    have p0 := hP5.cell 0
    go_wp2_with (refine ldMat rfl rfl rfl hM5 hDs ?_)
    refine (winner_any D _ hD C w5).mono ?_
    rintro e w6 ⟨rfl, hb6⟩
    clear p0
    have hb16 := Below_trans' hb15 hb15.size hb6
    have hb46 := Below_trans' hb5 hb5.size hb6
    have hX6 := hX.below hb16 hX.lt
    have hO6 := (hO.below hbz2).below hb16
    have hRT6 := hRT.below hb46
    have hP6 := hP2.below hb16 hP2.lt
    have hbw6 := Below_trans' hbw2 hbw2.size hb16
    have hL6 := hL5.below hb6
    generalize loneV (ofR C 1 l) C = lv at *
    obtain ⟨wx, wb⟩ := lv
    dsimp only at hlw ⊢
    generalize lockM (ofR C 1 l) lot C = lk at *
    clear hb13 hb23 hb4 hb2 hM3 hM4 hM5 hP3 hP4 hP5 hX hO hbz1 hbz2 hb02 hP2 hOs hRT hb14 hb15 hb5 hb6 hb46 hb16 hL5 hlv Hke HsE
    have hpath : rankO lk C lot = ([frstS lot (freeS C lk)], [rndS (hadLk lk C) 0 [frstS lot (freeS C lk)] []], tiedS [] (freeS C lk) (frstS lot (freeS C lk))) := rfl
    rw [hpath] at hO6
    clear hpath
    obtain ⟨hEl, hRs, hTs⟩ := hO6
    dsimp only at hEl hRs hTs
    obtain ⟨AL, cL, rfl⟩ := hL6.slice
    have hRL := hL6.reads
    obtain ⟨N, hN⟩ : ∃ N, lk.length = N := ⟨_, rfl⟩
    rw [hN] at hRL ⊢
    have HN := hide hN
    have hN45 : N ≤ 45 := by have := hLO.out.len; omega
    clear hN hL6
    have Hfr : Hid (frstS lot (freeS C lk) = frstS lot (freeS C lk)) := rfl
    obtain ⟨x, hx⟩ : ∃ x, x = frstS lot (freeS C lk) := ⟨_, rfl⟩
    have HX := hide hx
    rw [← hx] at hin hxr hlw hEl hRs hTs
    clear hx Hfr
    have hts := hide (show tiedS [] (freeS C lk) x = tiedS [] (freeS C lk) x from rfl)
    obtain ⟨ts, hTse⟩ : ∃ ts, ts = tiedS [] (freeS C lk) x := ⟨_, rfl⟩
    have HTS := hide hTse
    rw [← hTse] at hTs hlw
    clear hTse hts
    have hnv := hide hTs.len
    have q0 := hX6.cell 0
    have q1 := hX6.cell 1
    have q2 := hX6.cell 2
    have p0 := hP6.cell 0
    obtain ⟨be, oe, ve, ee, hcx, _, hatx, _⟩ := hEl.step (show 0 < 1 by omega)
    cases ee
    obtain rfl : x = ve := by have e := hatx.out; simpa using e
    simp only [Nat.add_zero] at hcx
    clear hatx
    obtain ⟨br, orr, vsr, xr, er, _, hcr, hER, _, hatr⟩ := hRs.step (show 0 < 1 by omega)
    cases er
    obtain ⟨A1, n1, c1, ra, rb, rd, A2, n2, c2, A3, n3, c3, rfl, hHad, -, -, -⟩ := hER
    obtain rfl : rndS (hadLk lk C) 0 [x] [] = xr := by have e := hatr.out; simpa using e
    have hn1 : C = n1 := by have := hHad.len; rw [← this]; unfold rndS; simp [length_hadLk]
    subst hn1
    have hcr0 := hcr 0 _ rfl
    simp only [Nat.zero_mul, Nat.add_zero] at hcr0
    clear hatr hcr
    have hqi : ∀ q, Calls Tryz.prog 31 #[.slice As nT cs, .int .i64 x] (More w6 q) fun e w'' => e = .returned (.bool true) ∧ ∃ q', w'' = More w6 q' := fun q => more_same ((in_any As nT cs T x (More w6 q) (hRT6.more q)).mono fun e w' ⟨he, hw⟩ => ⟨by rw [he, hin.out], hw⟩)
    go_wp2_with fail
    refine wp_region_more (by kernel_rfl) (by kernel_rfl) ?_
    repeat (go_big_quiet_step ((go_at_call 31; with_reducible exact hqi _)))
    refine wpQuiet_nil ?_
    rintro w7 ⟨qw7, hww7⟩
    have hbw7 := below_of_eq hww7
    clear hww7 qw7
    have hbw7' := hbw7
    have hbw7 := Below_trans' hbw6 hbw6.size hbw7'
    have hX7 := hX6.below hbw7' hX6.lt
    have hP7 := hP6.below hbw7' hP6.lt
    have hRL7 := hRL.below below_lnk hbw7'
    have hTs7 := hTs.below below_tie hbw7'
    have hcx7 := keep_cell hbw7' hcx
    have hcr7 := keep_cell hbw7' hcr0
    have hHad7 := hHad.below below_rat hbw7'
    clear q0 q1 q2 p0 hcx hcr0 hqi hX6 hP6 hRL hTs hHad hEl hRs hRT6 hin hbw6 hbw7'
    have p0 := hP7.cell 0
    go_wp2_with fail
    refine (rall_any C w7 (by omega)).mono ?_
    rintro e w8 ⟨vf, rfl, hF8, hb8⟩
    clear p0
    obtain ⟨Af, cf, rfl⟩ := hF8.slice
    rw [length_rangeI] at hF8 ⊢
    have hP8 := hP7.below hb8 hP7.lt
    have p0 := hP8.cell 0
    have hmk := run_make_row' (P := Tryz.prog) 28 3 (.int .i64 0) 8 Tryz.underlying28 info3 rfl .i64 .i64 C (by omega) (by omega)
    have hM9 := Own.made w8 w8.heap.size C (Nat.le_refl _) (by omega)
    have hb9 : Below w8.heap.size w8 (w8.alloc (.cells (madeCells #[.int .i64 0] C) 3)) := below_allocN
    have hF9 := hF8.below hb9
    go_upto_region 12 with fail
    generalize World.alloc w8 _ = w9 at hM9 hb9 hF9 ⊢
    clear hmk p0
    have hb79 := Below_trans' hb8 hb8.size hb9
    have hg1 : w7.heap.size ≤ w8.heap.size := hb8.size
    have hflt : ∀ b, (Value.slice Af C cf).ownBlock = some b → b < w8.heap.size := fun b hb' => (hF8.own_lt hb').2
    have hgl : w8.heap.size < w9.heap.size := (hM9.own_lt rfl).2
    generalize w8.heap.size = g1 at *
    have hO0 : Own w9 g1 (.slice (some ⟨g1, 0, none⟩) C C) (hadLk (lk.take 0) C) := by rw [List.take_zero, hadLk_nil]; exact hM9
    have hF0 : Own w9 w7.heap.size (.slice Af C cf) (freeS C (lk.take 0)) := by rw [List.take_zero, freeS_nil]; exact hF9
    have hap0 : Hid (∀ b, (Value.slice Af C cf).ownBlock = some b → b ≠ g1) := fun b hb' e => by have := hflt b hb'; omega
    clear hM9 hF9 hF8 hflt hb8 hb9 hP8
    go_wp2_with fail
    go_loopw [15, 17] (fun v s wr => ∃ i : Nat, i ≤ N ∧ s = .int .i64 i ∧ Own wr g1 (.slice (some ⟨g1, 0, none⟩) C C) (hadLk (lk.take i) C) ∧ Own wr w7.heap.size v (freeS C (lk.take i)) ∧ Hid (∀ b, v.ownBlock = some b → b ≠ g1) ∧ g1 < wr.heap.size ∧ Below w7.heap.size w7 wr) (fun _ s _ => N - (intOf s).toNat)
    case atStart => exact ⟨0, Nat.zero_le _, rfl, hO0, hF0, hap0, hgl, hb79⟩
    case round =>
      clear hO0 hF0 hap0 hb79 hgl
      obtain ⟨i, hi, rfl, hO, hF, hap, hgl, hb⟩ := hrel
      have hPr := hP7.below hb hP7.lt
      have p0 := hPr.cell 0
      by_cases hlt : i < N
      · obtain ⟨b, off, x', y, mg, f, rfl, c0, c1, c2, c3, hat, h64⟩ := (hRL7.below below_lnk hb).lnk hlt
        have hrk := hLO.out.rng _ (List.mem_of_getElem? hat.out)
        simp only at hrk
        obtain ⟨X, rfl⟩ : ∃ X : Nat, x' = (X : Int) := ⟨x'.toNat, by omega⟩
        have hXC : X < C := by omega
        have hnx := hide (hadLk_next hat.out rfl hXC)
        have hfx : Hid (outS (freeS C (lk.take i)) y = freeS C (lk.take (i + 1))) := by
          unfold Hid outS
          rw [freeS_next (C := C) hat.out]
          refine List.filter_congr fun z _ => ?_
          simp
        have hhk := Nat.le_trans (hadK_le (lk.take i) (X : Int)) (by rw [List.length_take]; exact Nat.min_le_left _ _)
        have n1 : decide ((X : Int) < 0) = false := decide_eq_false (by omega)
        have n2 : decide ((C : Int) ≤ (X : Int)) = false := decide_eq_false (by omega)
        have n3 : ¬ (C : Int) ≤ (X : Int) := by omega
        clear hrk hat
        go_wp2_with fail
        refine wp_region_more (by kernel_rfl) (by kernel_rfl) ?_
        repeat (go_big_quiet_step (fail))
        refine wpQuiet_nil ?_
        rintro wa ⟨qwa, hwwa⟩
        have hbwa := below_of_eq hwwa
        clear hwwa qwa
        have ca0 := keep_cell hbwa c0
        have ca1 := keep_cell hbwa c1
        have hOa := hO.below hbwa
        have hFa := hF.below hbwa
        have hba := Below_trans' hb hb.size hbwa
        have hgla : g1 < wa.heap.size := Nat.lt_of_lt_of_le hgl hbwa.size
        clear c0 c1 c2 c3 p0 hO hF hb hbwa hPr
        obtain ⟨Av', cv', rfl⟩ := hFa.slice
        have hRf := hFa.ints (fun z hz => by have := (mem_freeS.1 hz).1; omega)
        have hfl := freeS_len C (lk.take i)
        have hcall := without_any Av' _ cv' (freeS C (lk.take i)) y wa hRf (by omega)
        rw [hfx.out] at hcall
        generalize (freeS C (lk.take i)).length = fll at *
        go_upto_region 17 with fail
        go_wp2_with fail
        refine hcall.mono ?_
        rintro e wb' ⟨vf2, rfl, hFb, hbb⟩
        have cb0 := keep_cell hbb ca0
        have hOb := hOa.below hbb
        have hbB := Below_trans' hba hba.size hbb
        have hglb : g1 < wb'.heap.size := Nat.lt_of_lt_of_le hgla hbb.size
        have hFb2 := Own.mono' hFb hba.size
        have hapb : Hid (∀ b', vf2.ownBlock = some b' → b' ≠ g1) := fun b' hb' e => by have := (hFb.own_lt hb').1; omega
        clear hcall ca0 ca1 hRf hFa hOa hFb
        obtain ⟨u, hu, hcu, hfu⟩ := hOb.at (length_hadLk _ _) hXC
        obtain rfl : ((hadK (lk.take i) (X : Int) : Nat) : Int) = u := by have := hu.out; rw [get_hadLk _ hXC] at this; exact Option.some.inj this
        have hO6 := hOb.set (length_hadLk _ _) X (((hadK (lk.take i) (X : Int) : Nat) : Int) + 1)
        rw [← hnx.out] at hO6
        have hFs : Frame' (fun b => b = g1) wb' (wb'.setCell ⟨g1, X, none⟩ (.int .i64 (((hadK (lk.take i) (X : Int) : Nat) : Int) + 1))) := (Frame'.refl (fun b => b = g1) wb').setCell (p := ⟨g1, X, none⟩) (.inl rfl) _
        clear hu
        generalize hadK (lk.take i) (X : Int) = hv at *
        have hF6 := hFb2.frame hFs (fun b' hb' e => hapb.out b' hb' e)
        have hb6 : Below w7.heap.size w7 (wb'.setCell ⟨g1, X, none⟩ (.int .i64 ((hv : Int) + 1))) := Frame'.below hbB hFs (fun b' e => by omega) hbB.size
        have hgl6 : g1 < (wb'.setCell ⟨g1, X, none⟩ (.int .i64 ((hv : Int) + 1))).heap.size := by simpa using hglb
        go_wp2
        go_roundw
        case rel => exact ⟨i + 1, by omega, by go_num, hO6, hF6, hapb, hgl6, hb6⟩
        case measure => simp [intOf] <;> omega
      · obtain rfl : i = N := by omega
        have e : Hid (lk.take i = lk) := List.take_of_length_le (by rw [HN.out]; exact Nat.le_refl _)
        rw [e.out] at hO hF
        obtain ⟨wE, rfl⟩ : ∃ wE : World, wE = wr := ⟨_, rfl⟩
        obtain ⟨Ag, cg, rfl⟩ := hF.slice
        have hbE := Below_trans' hbw7 hbw7.size hb
        have hRf := hF.ints (fun z hz => by have := (mem_freeS.1 hz).1; omega)
        have hRh := hO.ints (fun y hy => by have := hadLk_bd hLO.out.len y hy; omega)
        have hXE := hX7.below hb hX7.lt
        have hTsE := hTs7.below below_tie hb
        have hcxE := keep_cell hb hcx7
        have hcrE := keep_cell hb hcr7
        have hHadE := hHad7.below below_rat hb
        have hlotE := hl.below hbE
        have hfl0 := List.length_pos_iff.2 hfne.out
        have hflC := freeS_len C lk
        have hfn0 : (((freeS C lk).length : Int) == 0) = false := by rw [beq_eq_false_iff_ne]; omega
        have HF0 := hide hfl0
        clear hX7 hP7 hRL7 hTs7 hcx7 hcr7 hHad7 hb hbw7 hap hPr hg1 hfl0
        clear p0
        obtain ⟨fl, hfl⟩ : ∃ fl, (freeS C lk).length = fl := ⟨_, rfl⟩
        rw [hfl] at hRf hfn0 hflC ⊢
        clear hfl HF0 hF hO
        go_wp2_with fail
        refine (rfirst_any At nt ct lot Ag _ cg (freeS C lk) wE hlotE hRf).mono ?_
        rintro e w' ⟨rfl, rfl⟩
        rw [← HX.out]
        have hxx : (x == x) = true := by simp
        have hxn : (x != x) = false := by simp
        have q0 := hXE.cell 0
        have q1 := hXE.cell 1
        have q2 := hXE.cell 2
        go_upto_region 20 with fail
        refine wp_region_flowz [0, 1, 2, 3, 4, 5, 6, 7, 8, 9, 10, 11, 12, 13, 14, 15] [0, 1, 2, 3, 4, 5, 6, 7, 8, 9, 10, 11, 12, 13, 14, 15, 18, 19, 20, 21, 22, 23, 24, 25, 26, 29, 30] (fun w' => ∃ q, w' = More wE q) (by kernel_rfl) (by kernel_rfl) (below_more ((Below.refl wE.heap.size wE).drew)) ?_
        simp only [pickOps, List.getElem?_cons_zero, List.getElem?_cons_succ]
        repeat (go_big_quiet_step (fail))
        refine wpQuiet_nil ?_
        have hdr : Below wE.heap.size wE wE.drew := (Below.refl _ _).drew
        refine flow_one 16 (by kernel_rfl) rfl ?_
        go_wp2_with fail
        refine (tied_any wE.drew.heap.size (.slice none 0 0) (fun _ => False) [] Ag fl cg (freeS C lk) x wE.drew (Nat.le_refl _) (OAgg.nil_ _ _ _ _ _) (hRf.below hdr) (fun b e => by cases e) (by unfold I64; omega) (by simp)).mono ?_
        rintro e w17 ⟨vt', fp', rfl, hT17, hft', hvt', hF17⟩
        rw [← HTS.out] at hT17
        obtain ⟨At', ct', rfl⟩ := hT17.slice
        have hb17 : Below wE.heap.size wE w17 := Frame'.below hdr hF17 (fun b e => by cases e) (Nat.le_refl _)
        have hT7 := hT17.reads
        rw [hnv.out] at hT7 ⊢
        clear hdr hT17 hft' hvt' hF17
        go_wp2
        refine FlowPost.mk ⟨below_more hb17, ?_⟩
        refine flow_one 17 (by kernel_rfl) rfl ?_
        go_wp2_with fail
        refine (ties_eq _ _ _ _ _ _ _ w17 (hTsE.below below_tie hb17) hT7).mono ?_
        rintro e w18 ⟨rfl, hb18⟩
        have hbo18 := Below_trans' hb17 hb17.size hb18
        clear hT7
        go_wp2
        refine FlowPost.mk ⟨below_more hbo18, ?_⟩
        refine flow_pure [18, 19, 20, 21, 22, 23, 24, 25, 26] (by kernel_rfl) (below_more hbo18) ?_
        simp only [pickOps, List.getElem?_cons_zero, List.getElem?_cons_succ]
        repeat (go_big_quiet_step (fail))
        refine wpQuiet_nil ?_
        refine flow_one 27 (by kernel_rfl) rfl ?_
        go_wp2_with fail
        refine (rwholes_any (some ⟨g1, 0, none⟩) C C (hadLk lk C) w18 (hRh.below hbo18) (by omega) (fun y hy => by have := hadLk_bd hLO.out.len y hy; omega)).mono ?_
        rintro e w19 ⟨v19, fp19, rfl, hO19, hf19, hb19⟩
        obtain ⟨A19, c19, rfl⟩ := hO19.slice
        have hR19 := hO19.reads
        rw [List.length_map, length_hadLk] at hR19 ⊢
        have hbo19 := Below_trans' hbo18 hbo18.size hb19
        clear hO19 hf19
        go_wp2
        refine FlowPost.mk ⟨below_more hbo19, ?_⟩
        refine flow_one 28 (by kernel_rfl) rfl ?_
        go_wp2_with fail
        refine (rall4_eq _ _ _ _ _ _ _ w19 (hHadE.below below_rat hbo19) hR19).mono ?_
        rintro e wB ⟨rfl, hbB⟩
        have hYB := Below_trans' hbo19 hbo19.size hbB
        clear hR19
        go_wp2
        refine FlowPost.mk ⟨below_more hYB, ?_⟩
        refine flow_pure [29, 30] (by kernel_rfl) (below_more hYB) ?_
        simp only [pickOps, List.getElem?_cons_zero, List.getElem?_cons_succ]
        repeat (go_big_quiet_step (fail))
        refine wpQuiet_nil ?_
        refine flow_rest [] (by kernel_rfl) ?_
        simp only [pickOps]
        have hbwB := Below_trans' hbE hbE.size hYB
        have hXB := hXE.below hYB hXE.lt
        clear hHadE hTsE hRf hRh hlotE hcrE hcxE q0 q1 q2 hb17 hb18 hbo18 hb19 hbo19 hbB hYB hXE
        have q2 := hXB.cell 2
        cases wb with
        | false =>
          clear hlw
          go_wp2_with fail
          refine (wakes14_any _).mono ?_
          rintro e w9 ⟨rfl, hb9⟩
          go_wp2
          go_ret
          exact ⟨rfl, Below_trans' hbwB (hbwB).size hb9⟩
        | true =>
          obtain ⟨h1, h2⟩ := hlw.out rfl
          obtain rfl : nv = 0 := by rw [← hnv.out, h2]; rfl
          have f9 : (x == wx) = true := by rw [h1]; simp
          clear h1 h2 hlw hnv
          go_wp2_with fail
          refine (wakes14_any _).mono ?_
          rintro e w9 ⟨rfl, hb9⟩
          go_wp2
          go_ret
          exact ⟨rfl, Below_trans' hbwB (hbwB).size hb9⟩
  · have e1 : (mayS c k l 1 1 1 lot == 0) = false := by simp [hE]
    clear hE
    go_wp2_with fail
    refine (wakes14_any _).mono ?_
    rintro e w9 ⟨rfl, hb9⟩
    go_wp2
    go_ret
    exact ⟨rfl, Below_trans' hbw0 (hbw0).size hb9⟩
end Go.Proofs.YtolbceckbnifmaaGreat
