/-
  The law CondorcetTies.
-/
import Derived.Test.YtkhclcdmehjfkaaGreatW12h
import Derived.Test.YtkhclcdmehjfkaaGreatSpecTi
import Derived.Test.YtkhclcdmehjfkaaGreatSpecNp
import Derived.Test.YtkhclcdmehjfkaaGreatW13b
namespace Go.Proofs.YtkhclcdmehjfkaaGreat
open Go.RowKit Go.Proofs Go.Shelf
attribute [local go_sem] cell?_alt cell?_more cell?_alloc_some cell?_setCell_far frozen?_alloc_some frozen?_more
set_option maxRecDepth 100000 in
set_option maxHeartbeats 8000000 in
theorem condorcetTies_any (c k : Int) (A : Option Addr) (n cp : Nat) (l : List Row) (At : Option Addr) (nt ct : Nat) (lot : List Int) (w : World) (h : RRows w A n cp l) (hl : RInts w At nt ct lot) :
    Calls Tryz.prog 10 #[.agg #[.int .i64 c, .int .u8 k, .slice A n cp], .slice At nt ct] w fun e w' => e = .returned (.bool true) ∧ Below w.heap.size w w' := by
  have hb : Below w.heap.size w (w.alloc (.cells #[.int .i64 c, .int .u8 k, .slice A n cp] 28)) := below_allocN
  have hP := Has.new w 28 #[.int .i64 c, .int .u8 k, .slice A n cp]
  go_enter Tryz.func10, Tryz.ntmps10
  go_upto_region 1 with fail
  generalize World.alloc w _ = W0 at hb hP ⊢
  have p0 := hP.cell 0
  have p1 := hP.cell 1
  have p2 := hP.cell 2
  go_wp2_with fail
  refine (may12_any c k A n cp l At nt ct lot W0 (h.below hb) (hl.below hb)).mono ?_
  rintro e z0 ⟨rfl, hbz0⟩
  have hbw0 := Below_trans' hb hb.size hbz0
  replace hP := hP.below hbz0 hP.lt
  clear p0 p1 p2
  by_cases hE : mayS c k l 1 1 1 lot = 0
  · have e1 : (mayS c k l 1 1 1 lot == 0) = true := by simp [hE]
    obtain ⟨hc0, hk0, _, _, _, hlot⟩ := may_zero hE
    subst hk0
    have hcs := check_ok hc0
    obtain ⟨C, rfl⟩ : ∃ C : Nat, c = (C : Int) := ⟨c.toNat, by omega⟩
    have Hlot := hide hlot
    have hcp := hide (copR_ok hE)
    have hmi := hide (minR_ok hE)
    have hE0 := hide hE
    have hC10 := (rank_ok hc0).c10
    have hC1 := (rank_ok hc0).c1
    have hnt : nt ≤ 10 := by have h1 := lot_len hlot; have h2 := hl.len; omega
    have hrt := hide (ofR_right (k := 1) hc0 (c' := (10 : Int)) (by omega) (by omega))
    have Hbm : Hid (Bd (ofR (C : Int) 1 l)) := right_bd hrt.out
    clear hcs hE hc0 hlot hrt
    generalize hMM : ofR (C : Int) 1 l = M at *
    clear hMM
    go_upto_region 4 with fail
    go_loopw [5] (fun i wr => ∃ R : Nat, R ≤ 2 ∧ i = .int .i64 R ∧ Below z0.heap.size z0 wr) (fun i _ => 2 - (intOf i).toNat)
    case atStart => exact ⟨0, by omega, rfl, Below.refl _ _⟩
    case round =>
      obtain ⟨R, hR, rfl, hbr⟩ := hrel
      have hbwr := Below_trans' hbw0 hbw0.size hbr
      have hPr := hP.below hbr hP.lt
      have p0 := hPr.cell 0
      have p1 := hPr.cell 1
      have p2 := hPr.cell 2
      by_cases hlt : R < 2
      · go_wp2_with fail
        refine (copeland_any C 1 A n cp l 1 At nt ct lot wr (h.below hbwr) (hl.below hbwr) (by omega)).mono ?_
        rintro e w4 ⟨Ae, ne, ce, Ar, nr, cr, Av, nv, cv, rfl, hO, hb4⟩
        rw [hcp.out, Int.toNat_natCast] at hO
        rw [hE0.out]
        obtain rfl : ne = 1 := hO.1.len.symm
        obtain rfl : nr = 1 := hO.2.1.len.symm
        clear p0 p1 p2
        go_upto_region 7 with fail
        have hb45 : Below w4.heap.size w4 (w4.alloc (.cells #[.slice Ae 1 ce, .slice Ar 1 cr, .slice Av nv cv] 38)) := below_allocN
        have hX5 := Has.new w4 38 #[.slice Ae 1 ce, .slice Ar 1 cr, .slice Av nv cv]
        generalize World.alloc w4 _ = w5 at hb45 hX5 ⊢
        have hbr5 := Below_trans' hb4 hb4.size hb45
        have hz5 := Below_trans' hbr hbr.size hbr5
        have hbw5 := Below_trans' hbw0 hbw0.size hz5
        have hO5 := hO.below hb45
        have hP5 := hPr.below hbr5 hPr.lt
        clear hO hb45 hbr5
        obtain rfl | rfl : R = 0 ∨ R = 1 := by omega
        · have hX8 := hX5
          have hP8 := hP5
          have hz8 := hz5
          obtain ⟨w8, rfl⟩ : ∃ w8, w8 = w5 := ⟨_, rfl⟩
          have hO8 : ROut w8 Ae 1 ce Ar 1 cr Av nv cv (mostO (copF M C) halfS C lot) := hO5
          clear hX5 hP5 hz5 hO5
          obtain ⟨f, G, fh, hO8, HT⟩ : ∃ f G fh, ROut w8 Ae 1 ce Ar 1 cr Av nv cv (mostO f G C lot) ∧ Hid (TiesF C f G fh 0) := ⟨_, _, _, hO8, ties0 M hC10⟩
          obtain ⟨hEl, hRs, hTs⟩ := hO8
          dsimp only [mostO] at hEl hRs hTs
          have hbn : bestS f (rangeI C) ≠ [] := bestS_ne (fun e => by have := congrArg List.length e; rw [length_rangeI] at this; simp at this; omega)
          have hxm := frst_mem (lot := lot) hbn fun x hx => lot_in Hlot.out ((bestS_sub _ _).subset hx)
          have hxr := mem_rangeI.1 ((bestS_sub _ _).subset hxm)
          obtain ⟨x, hx⟩ : ∃ x, x = frstS lot (bestS f (rangeI C)) := ⟨_, rfl⟩
          rw [← hx] at hEl hRs hTs hxm hxr
          have Hx := hide hx
          clear hx hbn
          obtain ⟨X, rfl⟩ : ∃ X : Nat, x = (X : Int) := ⟨x.toNat, by omega⟩
          have hXC : X < C := by omega
          have Hxm := hide hxm
          clear hxm
          obtain ⟨bR, oR, vs, rr, eAr, _, hcR, hER, _, hatR⟩ := hRs.step (show 0 < 1 by omega)
          obtain rfl : ((rangeI C).map (fun y => G (f y)), wholeS 0, [(X : Int)], ([] : List Int)) = rr := by have e := hatR.out; simpa using e
          obtain ⟨A1, n1, c1, a1, a2, a3, A2, n2, c2, A3, n3, c3, rfl, h5, hL, h7, h9⟩ := hER
          dsimp only at h5 h7 h9
          obtain rfl : C = n1 := by have := h5.len; rw [List.length_map, length_rangeI] at this; exact this
          obtain rfl : n2 = 1 := h7.len.symm
          obtain rfl : n3 = 0 := h9.len.symm
          have rr0 := hcR 0 _ rfl
          have rr4 := hcR 4 _ rfl
          have rr5 := hcR 5 _ rfl
          simp only [Nat.zero_mul, Nat.add_zero] at rr0 rr4 rr5
          subst eAr
          obtain ⟨be, oe, ve, ee, hcx0, _, hatx, _⟩ := hEl.step (show 0 < 1 by omega)
          obtain rfl : (X : Int) = ve := by have e := hatx.out; simpa using e
          subst ee
          simp only [Nat.add_zero] at hcx0
          clear hatR hatx hcR hRs hL h9
          have hb88 : Below w8.heap.size w8 w8 := Below.refl _ _
          have q0 := (hX8.below hb88 hX8.lt).cell 0
          have q1 := (hX8.below hb88 hX8.lt).cell 1
          have q2 := (hX8.below hb88 hX8.lt).cell 2
          have p0 := (hP8.below hb88 hP8.lt).cell 0
          have r0 := keep_cell hb88 rr0
          have r4 := keep_cell hb88 rr4
          have r5 := keep_cell hb88 rr5
          have hcx := keep_cell hb88 hcx0
          have f1 : ((C : Int) != (C : Int)) = false := by simp
          go_upto_region 9 with fail
          refine wp_region_more (by kernel_rfl) (by kernel_rfl) ?_
          repeat (go_big_quiet_step (fail))
          refine wpQuiet_nil ?_
          rintro wa ⟨qwa, hwwa⟩
          have hbwa := below_of_eq hwwa
          clear hwwa qwa
          clear q0 q1 q2 p0 r0 r4 r5 hcx f1
          have q0 := (hX8.below hbwa hX8.lt).cell 0
          have q1 := (hX8.below hbwa hX8.lt).cell 1
          have q2 := (hX8.below hbwa hX8.lt).cell 2
          have p0 := (hP8.below hbwa hP8.lt).cell 0
          have r0 := keep_cell hbwa rr0
          have r4 := keep_cell hbwa rr4
          have r5 := keep_cell hbwa rr5
          have hcx := keep_cell hbwa hcx0
          go_wp2
          go_upto_region 11 with fail
          refine wp_region_more (by kernel_rfl) (by kernel_rfl) ?_
          repeat (go_big_quiet_step (fail))
          refine wpQuiet_nil ?_
          rintro wb ⟨qwb, hwwb⟩
          have hbwb := below_of_eq hwwb
          clear hwwb qwb
          clear q0 q1 q2 p0 r0 r4 r5 hcx
          have hb8b := Below_trans' hbwa hbwa.size hbwb
          have q0 := (hX8.below hb8b hX8.lt).cell 0
          have q1 := (hX8.below hb8b hX8.lt).cell 1
          have q2 := (hX8.below hb8b hX8.lt).cell 2
          have p0 := (hP8.below hb8b hP8.lt).cell 0
          have r0 := keep_cell hb8b rr0
          have r4 := keep_cell hb8b rr4
          have r5 := keep_cell hb8b rr5
          have hcx := keep_cell hb8b hcx0
          have qi := fun q => ints_eq _ _ _ _ _ _ _ (More wb q) ((h7.below hb8b).more q) ((hEl.below hb8b).more q)
          have f2 : ¬ (X : Int) < 0 := by omega
          have f3 : ¬ (C : Int) ≤ (X : Int) := by omega
          go_upto_region 12 with fail
          refine wp_region_more (by kernel_rfl) (by kernel_rfl) ?_
          repeat (go_big_quiet_step ((go_at_call 25; with_reducible exact more_of (qi _))))
          refine wpQuiet_nil ?_
          rintro wc ⟨qwc, hwwc⟩
          have hbwc := below_of_eq hwwc
          clear hwwc qwc
          clear q0 q1 q2 p0 r0 r4 r5 hcx qi f2 f3
          have hb8c := Below_trans' hb8b hb8b.size hbwc
          clear hb8b hbwa hbwb hbwc
          go_upto_region 15 with fail
          go_wp2_with fail
          refine (rwhole_any 0 wc (by omega) (by omega)).mono ?_
          rintro e wd ⟨Cs, ks, ds, Cd, kd, dd, rfl, hn0, hd0, hbd, hfd⟩
          have hl1 := hn0.on.1
          have hl2 := hd0.on.1
          go_upto_region 16 with fail
          have hbs : Below wd.heap.size wd (wd.alloc (.cells #[.bool false, .slice Cs ks ds, .slice Cd kd dd] 51)) := below_allocN
          have hS9 := Has.new wd 51 #[.bool false, .slice Cs ks ds, .slice Cd kd dd]
          generalize World.alloc wd _ = w9 at hbs hS9 ⊢
          have hzs : wd.heap.size < w9.heap.size := hS9.lt
          have hzd := hbd.size
          have hbc9 : Below wc.heap.size wc w9 := Below_trans' hbd hbd.size hbs
          replace hn0 := hn0.below hbs
          replace hd0 := hd0.below hbs
          have e00 : (halfS ((sumT fh 0 : Nat) : Int)).2 = (lm 0, [1]) := by
            have := half_whole 0
            have e : halfS ((sumT fh 0 : Nat) : Int) = wholeS 0 := this
            rw [e]; rfl
          have HC2 := hide (fun b (hb : fpS Cs ks b ∨ fpS Cd kd b) => (show b ≠ wd.heap.size from by rcases hb with hb | hb; have := hl1 b hb; omega; have := hl2 b hb; omega))
          clear hl1 hl2 hfd hbd hbs
          go_upto_region 17 with fail
          go_loopw [10, 12] (fun v i wr => ∃ (Y : Nat) (As : Option Addr) (ns cs : Nat) (Ad : Option Addr) (nd cd : Nat), Y ≤ C ∧ i = .int .i64 Y ∧ Own wr w9.heap.size v (amT f C Y) ∧ Has wr wd.heap.size 51 #[.bool false, .slice As ns cs, .slice Ad nd cd] ∧ RWrds wr As ns cs (halfS ((sumT fh Y : Nat) : Int)).2.1 ∧ RWrds wr Ad nd cd (halfS ((sumT fh Y : Nat) : Int)).2.2 ∧ Hid (∀ b, fpS As ns b ∨ fpS Ad nd b → b ≠ wd.heap.size ∧ v.ownBlock ≠ some b) ∧ Frame' (fun b => b = wd.heap.size) w9 wr) (fun v i _ => C - (intOf i).toNat)
          case atStart => exact ⟨0, Cs, ks, ds, Cd, kd, dd, Nat.zero_le _, rfl, by rw [amT_zero]; exact Own.nil_ _ _, hS9, by rw [e00]; exact hn0, by rw [e00]; exact hd0, fun b hb => ⟨HC2.out b hb, by simp [Value.ownBlock]⟩, Frame'.refl _ _⟩
          case round =>
            obtain ⟨Y, As, ns, cs, Ad, nd, cd, hY, rfl, hAm, hSb, hs1, hs2, hdj, hF⟩ := hrel
            have hbcr : Below wc.heap.size wc wr := Frame'.below hbc9 hF (fun b e => by have e : b = wd.heap.size := e; omega) hbc9.size
            have hb8r := Below_trans' hb8c hb8c.size hbcr
            obtain ⟨Au, cu, rfl⟩ := hAm.slice
            have hle := amT_le f C Y
            have hzr : w9.heap.size ≤ wr.heap.size := hF.size
            by_cases hYC : Y < C
            · have hsb := sumT_le (fun y hy => HT.out.bd y (show y < C by omega)) (Y := Y)
              have hY4 : sumT fh Y ≤ 40000000 := Nat.le_trans hsb (show Y * 4000000 ≤ 40000000 by omega)
              have hfx := HT.out.bd X hXC
              have hfy := HT.out.bd Y hYC
              obtain ⟨bH, oH, vsH, xH, eH, _, hcH, hEH, _, hatH⟩ := h5.step hXC
              obtain rfl : halfS (fh X : Nat) = xH := by
                have e := hatH.out
                rw [List.getElem?_map, show (rangeI C)[X]? = some (X : Int) by simp [rangeI, hXC]] at e
                rw [← HT.out.g X hXC]
                simpa using e
              obtain ⟨Aw, nw, cw, Ax, nx, cx, rfl, gw1, gw2⟩ := hEH
              obtain ⟨bK, oK, vsK, xK, eK, _, hcK, hEK, _, hatK⟩ := h5.step hYC
              obtain rfl : halfS (fh Y : Nat) = xK := by
                have e := hatK.out
                rw [List.getElem?_map, show (rangeI C)[Y]? = some (Y : Int) by simp [rangeI, hYC]] at e
                rw [← HT.out.g Y hYC]
                simpa using e
              obtain ⟨Bw, mw, dw, Bx, mx, dx, rfl, gy1, gy2⟩ := hEK
              subst eH
              cases eK
              have e0 : wr.cell? ⟨bH, oH + X * 3, none⟩ = some (.bool false) := keep_cell hb8r (hcH 0 _ rfl)
              have e1 := keep_cell hb8r (hcH 1 _ rfl)
              have e2 := keep_cell hb8r (hcH 2 _ rfl)
              have k0 : w8.cell? ⟨bH, oH + Y * 3, none⟩ = some (.bool false) := hcK 0 _ rfl
              have k1 := hcK 1 _ rfl
              have k2 := hcK 2 _ rfl
              have d0 := keep_cell hb8r k0
              have d1 := keep_cell hb8r k1
              have d2 := keep_cell hb8r k2
              have p0 := (hP8.below hb8r hP8.lt).cell 0
              clear hatH hatK hcH hcK hsb
              have hz2 : (cmpS (fh X : Nat) (fh Y : Nat) == 0) = inL (bestS f (rangeI C)) (Y : Int) := by
                rw [cmp_zero, best_eq Hxm.out ⟨by omega, by omega⟩, decide_eq_decide]
                have := HT.out.eq X Y hXC hYC
                omega
              have hle2 : f (Y : Int) ≤ f (X : Int) := (mem_bestS.1 Hxm.out).2 _ (mem_rangeI.2 ⟨by omega, by omega⟩)
              have hz1 := cmp_ge (show ((fh Y : Nat) : Int) ≤ (fh X : Nat) by have := HT.out.ord0 rfl X Y hXC hYC hle2; omega)
              obtain ⟨z, hz⟩ : ∃ z, z = cmpS (fh X : Nat) (fh Y : Nat) := ⟨_, rfl⟩
              rw [← hz] at hz1 hz2
              have Hcm : Hid (∀ q, Calls Tryz.prog 50 #[.agg #[.bool false, .slice Aw nw cw, .slice Ax nx cx], .agg #[.bool false, .slice Bw mw dw, .slice Bx mx dx]] (More wr q) fun e w' => e = .returned (.tuple #[.int .i64 z, .int .i64 0]) ∧ Below (More wr q).heap.size (More wr q) w') := fun q => by
                rw [hz]
                exact hcmp_any Aw Ax Bw Bx nw cw nx cx mw dw mx dx (fh X) (fh Y) (More wr q) ((gw1.below hb8r).more q) ((gw2.below hb8r).more q) ((gy1.below hb8r).more q) ((gy2.below hb8r).more q) (by omega) (by omega)
              clear hz hle2
              go_upto_region 19 with fail
              refine wp_region_more (by kernel_rfl) (by kernel_rfl) ?_
              repeat (go_big_quiet_step (((with_reducible exact more_of (Hcm.out _)))))
              refine wpQuiet_nil ?_
              rintro we ⟨qwe, hwwe⟩
              have hbwe := below_of_eq hwwe
              clear hwwe qwe
              clear e0 e1 e2 d0 d1 d2 Hcm
              have hAme := hAm.below hbwe
              have hSe := hSb.below hbwe hSb.lt
              have hs1e := hs1.below hbwe
              have hs2e := hs2.below hbwe
              have hFe := hF.trans (Frame'.of_below hbwe)
              have hze : w9.heap.size ≤ we.heap.size := hFe.size
              obtain ⟨nA, hnA⟩ : ∃ k, k = (amT f C Y).length := ⟨_, rfl⟩
              rw [← hnA] at hAme hle hdj ⊢
              have HnA := hide hnA
              clear hnA
              cases hin : inL (bestS f (rangeI C)) (Y : Int) with
              | false =>
                rw [hin] at hz2
                have ham := hide (amT_out hin)
                clear hin
                have hOx : Own we w9.heap.size (.slice Au nA cu) (amT f C (Y + 1)) := by rw [ham.out]; exact hAme
                have hSx := hSe
                have x1 := hs1e
                have x2 := hs2e
                have hFx := hFe
                obtain ⟨wx, rfl⟩ : ∃ wx : World, wx = we := ⟨_, rfl⟩
                clear ham
                have hbcx : Below wc.heap.size wc wx := Frame'.below hbc9 hFx (fun b e => by have e : b = wd.heap.size := e; omega) hbc9.size
                have hb8x := Below_trans' hb8c hb8c.size hbcx
                have hzx : w9.heap.size ≤ wx.heap.size := hFx.size
                have d0 := keep_cell hb8x k0
                have d1 := keep_cell hb8x k1
                have d2 := keep_cell hb8x k2
                have hbHl : bH < wx.heap.size := by have := (keep_cell hb8x k0); exact World.block_lt_of_cell? _ _ this
                have hbHg : bH ≠ wd.heap.size := by have h1 : bH < w8.heap.size := World.block_lt_of_cell? _ _ k0; have h2 := hb8c.size; omega
                have hal : ∀ b ∈ [bH], b < wx.heap.size := fun b hb => by simp at hb; omega
                have hSd := hSx.drew
                have s0 := hSd.cell 0
                have s1 := hSd.cell 1
                have s2 := hSd.cell 2
                go_upto_region 24 with fail
                refine wp_region_flowz [1, 2, 3, 4] [1, 2, 3, 4, 6, 7, 8] (fun w' => ∃ q, w' = Alt wx [bH] q) (by kernel_rfl) (by kernel_rfl) (altC_drew _ _) ?_
                simp only [pickOps, List.getElem?_cons_zero, List.getElem?_cons_succ]
                repeat (go_big_quiet_step (fail))
                refine wpQuiet_nil ?_
                have hdr : Below wx.heap.size wx wx.drew := (Below.refl _ _).drew
                clear d0 d1 d2
                refine flow_one 0 (by kernel_rfl) rfl ?_
                go_wp2
                refine FlowPost.mk ⟨altC_below hdr hal, ?_⟩
                clear s0 s1 s2
                refine flow_one 5 (by kernel_rfl) rfl ?_
                go_wp2_with fail
                refine (hadd_any As Ad Bw Bx ns cs nd cd mw dw mx dx (sumT fh Y) (fh Y) wx.drew (x1.below hdr) (x2.below hdr) ((gy1.below hb8x).below hdr) ((gy2.below hb8x).below hdr) (by omega) (by omega)).mono ?_
                rintro e wa ⟨A6, n6, c6, A7, n7, c7, rfl, hA6, hA7, hba, hfa⟩
                have hbxa : Below wx.heap.size wx wa := Below_trans' hdr (Nat.le_refl _) hba
                have hfa' := hide (fun b hb => (show wx.heap.size ≤ b from hfa b hb))
                clear hfa hdr hba hSd
                go_wp2
                refine FlowPost.mk ⟨altC_below hbxa hal, ?_⟩
                refine flow_pure [6, 7, 8] (by kernel_rfl) (altC_below hbxa hal) ?_
                simp only [pickOps, List.getElem?_cons_zero, List.getElem?_cons_succ]
                repeat (go_big_quiet_step (fail))
                refine wpQuiet_nil ?_
                have hSa := hSx.below hbxa hSx.lt
                have t0 := hSa.cell 0
                have t1 := hSa.cell 1
                have t2 := hSa.cell 2
                have f0 := hSa.free 0
                have f1 := hSa.free 1
                have f2 := hSa.free 2
                have k3 := frame3 wa wd.heap.size (.bool false) (.slice A6 n6 c6) (.slice A7 n7 c7)
                have hS3 := put3 (x' := .bool false) (y' := .slice A6 n6 c6) (z' := .slice A7 n7 c7) hSa
                have hO3 := (hOx.below hbxa).frame k3 (fun b hb e => by have := (hOx.own_lt hb).1; have e : b = wd.heap.size := e; omega)
                have hR6 := hA6.frame k3 (fun b hb e => by have := hfa'.out b (.inl hb); have e : b = wd.heap.size := e; omega)
                have hR7 := hA7.frame k3 (fun b hb e => by have := hfa'.out b (.inr hb); have e : b = wd.heap.size := e; omega)
                have hD3 := hide (fun b (hb : fpS A6 n6 b ∨ fpS A7 n7 b) => (show b ≠ wd.heap.size ∧ _ ≠ some b from ⟨by have := hfa'.out b hb; omega, fun e => by have := (hOx.own_lt e).2; have := hfa'.out b hb; omega⟩))
                have hF3 := (hFx.trans (Frame'.of_below hbxa)).trans k3
                have hac := altC_frame (D := [bH]) ((Frame'.of_below (S := fun b => b = wd.heap.size) hbxa).trans k3) (fun b hb => ⟨hal b hb, fun e => by simp at hb; have e : b = wd.heap.size := e; omega⟩)
                refine flow_one 9 (by kernel_rfl) rfl ?_
                go_wp2
                refine FlowPost.mk ⟨hac, ?_⟩
                clear t0 t1 t2 f0 f1 f2
                generalize World.setCell (World.setCell (World.setCell wa _ _) _ _) _ _ = wz at hac hS3 hO3 hR6 hR7 hF3 ⊢
                refine flow_one 10 (by kernel_rfl) rfl ?_
                go_wp2
                refine FlowPost.mk ⟨hac, ?_⟩
                refine flow_rest [] (by kernel_rfl) ?_
                simp only [pickOps]
                go_wp2
                go_roundw
                case rel => exact ⟨Y + 1, A6, n6, c6, A7, n7, c7, by omega, by go_num, hO3, hS3, hR6, hR7, hD3, hF3⟩
                case measure => simp [intOf] <;> omega
              | true =>
                rw [hin] at hz2
                have ham := hide (amT_in hin)
                clear hin
                go_wp2_with (at_builtin; refine appInt rfl rfl rfl (hAme.below below_allocN) rfl ((Has.new _ _ _).cell 0) (by have := HnA.out; omega) (by simp; omega) ?_)
                intro v' wx hO' hg
                have hFg : Frame' (fun b => b = wd.heap.size ∨ w9.heap.size ≤ b) w9 wx := ((hFe.mono fun k _ e => .inl e).trans (Frame'.of_below (below_allocN (w := we)))).trans ((Frame'.of_grown hg).mono fun k _ e => .inr (hAme.own_lt e.symm).1)
                have hFx : Frame' (fun b => b = wd.heap.size) w9 wx := hFg.mono fun k hk e => e.elim id fun h => by omega
                have hew : Frame' (fun b => w9.heap.size ≤ b) we wx := (Frame'.of_below (below_allocN (w := we))).trans ((Frame'.of_grown hg).mono fun k _ e => (hAme.own_lt e.symm).1)
                have hgo : Frame' (fun b => (Value.slice Au nA cu).ownBlock = some b) we wx := (Frame'.of_below (below_allocN (w := we))).trans ((Frame'.of_grown hg).mono fun k _ e => e.symm)
                have hOx : Own wx w9.heap.size v' (amT f C (Y + 1)) := by rw [ham.out]; exact hO'
                have hSx := hew.has hSe (by omega)
                have x1 := hs1e.frame hgo (fun b hb e => (hdj.out b (.inl hb)).2 e)
                have x2 := hs2e.frame hgo (fun b hb e => (hdj.out b (.inr hb)).2 e)
                clear hO' hg hFg hew hgo ham
                have hbcx : Below wc.heap.size wc wx := Frame'.below hbc9 hFx (fun b e => by have e : b = wd.heap.size := e; omega) hbc9.size
                have hb8x := Below_trans' hb8c hb8c.size hbcx
                have hzx : w9.heap.size ≤ wx.heap.size := hFx.size
                have d0 := keep_cell hb8x k0
                have d1 := keep_cell hb8x k1
                have d2 := keep_cell hb8x k2
                have hbHl : bH < wx.heap.size := by have := (keep_cell hb8x k0); exact World.block_lt_of_cell? _ _ this
                have hbHg : bH ≠ wd.heap.size := by have h1 : bH < w8.heap.size := World.block_lt_of_cell? _ _ k0; have h2 := hb8c.size; omega
                have hal : ∀ b ∈ [bH], b < wx.heap.size := fun b hb => by simp at hb; omega
                have hSd := hSx.drew
                have s0 := hSd.cell 0
                have s1 := hSd.cell 1
                have s2 := hSd.cell 2
                go_upto_region 24 with fail
                refine wp_region_flowz [1, 2, 3, 4] [1, 2, 3, 4, 6, 7, 8] (fun w' => ∃ q, w' = Alt wx [bH] q) (by kernel_rfl) (by kernel_rfl) (altC_drew _ _) ?_
                simp only [pickOps, List.getElem?_cons_zero, List.getElem?_cons_succ]
                repeat (go_big_quiet_step (fail))
                refine wpQuiet_nil ?_
                have hdr : Below wx.heap.size wx wx.drew := (Below.refl _ _).drew
                clear d0 d1 d2
                refine flow_one 0 (by kernel_rfl) rfl ?_
                go_wp2
                refine FlowPost.mk ⟨altC_below hdr hal, ?_⟩
                clear s0 s1 s2
                refine flow_one 5 (by kernel_rfl) rfl ?_
                go_wp2_with fail
                refine (hadd_any As Ad Bw Bx ns cs nd cd mw dw mx dx (sumT fh Y) (fh Y) wx.drew (x1.below hdr) (x2.below hdr) ((gy1.below hb8x).below hdr) ((gy2.below hb8x).below hdr) (by omega) (by omega)).mono ?_
                rintro e wa ⟨A6, n6, c6, A7, n7, c7, rfl, hA6, hA7, hba, hfa⟩
                have hbxa : Below wx.heap.size wx wa := Below_trans' hdr (Nat.le_refl _) hba
                have hfa' := hide (fun b hb => (show wx.heap.size ≤ b from hfa b hb))
                clear hfa hdr hba hSd
                go_wp2
                refine FlowPost.mk ⟨altC_below hbxa hal, ?_⟩
                refine flow_pure [6, 7, 8] (by kernel_rfl) (altC_below hbxa hal) ?_
                simp only [pickOps, List.getElem?_cons_zero, List.getElem?_cons_succ]
                repeat (go_big_quiet_step (fail))
                refine wpQuiet_nil ?_
                have hSa := hSx.below hbxa hSx.lt
                have t0 := hSa.cell 0
                have t1 := hSa.cell 1
                have t2 := hSa.cell 2
                have f0 := hSa.free 0
                have f1 := hSa.free 1
                have f2 := hSa.free 2
                have k3 := frame3 wa wd.heap.size (.bool false) (.slice A6 n6 c6) (.slice A7 n7 c7)
                have hS3 := put3 (x' := .bool false) (y' := .slice A6 n6 c6) (z' := .slice A7 n7 c7) hSa
                have hO3 := (hOx.below hbxa).frame k3 (fun b hb e => by have := (hOx.own_lt hb).1; have e : b = wd.heap.size := e; omega)
                have hR6 := hA6.frame k3 (fun b hb e => by have := hfa'.out b (.inl hb); have e : b = wd.heap.size := e; omega)
                have hR7 := hA7.frame k3 (fun b hb e => by have := hfa'.out b (.inr hb); have e : b = wd.heap.size := e; omega)
                have hD3 := hide (fun b (hb : fpS A6 n6 b ∨ fpS A7 n7 b) => (show b ≠ wd.heap.size ∧ _ ≠ some b from ⟨by have := hfa'.out b hb; omega, fun e => by have := (hOx.own_lt e).2; have := hfa'.out b hb; omega⟩))
                have hF3 := (hFx.trans (Frame'.of_below hbxa)).trans k3
                have hac := altC_frame (D := [bH]) ((Frame'.of_below (S := fun b => b = wd.heap.size) hbxa).trans k3) (fun b hb => ⟨hal b hb, fun e => by simp at hb; have e : b = wd.heap.size := e; omega⟩)
                refine flow_one 9 (by kernel_rfl) rfl ?_
                go_wp2
                refine FlowPost.mk ⟨hac, ?_⟩
                clear t0 t1 t2 f0 f1 f2
                generalize World.setCell (World.setCell (World.setCell wa _ _) _ _) _ _ = wz at hac hS3 hO3 hR6 hR7 hF3 ⊢
                refine flow_one 10 (by kernel_rfl) rfl ?_
                go_wp2
                refine FlowPost.mk ⟨hac, ?_⟩
                refine flow_rest [] (by kernel_rfl) ?_
                simp only [pickOps]
                go_wp2
                go_roundw
                case rel => exact ⟨Y + 1, A6, n6, c6, A7, n7, c7, by omega, by go_num, hO3, hS3, hR6, hR7, hD3, hF3⟩
                case measure => simp [intOf] <;> omega
            · obtain rfl : C = Y := by omega
              have hAm2 : Own wr w9.heap.size (.slice Au (amT f C C).length cu) (bestS f (rangeI C)) := by have := hAm; rwa [amT_all] at this ⊢
              have hI2 := hAm2.ints (fun y hy => by have := mem_rangeI.1 ((bestS_sub f (rangeI C)).subset hy); omega)
              generalize (amT f C C).length = na at hI2 hle ⊢
              clear hAm hAm2
              have q0 := (hX8.below hb8r hX8.lt).cell 0
              have q1 := (hX8.below hb8r hX8.lt).cell 1
              have q2 := (hX8.below hb8r hX8.lt).cell 2
              have p0 := (hP8.below hb8r hP8.lt).cell 0
              have r0 := keep_cell hb8r rr0
              have r4 := keep_cell hb8r rr4
              have r5 := keep_cell hb8r rr5
              have hcx := keep_cell hb8r hcx0
              have hbwr9 := Below_trans' hbw5 hbw5.size hb8r
              have fx : (frstS lot (bestS f (rangeI C)) != (X : Int)) = false := by rw [← Hx.out]; simp
              go_upto_region 27 with fail
              refine wp_region_flowz [0, 1, 2, 3] [0, 1, 2, 3, 6, 7, 8, 9, 11, 12, 13] (fun w' => ∃ q, w' = More wr q) (by kernel_rfl) (by kernel_rfl) (below_more ((Below.refl wr.heap.size wr).drew)) ?_
              simp only [pickOps, List.getElem?_cons_zero, List.getElem?_cons_succ]
              repeat (go_big_quiet_step (fail))
              refine wpQuiet_nil ?_
              have hdr : Below wr.heap.size wr wr.drew := (Below.refl _ _).drew
              clear q0 q1 q2 p0 r0 r4 r5 hcx
              refine flow_one 4 (by kernel_rfl) rfl ?_
              go_wp2_with fail
              refine (tied_any wr.drew.heap.size (.slice none 0 0) (fun _ => False) [] Au na cu (bestS f (rangeI C)) X wr.drew (Nat.le_refl _) (OAgg.nil_ _ _ _ _ _) (hI2.below hdr) (fun b e => by cases e) (by unfold I64; omega) (by simp)).mono ?_
              rintro e w17 ⟨vt', fp', rfl, hT17, hft', hvt', hF17⟩
              obtain ⟨At', ct', rfl⟩ := hT17.slice
              have hb17 : Below wr.heap.size wr w17 := Frame'.below hdr hF17 (fun b e => by cases e) (Nat.le_refl _)
              clear hdr
              go_wp2
              refine FlowPost.mk ⟨below_more hb17, ?_⟩
              refine flow_one 5 (by kernel_rfl) rfl ?_
              go_wp2_with fail
              refine (ties_eq _ _ _ _ _ _ _ w17 ((hTs.below below_tie hb8r).below below_tie hb17) hT17.reads).mono ?_
              rintro e w18 ⟨rfl, hb18⟩
              have hbo18 := Below_trans' hb17 hb17.size hb18
              clear hT17 hft' hvt' hF17
              go_wp2
              refine FlowPost.mk ⟨below_more hbo18, ?_⟩
              refine flow_pure [6, 7, 8, 9, 11] (by kernel_rfl) (below_more hbo18) ?_
              simp only [pickOps, List.getElem?_cons_zero, List.getElem?_cons_succ]
              repeat (go_big_quiet_step (fail))
              refine wpQuiet_nil ?_
              refine flow_one 10 (by kernel_rfl) rfl ?_
              go_wp2_with fail
              refine (rfirst_any At nt ct lot Au na cu (bestS f (rangeI C)) w18 ((hl.below hbwr9).below hbo18) (hI2.below hbo18)).mono ?_
              rintro e w' ⟨rfl, hw'⟩
              cases hw'
              go_wp2
              refine FlowPost.mk ⟨below_more hbo18, ?_⟩
              refine flow_pure [12, 13] (by kernel_rfl) (below_more hbo18) ?_
              simp only [pickOps, List.getElem?_cons_zero, List.getElem?_cons_succ]
              repeat (go_big_quiet_step (fail))
              refine wpQuiet_nil ?_
              refine flow_rest [] (by kernel_rfl) ?_
              simp only [pickOps]
              have hSw := hSb.below hbo18 hSb.lt
              have hs1w := hs1.below hbo18
              have hs2w := hs2.below hbo18
              have hb8w := Below_trans' hb8r hb8r.size hbo18
              have hzw := Below_trans' hz8 hz8.size hb8w
              have hPw := hP8.below hb8w hP8.lt
              clear fx hSb hs1 hs2 hbo18 hb18 hb17 hI2
              obtain ⟨k, hk1, hk2⟩ := HT.out.sum rfl
              have hk3 : sumT fh C = 2 * k := hk1
              rw [hk3, half_whole] at hs1w hs2w
              have s0 := hSw.cell 0
              have s1 := hSw.cell 1
              have s2 := hSw.cell 2
              have p0 := hPw.cell 0
              obtain ⟨p2, hp2⟩ : ∃ p2 : Int, p2 = 2 * (k : Int) := ⟨_, rfl⟩
              rw [← hp2] at hk2
              have hq : Int.tdiv p2 2 = (k : Int) := by rw [hp2]; exact Int.mul_tdiv_cancel_left _ (by omega)
              have hkb : k ≤ 45 := by
                have h1 := hk2
                have h2 : (C : Int) * ((C : Int) - 1) ≤ 10 * 9 := Int.mul_le_mul (by omega) (by omega) (by omega) (by omega)
                omega
              have hpb : 0 ≤ p2 ∧ p2 ≤ 1000 := by omega
              have Hp2 := hide hp2
              clear hk1 hk3 hp2
              go_upto_region 29 with fail
              refine wp_region_flowz [0, 1, 2, 3, 4, 5, 6, 7, 8, 9, 10] [0, 1, 2, 3, 4, 5, 6, 7, 8, 9, 10, 13, 14] (fun w' => ∃ q, w' = More w18 q) (by kernel_rfl) (by kernel_rfl) (below_more ((Below.refl w18.heap.size w18).drew)) ?_
              simp only [pickOps, List.getElem?_cons_zero, List.getElem?_cons_succ]
              repeat (go_big_quiet_step (fail))
              refine wpQuiet_nil ?_
              have hdr : Below w18.heap.size w18 w18.drew := (Below.refl _ _).drew
              clear s0 s1 s2 p0
              refine flow_one 11 (by kernel_rfl) rfl ?_
              go_wp2_with fail
              refine (rwhole_any (k : Int) w18.drew (by omega) (by omega)).mono ?_
              rintro e wD ⟨An, nn, cn, Ac, nc, cc, rfl, hn9, hd9, hbD, hfD⟩
              have hiD : Below w18.heap.size w18 wD := Below_trans' hdr (Nat.le_refl _) hbD
              clear hfD hdr
              go_wp2
              refine FlowPost.mk ⟨below_more hiD, ?_⟩
              refine flow_one 12 (by kernel_rfl) rfl ?_
              go_wp2_with fail
              refine (rsame4_eq false As Ad An Ac ns cs nd cd nn cn nc cc _ _ wD (hs1w.below hiD) (hs2w.below hiD) hn9 hd9).mono ?_
              rintro e wX ⟨rfl, hbX⟩
              have hiX := Below_trans' hiD hiD.size hbX
              clear hn9 hd9
              go_wp2
              refine FlowPost.mk ⟨below_more hiX, ?_⟩
              refine flow_pure [13, 14] (by kernel_rfl) (below_more hiX) ?_
              simp only [pickOps, List.getElem?_cons_zero, List.getElem?_cons_succ]
              repeat (go_big_quiet_step (fail))
              refine wpQuiet_nil ?_
              refine flow_rest [] (by kernel_rfl) ?_
              simp only [pickOps]
              have hzX := Below_trans' hzw hzw.size hiX
              go_wp2
              go_roundw
              case rel => exact ⟨1, by omega, by go_num, hzX⟩
              case measure => simp [intOf]
        · have p0 := hP5.cell 0
          have p1 := hP5.cell 1
          have p2 := hP5.cell 2
          go_wp2_with fail
          refine (minimax_any C 1 A n cp l 1 At nt ct lot w5 (h.below hbw5) (hl.below hbw5) (by omega)).mono ?_
          rintro e w6 ⟨Be, me, de, Br, mr, dr, Bv, mv, dv, rfl, hQ, hb6⟩
          rw [hmi.out, Int.toNat_natCast] at hQ
          rw [hE0.out]
          obtain rfl : me = 1 := hQ.1.len.symm
          obtain rfl : mr = 1 := hQ.2.1.len.symm
          clear p0 p1 p2
          have hX6 := hX5.below hb6 hX5.lt
          have t0 := hX6.cell 0
          have t1 := hX6.cell 1
          have t2 := hX6.cell 2
          have f0 := hX6.free 0
          have f1 := hX6.free 1
          have f2 := hX6.free 2
          have hX8 := put3 (x' := .slice Be 1 de) (y' := .slice Br 1 dr) (z' := .slice Bv mv dv) hX6
          have hF := frame3 w6 w4.heap.size (.slice Be 1 de) (.slice Br 1 dr) (.slice Bv mv dv)
          have hQ8 := hQ.far hX6 (fun b hb hne => hF.block b hb hne)
          have hg4 : w.heap.size < w4.heap.size := (hPr.below hb4 hPr.lt).lt
          have hg5 : z0.heap.size ≤ w4.heap.size := Nat.le_trans hbr.size hb4.size
          have hz6 := Below_trans' hz5 hz5.size hb6
          have hz8 := below3 hz6 hg5 (.slice Be 1 de) (.slice Br 1 dr) (.slice Bv mv dv)
          have hP8 := hF.has (hP5.below hb6 hP5.lt) (by omega)
          go_upto_region 9 with fail
          clear t0 t1 t2 f0 f1 f2 hF hX6 hX5 hP5 hO5 hQ hz6 hz5
          generalize World.setCell (World.setCell (World.setCell w6 _ _) _ _) _ _ = w8 at hX8 hQ8 hz8 hP8 ⊢
          have hbw5 := Below_trans' hbw0 hbw0.size hz8
          obtain ⟨f, G, fh, hO8, HT⟩ : ∃ f G fh, ROut w8 Be 1 de Br 1 dr Bv mv dv (mostO f G C lot) ∧ Hid (TiesF C f G fh 1) := ⟨_, _, _, hQ8, ties1 Hbm.out hC10⟩
          clear hQ8
          obtain ⟨hEl, hRs, hTs⟩ := hO8
          dsimp only [mostO] at hEl hRs hTs
          have hbn : bestS f (rangeI C) ≠ [] := bestS_ne (fun e => by have := congrArg List.length e; rw [length_rangeI] at this; simp at this; omega)
          have hxm := frst_mem (lot := lot) hbn fun x hx => lot_in Hlot.out ((bestS_sub _ _).subset hx)
          have hxr := mem_rangeI.1 ((bestS_sub _ _).subset hxm)
          obtain ⟨x, hx⟩ : ∃ x, x = frstS lot (bestS f (rangeI C)) := ⟨_, rfl⟩
          rw [← hx] at hEl hRs hTs hxm hxr
          have Hx := hide hx
          clear hx hbn
          obtain ⟨X, rfl⟩ : ∃ X : Nat, x = (X : Int) := ⟨x.toNat, by omega⟩
          have hXC : X < C := by omega
          have Hxm := hide hxm
          clear hxm
          obtain ⟨bR, oR, vs, rr, eAr, _, hcR, hER, _, hatR⟩ := hRs.step (show 0 < 1 by omega)
          obtain rfl : ((rangeI C).map (fun y => G (f y)), wholeS 0, [(X : Int)], ([] : List Int)) = rr := by have e := hatR.out; simpa using e
          obtain ⟨A1, n1, c1, a1, a2, a3, A2, n2, c2, A3, n3, c3, rfl, h5, hL, h7, h9⟩ := hER
          dsimp only at h5 h7 h9
          obtain rfl : C = n1 := by have := h5.len; rw [List.length_map, length_rangeI] at this; exact this
          obtain rfl : n2 = 1 := h7.len.symm
          obtain rfl : n3 = 0 := h9.len.symm
          have rr0 := hcR 0 _ rfl
          have rr4 := hcR 4 _ rfl
          have rr5 := hcR 5 _ rfl
          simp only [Nat.zero_mul, Nat.add_zero] at rr0 rr4 rr5
          subst eAr
          obtain ⟨be, oe, ve, ee, hcx0, _, hatx, _⟩ := hEl.step (show 0 < 1 by omega)
          obtain rfl : (X : Int) = ve := by have e := hatx.out; simpa using e
          subst ee
          simp only [Nat.add_zero] at hcx0
          clear hatR hatx hcR hRs hL h9
          have hb88 : Below w8.heap.size w8 w8 := Below.refl _ _
          have q0 := (hX8.below hb88 hX8.lt).cell 0
          have q1 := (hX8.below hb88 hX8.lt).cell 1
          have q2 := (hX8.below hb88 hX8.lt).cell 2
          have p0 := (hP8.below hb88 hP8.lt).cell 0
          have r0 := keep_cell hb88 rr0
          have r4 := keep_cell hb88 rr4
          have r5 := keep_cell hb88 rr5
          have hcx := keep_cell hb88 hcx0
          have f1 : ((C : Int) != (C : Int)) = false := by simp
          go_upto_region 9 with fail
          refine wp_region_more (by kernel_rfl) (by kernel_rfl) ?_
          repeat (go_big_quiet_step (fail))
          refine wpQuiet_nil ?_
          rintro wa ⟨qwa, hwwa⟩
          have hbwa := below_of_eq hwwa
          clear hwwa qwa
          clear q0 q1 q2 p0 r0 r4 r5 hcx f1
          have q0 := (hX8.below hbwa hX8.lt).cell 0
          have q1 := (hX8.below hbwa hX8.lt).cell 1
          have q2 := (hX8.below hbwa hX8.lt).cell 2
          have p0 := (hP8.below hbwa hP8.lt).cell 0
          have r0 := keep_cell hbwa rr0
          have r4 := keep_cell hbwa rr4
          have r5 := keep_cell hbwa rr5
          have hcx := keep_cell hbwa hcx0
          go_wp2
          go_upto_region 11 with fail
          refine wp_region_more (by kernel_rfl) (by kernel_rfl) ?_
          repeat (go_big_quiet_step (fail))
          refine wpQuiet_nil ?_
          rintro wb ⟨qwb, hwwb⟩
          have hbwb := below_of_eq hwwb
          clear hwwb qwb
          clear q0 q1 q2 p0 r0 r4 r5 hcx
          have hb8b := Below_trans' hbwa hbwa.size hbwb
          have q0 := (hX8.below hb8b hX8.lt).cell 0
          have q1 := (hX8.below hb8b hX8.lt).cell 1
          have q2 := (hX8.below hb8b hX8.lt).cell 2
          have p0 := (hP8.below hb8b hP8.lt).cell 0
          have r0 := keep_cell hb8b rr0
          have r4 := keep_cell hb8b rr4
          have r5 := keep_cell hb8b rr5
          have hcx := keep_cell hb8b hcx0
          have qi := fun q => ints_eq _ _ _ _ _ _ _ (More wb q) ((h7.below hb8b).more q) ((hEl.below hb8b).more q)
          have f2 : ¬ (X : Int) < 0 := by omega
          have f3 : ¬ (C : Int) ≤ (X : Int) := by omega
          go_upto_region 12 with fail
          refine wp_region_more (by kernel_rfl) (by kernel_rfl) ?_
          repeat (go_big_quiet_step ((go_at_call 25; with_reducible exact more_of (qi _))))
          refine wpQuiet_nil ?_
          rintro wc ⟨qwc, hwwc⟩
          have hbwc := below_of_eq hwwc
          clear hwwc qwc
          clear q0 q1 q2 p0 r0 r4 r5 hcx qi f2 f3
          have hb8c := Below_trans' hb8b hb8b.size hbwc
          clear hb8b hbwa hbwb hbwc
          go_upto_region 15 with fail
          go_wp2_with fail
          refine (rwhole_any 0 wc (by omega) (by omega)).mono ?_
          rintro e wd ⟨Cs, ks, ds, Cd, kd, dd, rfl, hn0, hd0, hbd, hfd⟩
          have hl1 := hn0.on.1
          have hl2 := hd0.on.1
          go_upto_region 16 with fail
          have hbs : Below wd.heap.size wd (wd.alloc (.cells #[.bool false, .slice Cs ks ds, .slice Cd kd dd] 51)) := below_allocN
          have hS9 := Has.new wd 51 #[.bool false, .slice Cs ks ds, .slice Cd kd dd]
          generalize World.alloc wd _ = w9 at hbs hS9 ⊢
          have hzs : wd.heap.size < w9.heap.size := hS9.lt
          have hzd := hbd.size
          have hbc9 : Below wc.heap.size wc w9 := Below_trans' hbd hbd.size hbs
          replace hn0 := hn0.below hbs
          replace hd0 := hd0.below hbs
          have e00 : (halfS ((sumT fh 0 : Nat) : Int)).2 = (lm 0, [1]) := by
            have := half_whole 0
            have e : halfS ((sumT fh 0 : Nat) : Int) = wholeS 0 := this
            rw [e]; rfl
          have HC2 := hide (fun b (hb : fpS Cs ks b ∨ fpS Cd kd b) => (show b ≠ wd.heap.size from by rcases hb with hb | hb; have := hl1 b hb; omega; have := hl2 b hb; omega))
          clear hl1 hl2 hfd hbd hbs
          go_upto_region 17 with fail
          go_loopw [10, 12] (fun v i wr => ∃ (Y : Nat) (As : Option Addr) (ns cs : Nat) (Ad : Option Addr) (nd cd : Nat), Y ≤ C ∧ i = .int .i64 Y ∧ Own wr w9.heap.size v (amT f C Y) ∧ Has wr wd.heap.size 51 #[.bool false, .slice As ns cs, .slice Ad nd cd] ∧ RWrds wr As ns cs (halfS ((sumT fh Y : Nat) : Int)).2.1 ∧ RWrds wr Ad nd cd (halfS ((sumT fh Y : Nat) : Int)).2.2 ∧ Hid (∀ b, fpS As ns b ∨ fpS Ad nd b → b ≠ wd.heap.size ∧ v.ownBlock ≠ some b) ∧ Frame' (fun b => b = wd.heap.size) w9 wr) (fun v i _ => C - (intOf i).toNat)
          case atStart => exact ⟨0, Cs, ks, ds, Cd, kd, dd, Nat.zero_le _, rfl, by rw [amT_zero]; exact Own.nil_ _ _, hS9, by rw [e00]; exact hn0, by rw [e00]; exact hd0, fun b hb => ⟨HC2.out b hb, by simp [Value.ownBlock]⟩, Frame'.refl _ _⟩
          case round =>
            obtain ⟨Y, As, ns, cs, Ad, nd, cd, hY, rfl, hAm, hSb, hs1, hs2, hdj, hF⟩ := hrel
            have hbcr : Below wc.heap.size wc wr := Frame'.below hbc9 hF (fun b e => by have e : b = wd.heap.size := e; omega) hbc9.size
            have hb8r := Below_trans' hb8c hb8c.size hbcr
            obtain ⟨Au, cu, rfl⟩ := hAm.slice
            have hle := amT_le f C Y
            have hzr : w9.heap.size ≤ wr.heap.size := hF.size
            by_cases hYC : Y < C
            · have hsb := sumT_le (fun y hy => HT.out.bd y (show y < C by omega)) (Y := Y)
              have hY4 : sumT fh Y ≤ 40000000 := Nat.le_trans hsb (show Y * 4000000 ≤ 40000000 by omega)
              have hfx := HT.out.bd X hXC
              have hfy := HT.out.bd Y hYC
              obtain ⟨bH, oH, vsH, xH, eH, _, hcH, hEH, _, hatH⟩ := h5.step hXC
              obtain rfl : halfS (fh X : Nat) = xH := by
                have e := hatH.out
                rw [List.getElem?_map, show (rangeI C)[X]? = some (X : Int) by simp [rangeI, hXC]] at e
                rw [← HT.out.g X hXC]
                simpa using e
              obtain ⟨Aw, nw, cw, Ax, nx, cx, rfl, gw1, gw2⟩ := hEH
              obtain ⟨bK, oK, vsK, xK, eK, _, hcK, hEK, _, hatK⟩ := h5.step hYC
              obtain rfl : halfS (fh Y : Nat) = xK := by
                have e := hatK.out
                rw [List.getElem?_map, show (rangeI C)[Y]? = some (Y : Int) by simp [rangeI, hYC]] at e
                rw [← HT.out.g Y hYC]
                simpa using e
              obtain ⟨Bw, mw, dw, Bx, mx, dx, rfl, gy1, gy2⟩ := hEK
              subst eH
              cases eK
              have e0 : wr.cell? ⟨bH, oH + X * 3, none⟩ = some (.bool false) := keep_cell hb8r (hcH 0 _ rfl)
              have e1 := keep_cell hb8r (hcH 1 _ rfl)
              have e2 := keep_cell hb8r (hcH 2 _ rfl)
              have k0 : w8.cell? ⟨bH, oH + Y * 3, none⟩ = some (.bool false) := hcK 0 _ rfl
              have k1 := hcK 1 _ rfl
              have k2 := hcK 2 _ rfl
              have d0 := keep_cell hb8r k0
              have d1 := keep_cell hb8r k1
              have d2 := keep_cell hb8r k2
              have p0 := (hP8.below hb8r hP8.lt).cell 0
              clear hatH hatK hcH hcK hsb
              have hz2 : (cmpS (fh X : Nat) (fh Y : Nat) == 0) = inL (bestS f (rangeI C)) (Y : Int) := by
                rw [cmp_zero, best_eq Hxm.out ⟨by omega, by omega⟩, decide_eq_decide]
                have := HT.out.eq X Y hXC hYC
                omega
              have hle2 : f (Y : Int) ≤ f (X : Int) := (mem_bestS.1 Hxm.out).2 _ (mem_rangeI.2 ⟨by omega, by omega⟩)
              have hz1 := cmp_le (show ((fh X : Nat) : Int) ≤ (fh Y : Nat) by have := HT.out.ord1 rfl X Y hXC hYC hle2; omega)
              obtain ⟨z, hz⟩ : ∃ z, z = cmpS (fh X : Nat) (fh Y : Nat) := ⟨_, rfl⟩
              rw [← hz] at hz1 hz2
              have Hcm : Hid (∀ q, Calls Tryz.prog 50 #[.agg #[.bool false, .slice Aw nw cw, .slice Ax nx cx], .agg #[.bool false, .slice Bw mw dw, .slice Bx mx dx]] (More wr q) fun e w' => e = .returned (.tuple #[.int .i64 z, .int .i64 0]) ∧ Below (More wr q).heap.size (More wr q) w') := fun q => by
                rw [hz]
                exact hcmp_any Aw Ax Bw Bx nw cw nx cx mw dw mx dx (fh X) (fh Y) (More wr q) ((gw1.below hb8r).more q) ((gw2.below hb8r).more q) ((gy1.below hb8r).more q) ((gy2.below hb8r).more q) (by omega) (by omega)
              clear hz hle2
              go_upto_region 19 with fail
              refine wp_region_more (by kernel_rfl) (by kernel_rfl) ?_
              repeat (go_big_quiet_step (((with_reducible exact more_of (Hcm.out _)))))
              refine wpQuiet_nil ?_
              rintro we ⟨qwe, hwwe⟩
              have hbwe := below_of_eq hwwe
              clear hwwe qwe
              clear e0 e1 e2 d0 d1 d2 Hcm
              have hAme := hAm.below hbwe
              have hSe := hSb.below hbwe hSb.lt
              have hs1e := hs1.below hbwe
              have hs2e := hs2.below hbwe
              have hFe := hF.trans (Frame'.of_below hbwe)
              have hze : w9.heap.size ≤ we.heap.size := hFe.size
              obtain ⟨nA, hnA⟩ : ∃ k, k = (amT f C Y).length := ⟨_, rfl⟩
              rw [← hnA] at hAme hle hdj ⊢
              have HnA := hide hnA
              clear hnA
              cases hin : inL (bestS f (rangeI C)) (Y : Int) with
              | false =>
                rw [hin] at hz2
                have ham := hide (amT_out hin)
                clear hin
                have hOx : Own we w9.heap.size (.slice Au nA cu) (amT f C (Y + 1)) := by rw [ham.out]; exact hAme
                have hSx := hSe
                have x1 := hs1e
                have x2 := hs2e
                have hFx := hFe
                obtain ⟨wx, rfl⟩ : ∃ wx : World, wx = we := ⟨_, rfl⟩
                clear ham
                have hbcx : Below wc.heap.size wc wx := Frame'.below hbc9 hFx (fun b e => by have e : b = wd.heap.size := e; omega) hbc9.size
                have hb8x := Below_trans' hb8c hb8c.size hbcx
                have hzx : w9.heap.size ≤ wx.heap.size := hFx.size
                have d0 := keep_cell hb8x k0
                have d1 := keep_cell hb8x k1
                have d2 := keep_cell hb8x k2
                have hbHl : bH < wx.heap.size := by have := (keep_cell hb8x k0); exact World.block_lt_of_cell? _ _ this
                have hbHg : bH ≠ wd.heap.size := by have h1 : bH < w8.heap.size := World.block_lt_of_cell? _ _ k0; have h2 := hb8c.size; omega
                have hal : ∀ b ∈ [bH], b < wx.heap.size := fun b hb => by simp at hb; omega
                have hSd := hSx.drew
                have s0 := hSd.cell 0
                have s1 := hSd.cell 1
                have s2 := hSd.cell 2
                go_upto_region 24 with fail
                refine wp_region_flowz [1, 2, 3, 4] [1, 2, 3, 4, 6, 7, 8] (fun w' => ∃ q, w' = Alt wx [bH] q) (by kernel_rfl) (by kernel_rfl) (altC_drew _ _) ?_
                simp only [pickOps, List.getElem?_cons_zero, List.getElem?_cons_succ]
                repeat (go_big_quiet_step (fail))
                refine wpQuiet_nil ?_
                have hdr : Below wx.heap.size wx wx.drew := (Below.refl _ _).drew
                clear d0 d1 d2
                refine flow_one 0 (by kernel_rfl) rfl ?_
                go_wp2
                refine FlowPost.mk ⟨altC_below hdr hal, ?_⟩
                clear s0 s1 s2
                refine flow_one 5 (by kernel_rfl) rfl ?_
                go_wp2_with fail
                refine (hadd_any As Ad Bw Bx ns cs nd cd mw dw mx dx (sumT fh Y) (fh Y) wx.drew (x1.below hdr) (x2.below hdr) ((gy1.below hb8x).below hdr) ((gy2.below hb8x).below hdr) (by omega) (by omega)).mono ?_
                rintro e wa ⟨A6, n6, c6, A7, n7, c7, rfl, hA6, hA7, hba, hfa⟩
                have hbxa : Below wx.heap.size wx wa := Below_trans' hdr (Nat.le_refl _) hba
                have hfa' := hide (fun b hb => (show wx.heap.size ≤ b from hfa b hb))
                clear hfa hdr hba hSd
                go_wp2
                refine FlowPost.mk ⟨altC_below hbxa hal, ?_⟩
                refine flow_pure [6, 7, 8] (by kernel_rfl) (altC_below hbxa hal) ?_
                simp only [pickOps, List.getElem?_cons_zero, List.getElem?_cons_succ]
                repeat (go_big_quiet_step (fail))
                refine wpQuiet_nil ?_
                have hSa := hSx.below hbxa hSx.lt
                have t0 := hSa.cell 0
                have t1 := hSa.cell 1
                have t2 := hSa.cell 2
                have f0 := hSa.free 0
                have f1 := hSa.free 1
                have f2 := hSa.free 2
                have k3 := frame3 wa wd.heap.size (.bool false) (.slice A6 n6 c6) (.slice A7 n7 c7)
                have hS3 := put3 (x' := .bool false) (y' := .slice A6 n6 c6) (z' := .slice A7 n7 c7) hSa
                have hO3 := (hOx.below hbxa).frame k3 (fun b hb e => by have := (hOx.own_lt hb).1; have e : b = wd.heap.size := e; omega)
                have hR6 := hA6.frame k3 (fun b hb e => by have := hfa'.out b (.inl hb); have e : b = wd.heap.size := e; omega)
                have hR7 := hA7.frame k3 (fun b hb e => by have := hfa'.out b (.inr hb); have e : b = wd.heap.size := e; omega)
                have hD3 := hide (fun b (hb : fpS A6 n6 b ∨ fpS A7 n7 b) => (show b ≠ wd.heap.size ∧ _ ≠ some b from ⟨by have := hfa'.out b hb; omega, fun e => by have := (hOx.own_lt e).2; have := hfa'.out b hb; omega⟩))
                have hF3 := (hFx.trans (Frame'.of_below hbxa)).trans k3
                have hac := altC_frame (D := [bH]) ((Frame'.of_below (S := fun b => b = wd.heap.size) hbxa).trans k3) (fun b hb => ⟨hal b hb, fun e => by simp at hb; have e : b = wd.heap.size := e; omega⟩)
                refine flow_one 9 (by kernel_rfl) rfl ?_
                go_wp2
                refine FlowPost.mk ⟨hac, ?_⟩
                clear t0 t1 t2 f0 f1 f2
                generalize World.setCell (World.setCell (World.setCell wa _ _) _ _) _ _ = wz at hac hS3 hO3 hR6 hR7 hF3 ⊢
                refine flow_one 10 (by kernel_rfl) rfl ?_
                go_wp2
                refine FlowPost.mk ⟨hac, ?_⟩
                refine flow_rest [] (by kernel_rfl) ?_
                simp only [pickOps]
                go_wp2
                go_roundw
                case rel => exact ⟨Y + 1, A6, n6, c6, A7, n7, c7, by omega, by go_num, hO3, hS3, hR6, hR7, hD3, hF3⟩
                case measure => simp [intOf] <;> omega
              | true =>
                rw [hin] at hz2
                have ham := hide (amT_in hin)
                clear hin
                go_wp2_with (at_builtin; refine appInt rfl rfl rfl (hAme.below below_allocN) rfl ((Has.new _ _ _).cell 0) (by have := HnA.out; omega) (by simp; omega) ?_)
                intro v' wx hO' hg
                have hFg : Frame' (fun b => b = wd.heap.size ∨ w9.heap.size ≤ b) w9 wx := ((hFe.mono fun k _ e => .inl e).trans (Frame'.of_below (below_allocN (w := we)))).trans ((Frame'.of_grown hg).mono fun k _ e => .inr (hAme.own_lt e.symm).1)
                have hFx : Frame' (fun b => b = wd.heap.size) w9 wx := hFg.mono fun k hk e => e.elim id fun h => by omega
                have hew : Frame' (fun b => w9.heap.size ≤ b) we wx := (Frame'.of_below (below_allocN (w := we))).trans ((Frame'.of_grown hg).mono fun k _ e => (hAme.own_lt e.symm).1)
                have hgo : Frame' (fun b => (Value.slice Au nA cu).ownBlock = some b) we wx := (Frame'.of_below (below_allocN (w := we))).trans ((Frame'.of_grown hg).mono fun k _ e => e.symm)
                have hOx : Own wx w9.heap.size v' (amT f C (Y + 1)) := by rw [ham.out]; exact hO'
                have hSx := hew.has hSe (by omega)
                have x1 := hs1e.frame hgo (fun b hb e => (hdj.out b (.inl hb)).2 e)
                have x2 := hs2e.frame hgo (fun b hb e => (hdj.out b (.inr hb)).2 e)
                clear hO' hg hFg hew hgo ham
                have hbcx : Below wc.heap.size wc wx := Frame'.below hbc9 hFx (fun b e => by have e : b = wd.heap.size := e; omega) hbc9.size
                have hb8x := Below_trans' hb8c hb8c.size hbcx
                have hzx : w9.heap.size ≤ wx.heap.size := hFx.size
                have d0 := keep_cell hb8x k0
                have d1 := keep_cell hb8x k1
                have d2 := keep_cell hb8x k2
                have hbHl : bH < wx.heap.size := by have := (keep_cell hb8x k0); exact World.block_lt_of_cell? _ _ this
                have hbHg : bH ≠ wd.heap.size := by have h1 : bH < w8.heap.size := World.block_lt_of_cell? _ _ k0; have h2 := hb8c.size; omega
                have hal : ∀ b ∈ [bH], b < wx.heap.size := fun b hb => by simp at hb; omega
                have hSd := hSx.drew
                have s0 := hSd.cell 0
                have s1 := hSd.cell 1
                have s2 := hSd.cell 2
                go_upto_region 24 with fail
                refine wp_region_flowz [1, 2, 3, 4] [1, 2, 3, 4, 6, 7, 8] (fun w' => ∃ q, w' = Alt wx [bH] q) (by kernel_rfl) (by kernel_rfl) (altC_drew _ _) ?_
                simp only [pickOps, List.getElem?_cons_zero, List.getElem?_cons_succ]
                repeat (go_big_quiet_step (fail))
                refine wpQuiet_nil ?_
                have hdr : Below wx.heap.size wx wx.drew := (Below.refl _ _).drew
                clear d0 d1 d2
                refine flow_one 0 (by kernel_rfl) rfl ?_
                go_wp2
                refine FlowPost.mk ⟨altC_below hdr hal, ?_⟩
                clear s0 s1 s2
                refine flow_one 5 (by kernel_rfl) rfl ?_
                go_wp2_with fail
                refine (hadd_any As Ad Bw Bx ns cs nd cd mw dw mx dx (sumT fh Y) (fh Y) wx.drew (x1.below hdr) (x2.below hdr) ((gy1.below hb8x).below hdr) ((gy2.below hb8x).below hdr) (by omega) (by omega)).mono ?_
                rintro e wa ⟨A6, n6, c6, A7, n7, c7, rfl, hA6, hA7, hba, hfa⟩
                have hbxa : Below wx.heap.size wx wa := Below_trans' hdr (Nat.le_refl _) hba
                have hfa' := hide (fun b hb => (show wx.heap.size ≤ b from hfa b hb))
                clear hfa hdr hba hSd
                go_wp2
                refine FlowPost.mk ⟨altC_below hbxa hal, ?_⟩
                refine flow_pure [6, 7, 8] (by kernel_rfl) (altC_below hbxa hal) ?_
                simp only [pickOps, List.getElem?_cons_zero, List.getElem?_cons_succ]
                repeat (go_big_quiet_step (fail))
                refine wpQuiet_nil ?_
                have hSa := hSx.below hbxa hSx.lt
                have t0 := hSa.cell 0
                have t1 := hSa.cell 1
                have t2 := hSa.cell 2
                have f0 := hSa.free 0
                have f1 := hSa.free 1
                have f2 := hSa.free 2
                have k3 := frame3 wa wd.heap.size (.bool false) (.slice A6 n6 c6) (.slice A7 n7 c7)
                have hS3 := put3 (x' := .bool false) (y' := .slice A6 n6 c6) (z' := .slice A7 n7 c7) hSa
                have hO3 := (hOx.below hbxa).frame k3 (fun b hb e => by have := (hOx.own_lt hb).1; have e : b = wd.heap.size := e; omega)
                have hR6 := hA6.frame k3 (fun b hb e => by have := hfa'.out b (.inl hb); have e : b = wd.heap.size := e; omega)
                have hR7 := hA7.frame k3 (fun b hb e => by have := hfa'.out b (.inr hb); have e : b = wd.heap.size := e; omega)
                have hD3 := hide (fun b (hb : fpS A6 n6 b ∨ fpS A7 n7 b) => (show b ≠ wd.heap.size ∧ _ ≠ some b from ⟨by have := hfa'.out b hb; omega, fun e => by have := (hOx.own_lt e).2; have := hfa'.out b hb; omega⟩))
                have hF3 := (hFx.trans (Frame'.of_below hbxa)).trans k3
                have hac := altC_frame (D := [bH]) ((Frame'.of_below (S := fun b => b = wd.heap.size) hbxa).trans k3) (fun b hb => ⟨hal b hb, fun e => by simp at hb; have e : b = wd.heap.size := e; omega⟩)
                refine flow_one 9 (by kernel_rfl) rfl ?_
                go_wp2
                refine FlowPost.mk ⟨hac, ?_⟩
                clear t0 t1 t2 f0 f1 f2
                generalize World.setCell (World.setCell (World.setCell wa _ _) _ _) _ _ = wz at hac hS3 hO3 hR6 hR7 hF3 ⊢
                refine flow_one 10 (by kernel_rfl) rfl ?_
                go_wp2
                refine FlowPost.mk ⟨hac, ?_⟩
                refine flow_rest [] (by kernel_rfl) ?_
                simp only [pickOps]
                go_wp2
                go_roundw
                case rel => exact ⟨Y + 1, A6, n6, c6, A7, n7, c7, by omega, by go_num, hO3, hS3, hR6, hR7, hD3, hF3⟩
                case measure => simp [intOf] <;> omega
            · obtain rfl : C = Y := by omega
              have hAm2 : Own wr w9.heap.size (.slice Au (amT f C C).length cu) (bestS f (rangeI C)) := by have := hAm; rwa [amT_all] at this ⊢
              have hI2 := hAm2.ints (fun y hy => by have := mem_rangeI.1 ((bestS_sub f (rangeI C)).subset hy); omega)
              generalize (amT f C C).length = na at hI2 hle ⊢
              clear hAm hAm2
              have q0 := (hX8.below hb8r hX8.lt).cell 0
              have q1 := (hX8.below hb8r hX8.lt).cell 1
              have q2 := (hX8.below hb8r hX8.lt).cell 2
              have p0 := (hP8.below hb8r hP8.lt).cell 0
              have r0 := keep_cell hb8r rr0
              have r4 := keep_cell hb8r rr4
              have r5 := keep_cell hb8r rr5
              have hcx := keep_cell hb8r hcx0
              have hbwr9 := Below_trans' hbw5 hbw5.size hb8r
              have fx : (frstS lot (bestS f (rangeI C)) != (X : Int)) = false := by rw [← Hx.out]; simp
              go_upto_region 27 with fail
              refine wp_region_flowz [0, 1, 2, 3] [0, 1, 2, 3, 6, 7, 8, 9, 11, 12, 13] (fun w' => ∃ q, w' = More wr q) (by kernel_rfl) (by kernel_rfl) (below_more ((Below.refl wr.heap.size wr).drew)) ?_
              simp only [pickOps, List.getElem?_cons_zero, List.getElem?_cons_succ]
              repeat (go_big_quiet_step (fail))
              refine wpQuiet_nil ?_
              have hdr : Below wr.heap.size wr wr.drew := (Below.refl _ _).drew
              clear q0 q1 q2 p0 r0 r4 r5 hcx
              refine flow_one 4 (by kernel_rfl) rfl ?_
              go_wp2_with fail
              refine (tied_any wr.drew.heap.size (.slice none 0 0) (fun _ => False) [] Au na cu (bestS f (rangeI C)) X wr.drew (Nat.le_refl _) (OAgg.nil_ _ _ _ _ _) (hI2.below hdr) (fun b e => by cases e) (by unfold I64; omega) (by simp)).mono ?_
              rintro e w17 ⟨vt', fp', rfl, hT17, hft', hvt', hF17⟩
              obtain ⟨At', ct', rfl⟩ := hT17.slice
              have hb17 : Below wr.heap.size wr w17 := Frame'.below hdr hF17 (fun b e => by cases e) (Nat.le_refl _)
              clear hdr
              go_wp2
              refine FlowPost.mk ⟨below_more hb17, ?_⟩
              refine flow_one 5 (by kernel_rfl) rfl ?_
              go_wp2_with fail
              refine (ties_eq _ _ _ _ _ _ _ w17 ((hTs.below below_tie hb8r).below below_tie hb17) hT17.reads).mono ?_
              rintro e w18 ⟨rfl, hb18⟩
              have hbo18 := Below_trans' hb17 hb17.size hb18
              clear hT17 hft' hvt' hF17
              go_wp2
              refine FlowPost.mk ⟨below_more hbo18, ?_⟩
              refine flow_pure [6, 7, 8, 9, 11] (by kernel_rfl) (below_more hbo18) ?_
              simp only [pickOps, List.getElem?_cons_zero, List.getElem?_cons_succ]
              repeat (go_big_quiet_step (fail))
              refine wpQuiet_nil ?_
              refine flow_one 10 (by kernel_rfl) rfl ?_
              go_wp2_with fail
              refine (rfirst_any At nt ct lot Au na cu (bestS f (rangeI C)) w18 ((hl.below hbwr9).below hbo18) (hI2.below hbo18)).mono ?_
              rintro e w' ⟨rfl, hw'⟩
              cases hw'
              go_wp2
              refine FlowPost.mk ⟨below_more hbo18, ?_⟩
              refine flow_pure [12, 13] (by kernel_rfl) (below_more hbo18) ?_
              simp only [pickOps, List.getElem?_cons_zero, List.getElem?_cons_succ]
              repeat (go_big_quiet_step (fail))
              refine wpQuiet_nil ?_
              refine flow_rest [] (by kernel_rfl) ?_
              simp only [pickOps]
              have hSw := hSb.below hbo18 hSb.lt
              have hs1w := hs1.below hbo18
              have hs2w := hs2.below hbo18
              have hb8w := Below_trans' hb8r hb8r.size hbo18
              have hzw := Below_trans' hz8 hz8.size hb8w
              have hPw := hP8.below hb8w hP8.lt
              clear fx hSb hs1 hs2 hbo18 hb18 hb17 hI2
              go_upto_region 29 with fail
              refine wp_region_more (by kernel_rfl) (by kernel_rfl) ?_
              repeat (go_big_quiet_step (fail))
              refine wpQuiet_nil ?_
              rintro wX ⟨qwX, hwwX⟩
              have hbwX := below_of_eq hwwX
              clear hwwX qwX
              have hzX := Below_trans' hzw hzw.size hbwX
              go_wp2
              go_roundw
              case rel => exact ⟨2, by omega, by go_num, hzX⟩
              case measure => simp [intOf]
      · have hbe := hbwr
        go_wp2_with fail
        refine (wakes12_any _).mono ?_
        rintro e w9 ⟨rfl, hb9⟩
        go_wp2
        go_ret
        exact ⟨rfl, Below_trans' hbe (hbe).size hb9⟩
  · have e1 : (mayS c k l 1 1 1 lot == 0) = false := by simp [hE]
    clear hE
    go_wp2_with fail
    refine (wakes12_any _).mono ?_
    rintro e w9 ⟨rfl, hb9⟩
    go_wp2
    go_ret
    exact ⟨rfl, Below_trans' hbw0 (hbw0).size hb9⟩
end Go.Proofs.YtkhclcdmehjfkaaGreat
