/-
  The law PathsNames.
-/
import Derived.Test.YtkhclcdmehjfkaaGreatSpecNp
import Derived.Test.YtkhclcdmehjfkaaGreatW11r
import Derived.Test.YtkhclcdmehjfkaaGreatW9o
import Derived.Test.YtkhclcdmehjfkaaGreatW13h
import Derived.Test.YtkhclcdmehjfkaaGreatFlow2
import Derived.Deep.CutRange
namespace Go.Proofs.YtkhclcdmehjfkaaGreat
open Go.RowKit Go.Proofs Go.Shelf
attribute [local go_sem] cell?_more cell?_alloc_some cell?_setCell_far frozen?_alloc_some frozen?_more
/-- A count's outcome is one that names know. -/
theorem pathO_okO {m S : M} {C : Nat} {lot : List Int} (hS : Str m S) (hC1 : 1 ≤ C) (hC : C ≤ 10) (hlot : lotS lot C = true) : OkO C (pathO S C lot) := by
  have hsub : (topS S C).Sublist (rangeI C) := List.filter_sublist
  have hr := (inR_range C).sub hsub
  have hne := topS_ne hS (show 0 < C by omega) hC
  have hx := hr _ (frst_mem hne fun x hx => lot_in hlot (hsub.subset hx))
  have h1 : InR C [frstS lot (topS S C)] := fun y hy => by rw [List.mem_singleton.1 hy]; exact hx
  have hlen : (topS S C).length ≤ 1000 := by have := hsub.length_le; rw [length_rangeI] at this; omega
  unfold pathO
  refine ⟨h1, by simp, fun r hr' => ?_, by simp, fun t ht => ?_, ?_⟩
  · rw [List.mem_singleton.1 hr']
    exact ⟨by simp [rndS, length_hadPL], h1, by simp [rndS], fun y hy => by simp [rndS] at hy, by simp [rndS]⟩
  · unfold tiedS at ht
    split at ht
    · simp at ht
    · rw [List.nil_append, List.mem_singleton] at ht
      rw [ht]; exact ⟨hr, hlen, hx.1, hx.2⟩
  · show (tiedS [] _ _).length ≤ 100
    unfold tiedS
    split <;> simp

set_option maxRecDepth 100000 in
set_option maxHeartbeats 4000000 in
theorem pathsNames_any (c k : Int) (A : Option Addr) (n cp : Nat) (l : List Row) (At : Option Addr) (nt ct : Nat) (lot : List Int) (Ap : Option Addr) (np cpp : Nat) (perm : List Int) (w : World) (h : RRows w A n cp l) (hl : RInts w At nt ct lot) (hp : RInts w Ap np cpp perm) :
    Calls Tryz.prog 6 #[.agg #[.int .i64 c, .int .u8 k, .slice A n cp], .slice At nt ct, .slice Ap np cpp] w fun e w' => e = .returned (.bool true) ∧ Below w.heap.size w w' := by
  have hb : Below w.heap.size w (w.alloc (.cells #[.int .i64 c, .int .u8 k, .slice A n cp] 28)) := below_allocN
  have hP := Has.new w 28 #[.int .i64 c, .int .u8 k, .slice A n cp]
  generalize hW : World.alloc w _ = W0 at hb hP
  have p0 := hP.cell 0
  have p1 := hP.cell 1
  have p2 := hP.cell 2
  go_enter Tryz.func6, Tryz.ntmps6
  go_wp2_with fail
  try simp only [hW]
  clear hW
  refine (may13_any c k A n cp l At nt ct lot W0 (h.below hb) (hl.below hb)).mono ?_
  rintro e z0 ⟨rfl, hbz0⟩
  have hbw0 := Below_trans' hb hb.size hbz0
  replace hP := hP.below hbz0 hP.lt
  clear p0 p1 p2
  by_cases hE : mayS c k l 1 1 1 lot = 0
  · have e1 : (mayS c k l 1 1 1 lot == 0) = true := by simp [hE]
    have p0 := hP.cell 0
    go_wp2_with fail
    refine (rlot_any Ap np cpp perm c z0 (hp.below hbw0)).mono ?_
    rintro e w' ⟨rfl, rfl⟩
    cases hpl : lotS perm c with
    | false =>
      clear hE p0
      go_wp2_with fail
      refine (wakes13_any _).mono ?_
      rintro e w9 ⟨rfl, hb9⟩
      go_wp2
      go_ret
      exact ⟨rfl, Below_trans' hbw0 (hbw0).size hb9⟩
    | true =>
      obtain ⟨hc0, hk0, _, _, _, hlot⟩ := may_zero hE
      subst hk0
      have hcs := check_ok hc0
      obtain ⟨C, rfl⟩ : ∃ C : Nat, c = (C : Int) := ⟨c.toNat, by omega⟩
      have hnpl := lot_len hpl
      have hnp : np = C := by have := hp.len; omega
      have htp : turnedS perm = true := by unfold lotS at hpl; rw [Bool.and_eq_true] at hpl; exact hpl.2
      have HN := hide (names_of htp hnpl)
      have hlen := hl.len
      have hnt : C = nt := by have := lot_len hlot; omega
      have Hll := hide hlen
      have hC10 := (rank_ok hc0).c10
      have hC1 := (rank_ok hc0).c1
      have Hlr := hide (lot_in_range hlot)
      have hrt := hide (ofR_right (k := 1) hc0 (c' := (C : Int)) (Int.le_refl _) (by omega))
      have Hse := hide (strErr_ok hrt.out)
      have Hst := hide (strV_ok hrt.out)
      have hc2 : checkS C 1 (renL perm l) = 0 := ren_check HN.out hc0
      have hrt2 := hide (ofR_right (k := 1) hc2 (c' := (C : Int)) (Int.le_refl _) (by omega))
      have Hse2 := hide (strErr_ok hrt2.out)
      have hsr : Hid (∀ x y : Nat, x < C → y < C → strV (ofR C 1 (renL perm l)) C (nm perm x) (nm perm y) = strV (ofR C 1 l) C x y) := fun x y hx hy => str_ren HN.out hc0 hx hy
      have hck : Hid (OkO C (pathO (strV (ofR C 1 l) C) C lot)) := pathO_okO Hst.out hC1 hC10 hlot
      have hcr := hide (pathO_ren HN.out Hst.out hlot hsr.out)
      have hlot2 := lot_ren HN.out hlot
      have hm2 : mayS C 1 (renL perm l) 1 1 1 (lot.map (nameS perm)) = 0 := may_ok hc2 rfl (fun hh => by rcases hh with h | h | h | h; omega; omega; omega; rw [hlot2] at h; cases h)
      have hrun : Hid (pathR C 1 l 1 lot = pathO (strV (ofR C 1 l) C) C lot) := by unfold Hid; rw [pathR_ok hE, Int.toNat_natCast]
      have hrun2 : Hid (pathR C 1 (renL perm l) 1 (lot.map (nameS perm)) = renO perm (pathO (strV (ofR C 1 l) C) C lot)) := by unfold Hid; rw [pathR_ok hm2, Int.toNat_natCast]; exact hcr.out
      have hmay := hide hE
      have hmay2 := hide hm2
      have Hc0 := hide hc0
      have Hc2 := hide hc2
      have Htp := hide htp
      generalize pathO (strV (ofR C 1 l) C) C lot = o at hck hrun hrun2 hcr
      clear hcs hE hc0 hlot hpl hnpl htp hlen hc2 hlot2 hm2 p0
      subst hnp
      subst hnt
      have p0 := hP.cell 0
      have p1 := hP.cell 1
      have p2 := hP.cell 2
      go_wp2_with fail
      refine (prename_any np 1 A n cp l Ap np cpp perm z0 (h.below hbw0) (hp.below hbw0) Hc0.out Htp.out rfl).mono ?_
      rintro e z1 ⟨Aq, nq, cq, rfl, hQ, hbz1⟩
      have hQr := hQ.rows
      dsimp only at hQr ⊢
      clear p0 p1 p2 hQ
      go_upto_region 4 with fail
      have hbz2 : Below z1.heap.size z1 (z1.alloc (.cells #[.int .i64 np, .int .u8 1, .slice Aq nq cq] 28)) := below_allocN
      have hX := Has.new z1 28 #[.int .i64 np, .int .u8 1, .slice Aq nq cq]
      generalize World.alloc z1 _ = z2 at hbz2 hX ⊢
      have hb02 := Below_trans' hbz1 hbz1.size hbz2
      have hbw2 := Below_trans' hbw0 hbw0.size hb02
      have hP2 := hP.below hb02 hP.lt
      replace hQr := hQr.below hbz2
      have p0 := hP2.cell 0
      have p1 := hP2.cell 1
      have p2 := hP2.cell 2
      go_wp2_with fail
      refine (schulze_any np 1 A n cp l 1 At np ct lot z2 (h.below hbw2) (hl.below hbw2) (by omega)).mono ?_
      rintro e z3 ⟨Ae, ne, ce, Ar, nr, cr, Av, nv, cv, rfl, hO, hbz3⟩
      rw [hrun.out] at hO
      rw [hmay.out]
      clear p0 p1 p2
      go_upto_region 5 with fail
      have hbz4 : Below z3.heap.size z3 (z3.alloc (.cells #[.slice Ae ne ce, .slice Ar nr cr, .slice Av nv cv] 38)) := below_allocN
      have hY := Has.new z3 38 #[.slice Ae ne ce, .slice Ar nr cr, .slice Av nv cv]
      generalize World.alloc z3 _ = wr at hbz4 hY ⊢
      have hb24 := Below_trans' hbz3 hbz3.size hbz4
      have hbwr := Below_trans' hbw2 hbw2.size hb24
      have hOr := hO.below hbz4
      have hXr := hX.below hb24 hX.lt
      have hLr := hl.below hbwr
      have hPr := hp.below hbwr
      replace hQr := hQr.below hb24
      have x0 := hXr.cell 0
      have x1 := hXr.cell 1
      have x2 := hXr.cell 2
      have hP2r := hP2.below hb24 hP2.lt
      clear hO hX hP hP2
      go_cut [11, 12] from 37 to 45 (fun u v wx => ∃ (g : Nat) (Be : Option Addr) (me de : Nat) (Br : Option Addr) (mr dr : Nat) (Bv : Option Addr) (mv dv : Nat), u = .pointer (some ⟨g, 0, none⟩) ∧ v = .int .i64 0 ∧ Has wx g 38 #[.slice Be me de, .slice Br mr dr, .slice Bv mv dv] ∧ ROut wx Be me de Br mr dr Bv mv dv (renO perm o) ∧ Below wr.heap.size wr wx)
      case first =>
        refine wp_region_flowz [0, 1, 2] [0, 1, 2, 5, 6, 7] (fun w' => ∃ q, w' = More wr q) (by kernel_rfl) (by kernel_rfl) (below_more ((Below.refl wr.heap.size wr).drew)) ?_
        simp only [pickOps, List.getElem?_cons_zero, List.getElem?_cons_succ]
        repeat (go_big_quiet_step (fail))
        refine wpQuiet_nil ?_
        have hdr : Below wr.heap.size wr wr.drew := (Below.refl _ _).drew
        clear x0 x1 x2
        refine flow_two 3 8 (by kernel_rfl) rfl rfl ?_ ?_
        · go_wp2_with fail
          refine (pnames_any At np ct lot Ap np cpp perm _ (hLr.below hdr) (hPr.below hdr) Hlr.out (by omega)).mono ?_
          rintro e wa ⟨va, rfl, hOa, hba⟩
          have hbra : Below wr.heap.size wr wa := Below_trans' hdr (hdr).size hba
          obtain ⟨Aa, ca, rfl⟩ := hOa.slice
          have hRa := hOa.ints (fun x hx => by obtain ⟨y, hy, rfl⟩ := List.mem_map.1 hx; have := HN.out.name_in (Hlr.out y hy); omega)
          have hna : (lot.map (nameS perm)).length = np := by rw [List.length_map]; exact Hll.out
          rw [hna] at hRa ⊢
          clear hna hOa
          go_wp2
          refine FlowPost.mk ⟨below_more hbra, ?_⟩
          refine flow_two 4 8 (by kernel_rfl) rfl rfl ?_ ?_
          · go_wp2_with fail
            refine (schulze_any np 1 Aq nq cq (renL perm l) 1 Aa np ca (lot.map (nameS perm)) _ (hQr.below hbra) (hRa.below (Below.refl _ _)) (by omega)).mono ?_
            rintro e wc ⟨Be, me, de, Br, mr, dr, Bv, mv, dv, rfl, hO, hbc⟩
            rw [hrun2.out] at hO
            rw [hmay2.out]
            have hbrc : Below wr.heap.size wr wc := Below_trans' hbra (hbra).size hbc
            go_wp2
            refine FlowPost.mk ⟨below_more hbrc, ?_⟩
            refine flow_pure [5, 6, 7] (by kernel_rfl) (below_more hbrc) ?_
            simp only [pickOps, List.getElem?_cons_zero, List.getElem?_cons_succ]
            repeat (go_big_quiet_step (fail))
            refine wpQuiet_nil ?_
            refine flow_one 8 (by kernel_rfl) rfl ?_
            go_wp2
            refine FlowPost.mk ⟨below_more (hbrc.alloc hbrc.size _), ?_⟩
            refine flow_one 9 (by kernel_rfl) rfl ?_
            have hbN : Below wc.heap.size wc (wc.alloc (.cells #[.slice Be me de, .slice Br mr dr, .slice Bv mv dv] 38)) := below_allocN
            have hN := Has.new wc 38 #[.slice Be me de, .slice Br mr dr, .slice Bv mv dv]
            have hON := hO.below hbN
            have hb8 := Below_trans' hbrc hbrc.size hbN
            go_wp2
            generalize World.alloc wc _ = w8 at hN hON hb8 ⊢
            refine FlowPost.mk ⟨below_more hb8, ?_⟩
            refine flow_one 10 (by kernel_rfl) rfl ?_
            go_wp2
            refine FlowPost.mk ⟨below_more hb8, ?_⟩
            refine flow_rest [] (by kernel_rfl) ?_
            simp only [pickOps]
            go_wp2
            go_meet
            exact ⟨wc.heap.size, Be, me, de, Br, mr, dr, Bv, mv, dv, rfl, rfl, hN, hON, hb8⟩
          · have hbz : Below wa.heap.size wa (wa.alloc (.cells #[.slice none 0 0, .slice none 0 0, .slice none 0 0] 38)) := below_allocN
            have hNz := Has.new wa 38 #[.slice none 0 0, .slice none 0 0, .slice none 0 0]
            have hgr := hbra.size
            go_wp2
            generalize World.alloc wa _ = wz at hbz hNz ⊢
            have hbrz := Below_trans' hbra hbra.size hbz
            refine FlowPost.mk ⟨below_more hbrz, ?_⟩
            refine flow_one 4 (by kernel_rfl) rfl ?_
            go_wp2_with fail
            refine (schulze_any np 1 Aq nq cq (renL perm l) 1 Aa np ca (lot.map (nameS perm)) _ (hQr.below hbrz) (hRa.below hbz) (by omega)).mono ?_
            rintro e wc ⟨Be, me, de, Br, mr, dr, Bv, mv, dv, rfl, hO, hbc⟩
            rw [hrun2.out] at hO
            rw [hmay2.out]
            have hbrc : Below wr.heap.size wr wc := Below_trans' hbrz (hbrz).size hbc
            go_wp2
            refine FlowPost.mk ⟨below_more hbrc, ?_⟩
            refine flow_pure [5, 6, 7] (by kernel_rfl) (below_more hbrc) ?_
            simp only [pickOps, List.getElem?_cons_zero, List.getElem?_cons_succ]
            repeat (go_big_quiet_step (fail))
            refine wpQuiet_nil ?_
            have hNc := hNz.below hbc hNz.lt
            refine flow_one 9 (by kernel_rfl) rfl ?_
            have t0 := hNc.cell 0
            have t1 := hNc.cell 1
            have t2 := hNc.cell 2
            have f0 := hNc.free 0
            have f1 := hNc.free 1
            have f2 := hNc.free 2
            have hN := put3 (x' := .slice Be me de) (y' := .slice Br mr dr) (z' := .slice Bv mv dv) hNc
            have hF := frame3 wc wa.heap.size (.slice Be me de) (.slice Br mr dr) (.slice Bv mv dv)
            have hON := hO.far hNc (fun b hb hne => hF.block b hb hne)
            have hb8 := Frame'.below hbrc hF (fun b e => by have e : b = wa.heap.size := e; omega) hbrc.size
            go_wp2
            generalize World.setCell (World.setCell (World.setCell wc _ _) _ _) _ _ = w8 at hN hON hb8 ⊢
            refine FlowPost.mk ⟨below_more hb8, ?_⟩
            refine flow_one 10 (by kernel_rfl) rfl ?_
            go_wp2
            refine FlowPost.mk ⟨below_more hb8, ?_⟩
            refine flow_rest [] (by kernel_rfl) ?_
            simp only [pickOps]
            go_wp2
            go_meet
            exact ⟨wa.heap.size, Be, me, de, Br, mr, dr, Bv, mv, dv, rfl, rfl, hN, hON, hb8⟩
        · have hbz : Below wr.heap.size wr (wr.alloc (.cells #[.slice none 0 0, .slice none 0 0, .slice none 0 0] 38)).drew := ((Below.refl _ _).alloc (Nat.le_refl _) _).drew
          have hNz : Has (wr.alloc (.cells #[.slice none 0 0, .slice none 0 0, .slice none 0 0] 38)).drew wr.heap.size 38 #[.slice none 0 0, .slice none 0 0, .slice none 0 0] := (Has.new wr 38 #[.slice none 0 0, .slice none 0 0, .slice none 0 0]).drew
          go_wp2
          generalize World.drew _ = wz at hbz hNz ⊢
          refine FlowPost.mk ⟨below_more hbz, ?_⟩
          have hgr := Nat.le_refl wr.heap.size
          refine flow_one 3 (by kernel_rfl) rfl ?_
          go_wp2_with fail
          refine (pnames_any At np ct lot Ap np cpp perm _ (hLr.below hbz) (hPr.below hbz) Hlr.out (by omega)).mono ?_
          rintro e wa ⟨va, rfl, hOa, hba⟩
          have hbra : Below wr.heap.size wr wa := Below_trans' hbz (hbz).size hba
          obtain ⟨Aa, ca, rfl⟩ := hOa.slice
          have hRa := hOa.ints (fun x hx => by obtain ⟨y, hy, rfl⟩ := List.mem_map.1 hx; have := HN.out.name_in (Hlr.out y hy); omega)
          have hna : (lot.map (nameS perm)).length = np := by rw [List.length_map]; exact Hll.out
          rw [hna] at hRa ⊢
          clear hna hOa
          go_wp2
          refine FlowPost.mk ⟨below_more hbra, ?_⟩
          have hNa := hNz.below hba hNz.lt
          refine flow_one 4 (by kernel_rfl) rfl ?_
          go_wp2_with fail
          refine (schulze_any np 1 Aq nq cq (renL perm l) 1 Aa np ca (lot.map (nameS perm)) _ (hQr.below hbra) (hRa.below (Below.refl _ _)) (by omega)).mono ?_
          rintro e wc ⟨Be, me, de, Br, mr, dr, Bv, mv, dv, rfl, hO, hbc⟩
          rw [hrun2.out] at hO
          rw [hmay2.out]
          have hbrc : Below wr.heap.size wr wc := Below_trans' hbra (hbra).size hbc
          go_wp2
          refine FlowPost.mk ⟨below_more hbrc, ?_⟩
          refine flow_pure [5, 6, 7] (by kernel_rfl) (below_more hbrc) ?_
          simp only [pickOps, List.getElem?_cons_zero, List.getElem?_cons_succ]
          repeat (go_big_quiet_step (fail))
          refine wpQuiet_nil ?_
          have hNc := hNa.below hbc hNa.lt
          refine flow_one 9 (by kernel_rfl) rfl ?_
          have t0 := hNc.cell 0
          have t1 := hNc.cell 1
          have t2 := hNc.cell 2
          have f0 := hNc.free 0
          have f1 := hNc.free 1
          have f2 := hNc.free 2
          have hN := put3 (x' := .slice Be me de) (y' := .slice Br mr dr) (z' := .slice Bv mv dv) hNc
          have hF := frame3 wc wr.heap.size (.slice Be me de) (.slice Br mr dr) (.slice Bv mv dv)
          have hON := hO.far hNc (fun b hb hne => hF.block b hb hne)
          have hb8 := Frame'.below hbrc hF (fun b e => by have e : b = wr.heap.size := e; omega) hbrc.size
          go_wp2
          generalize World.setCell (World.setCell (World.setCell wc _ _) _ _) _ _ = w8 at hN hON hb8 ⊢
          refine FlowPost.mk ⟨below_more hb8, ?_⟩
          refine flow_one 10 (by kernel_rfl) rfl ?_
          go_wp2
          refine FlowPost.mk ⟨below_more hb8, ?_⟩
          refine flow_rest [] (by kernel_rfl) ?_
          simp only [pickOps]
          go_wp2
          go_meet
          exact ⟨wr.heap.size, Be, me, de, Br, mr, dr, Bv, mv, dv, rfl, rfl, hN, hON, hb8⟩
      case rest =>
        obtain ⟨g, Be, me, de, Br, mr, dr, Bv, mv, dv, rfl, rfl, hN, hO2, hbrc⟩ := hcut
        have hYc := hY.below hbrc hY.lt
        have hOc := hOr.below hbrc
        have hPb := hP2r.below hbrc hP2r.lt
        have hXb := hXr.below hbrc hXr.lt
        have hQc := hQr.below hbrc
        have hPc := hPr.below hbrc
        have hbwc := Below_trans' hbwr hbwr.size hbrc
        clear x0 x1 x2 hY hOr hP2r hXr hQr hPr hLr
        have hpo := pof_any np 1 A n cp l wc (h.below hbwc)
        unfold POfPost at hpo
        rw [Hc0.out] at hpo
        have y0 := hPb.cell 0
        have y1 := hPb.cell 1
        have y2 := hPb.cell 2
        go_wp2_with fail
        refine hpo.mono ?_
        rintro e d1 ⟨D, rfl, hD, hbd1⟩
        clear hpo y0 y1 y2
        have hDs := hD.size
        have hM2 : Has ((d1.alloc (.cells Tryz.zeroCells24 24)).setRow d1.heap.size D) d1.heap.size 24 D := (Has.new _ _ _).setRow _
        have hbd2 : Below d1.heap.size d1 ((d1.alloc (.cells Tryz.zeroCells24 24)).setRow d1.heap.size D) := below_setRow ((Below.refl _ _).alloc (Nat.le_refl _) _) (Nat.le_refl _) _
        go_upto_region 7 with (refine stMat rfl rfl rfl rfl (Has.new _ _ _) zeroMat.size hDs hD.one ?_)
        generalize World.setRow (World.alloc d1 _) _ _ = d2 at hM2 hbd2 ⊢
        have hbc2 := Below_trans' hbd1 hbd1.size hbd2
        have hpo := pof_any np 1 Aq nq cq (renL perm l) d2 (hQc.below hbc2)
        unfold POfPost at hpo
        rw [Hc2.out] at hpo
        have hXd := hXb.below hbc2 hXb.lt
        have y0 := hXd.cell 0
        have y1 := hXd.cell 1
        have y2 := hXd.cell 2
        go_wp2_with fail
        refine hpo.mono ?_
        rintro e d3 ⟨D2, rfl, hD2, hbd3⟩
        clear hpo y0 y1 y2
        have hDs2 := hD2.size
        have hM4 : Has ((d3.alloc (.cells Tryz.zeroCells24 24)).setRow d3.heap.size D2) d3.heap.size 24 D2 := (Has.new _ _ _).setRow _
        have hbd4 : Below d3.heap.size d3 ((d3.alloc (.cells Tryz.zeroCells24 24)).setRow d3.heap.size D2) := below_setRow ((Below.refl _ _).alloc (Nat.le_refl _) _) (Nat.le_refl _) _
        go_upto_region 8 with (refine stMat rfl rfl rfl rfl (Has.new _ _ _) zeroMat.size hDs2 hD2.one ?_)
        generalize World.setRow (World.alloc d3 _) _ _ = d4 at hM4 hbd4 ⊢
        have hb24 := Below_trans' hbd3 hbd3.size hbd4
        have hbc4 := Below_trans' hbc2 hbc2.size hb24
        have hMd4 := hM2.below hb24 hM2.lt
        have hPd4 := hPb.below hbc4 hPb.lt
        have y0 := hPd4.cell 0
        go_wp2_with (refine ldMat rfl rfl rfl hMd4 hDs ?_)
        refine (strengths_any D _ hD np d4).mono ?_
        rintro e d5 ⟨S, rfl, hS, hbd5⟩
        clear y0
        rw [Hse.out]
        have hSs := hS.size
        have hS6 : Has ((d5.alloc (.cells Tryz.zeroCells24 24)).setRow d5.heap.size S) d5.heap.size 24 S := (Has.new _ _ _).setRow _
        have hbd6 : Below d5.heap.size d5 ((d5.alloc (.cells Tryz.zeroCells24 24)).setRow d5.heap.size S) := below_setRow ((Below.refl _ _).alloc (Nat.le_refl _) _) (Nat.le_refl _) _
        go_upto_region 9 with (refine stMat rfl rfl rfl rfl (Has.new _ _ _) zeroMat.size hSs hS.one ?_)
        generalize World.setRow (World.alloc d5 _) _ _ = d6 at hS6 hbd6 ⊢
        have hb46 := Below_trans' hbd5 hbd5.size hbd6
        have hbc6 := Below_trans' hbc4 hbc4.size hb46
        have hMd6 := hM4.below hb46 hM4.lt
        have hPd6 := hPb.below hbc6 hPb.lt
        have y0 := hPd6.cell 0
        go_wp2_with (refine ldMat rfl rfl rfl hMd6 hDs2 ?_)
        refine (strengths_any D2 _ hD2 np d6).mono ?_
        rintro e d7 ⟨S2, rfl, hS2, hbd7⟩
        clear y0
        rw [Hse2.out]
        have hSs2 := hS2.size
        have hS8 : Has ((d7.alloc (.cells Tryz.zeroCells24 24)).setRow d7.heap.size S2) d7.heap.size 24 S2 := (Has.new _ _ _).setRow _
        have hbd8 : Below d7.heap.size d7 ((d7.alloc (.cells Tryz.zeroCells24 24)).setRow d7.heap.size S2) := below_setRow ((Below.refl _ _).alloc (Nat.le_refl _) _) (Nat.le_refl _) _
        go_upto_region 10 with (refine stMat rfl rfl rfl rfl (Has.new _ _ _) zeroMat.size hSs2 hS2.one ?_)
        generalize World.setRow (World.alloc d7 _) _ _ = wk at hS8 hbd8 ⊢
        have hb68 := Below_trans' hbd7 hbd7.size hbd8
        have hbck := Below_trans' hbc6 hbc6.size hb68
        have hSk := hS6.below hb68 hS6.lt
        have hPk := hPb.below hbck hPb.lt
        have hNk := hN.below hbck hN.lt
        have hYk := hYc.below hbck hYc.lt
        have hOk := hOc.below hbck
        have hO2k := hO2.below hbck
        have hPek := hPc.below hbck
        have hbwk := Below_trans' hbwc hbwc.size hbck
        generalize strV (ofR np 1 l) np = SV at *
        generalize strV (ofR np 1 (renL perm l)) np = SW at *
        clear hPb hXb hQc hPc hN hYc hOc hO2 hM2 hM4 hMd4 hMd6 hXd hPd4 hPd6 hS6 hbd1 hbd2 hbd3 hbd4 hbd5 hbd6 hbd7 hbd8 hbc2 hb24 hbc4 hb46 hbc6 hb68
        obtain ⟨bp, op, eAp, hpc⟩ := hPek.2.2.2.2 (by omega)
        have Hpc : Hid (∀ X : Nat, X < np → wk.cell? ⟨bp, op + X, none⟩ = some (.int .i64 (nm perm X : Nat))) := fun X hX => by
          rw [hpc X hX, nm_cast HN.out hX]; rfl
        subst eAp
        clear hpc
        have hgk : Hid (d5.heap.size < wk.heap.size) := hSk.lt
        go_wp2
        go_loopw [21] (fun i wr => ∃ X : Nat, X ≤ np ∧ i = .int .i64 X ∧ Below wk.heap.size wk wr) (fun i _ => np - (intOf i).toNat)
        case atStart => exact ⟨0, Nat.zero_le _, rfl, Below.refl _ _⟩
        case round =>
          obtain ⟨X, hXl, rfl, hb1⟩ := hrel
          obtain ⟨wo, rfl⟩ : ∃ wo : World, wo = wr := ⟨_, rfl⟩
          have hPo := hPk.below hb1 hPk.lt
          have p0 := hPo.cell 0
          by_cases hXC : X < np
          · have hX10 : X < 10 := by omega
            have b1 : (X : Int) < 10 := by omega
            have hUl := nm_lt HN.out hXC
            have hU0 := hide (nm_lt HN.out hXC)
            go_wp2
            clear p0
            go_loopw [22] (fun i wr => ∃ Y : Nat, Y ≤ np ∧ i = .int .i64 Y ∧ Below wo.heap.size wo wr) (fun i _ => np - (intOf i).toNat)
            case atStart => exact ⟨0, Nat.zero_le _, rfl, Below.refl _ _⟩
            case round =>
              obtain ⟨Y, hYl, rfl, hb2⟩ := hrel
              have hbi := Below_trans' hb1 hb1.size hb2
              have hPr := hPk.below hbi hPk.lt
              have p0 := hPr.cell 0
              by_cases hYC : Y < np
              · have b2 : (Y : Int) < 10 := by omega
                have hVl := nm_lt HN.out hYC
                have q1 := keep_cell hbi (Hpc.out X hXC)
                have q2 := keep_cell hbi (Hpc.out Y hYC)
                have hTr := hS8.below hbi hS8.lt
                have hSr := hSk.below hbi hSk.lt
                have hc1 := (hTr.cell (nm perm X * 10 + nm perm Y)).trans (hS2.at_ (nm perm X) (nm perm Y) (by omega) (by omega))
                have hc2 := (hSr.cell (X * 10 + Y)).trans (hS.at_ X Y (by omega) (by omega))
                rw [hsr.out X Y hXC hYC] at hc1
                generalize nm perm X = U at q1 hc1 hUl
                generalize nm perm Y = V at q2 hc1 hVl
                generalize SV X Y = v at hc1 hc2
                have b3 : (U : Int) < 10 := by omega
                have b4 : (V : Int) < 10 := by omega
                have f1 : (v != v) = false := by simp
                go_upto_region 18 with fail
                refine wp_region_more (by kernel_rfl) (by kernel_rfl) ?_
                repeat (go_big_quiet_step (fail))
                refine wpQuiet_nil ?_
                rintro w2 ⟨qw2, hww2⟩
                have hbw2 := below_of_eq hww2
                clear hww2 qw2
                clear hc1 hc2 q1 q2
                have hb3 := Below_trans' hb2 hb2.size hbw2
                go_wp2
                go_roundw
                case rel => exact ⟨Y + 1, by omega, by go_num, hb3⟩
                case measure => simp [intOf] <;> omega
              · obtain rfl : np = Y := by omega
                go_wp2
                go_roundw
                case rel => exact ⟨X + 1, by omega, by go_num, hbi⟩
                case measure => simp [intOf] <;> omega
          · obtain rfl : np = X := by omega
            have hNo := hNk.below hb1 hNk.lt
            have hYo := hYk.below hb1 hYk.lt
            have u0 := hNo.cell 0
            have u1 := hNo.cell 1
            have u2 := hNo.cell 2
            have v0 := hYo.cell 0
            have v1 := hYo.cell 1
            have v2 := hYo.cell 2
            have hbwo := Below_trans' hbwk hbwk.size hb1
            go_upto_region 20 with fail
            clear p0
            refine wp_region_flowz [0, 1, 2] [0, 1, 2, 5] (fun w' => ∃ q, w' = More wo q) (by kernel_rfl) (by kernel_rfl) (below_more ((Below.refl wo.heap.size wo).drew)) ?_
            simp only [pickOps, List.getElem?_cons_zero, List.getElem?_cons_succ]
            repeat (go_big_quiet_step (fail))
            refine wpQuiet_nil ?_
            have hdr : Below wo.heap.size wo wo.drew := (Below.refl _ _).drew
            clear u0 u1 u2 v0 v1 v2
            refine flow_one 3 (by kernel_rfl) rfl ?_
            go_wp2_with fail
            refine (renamed_any Ae ne ce Ar nr cr Av nv cv o _ np cpp perm _ ((hOk.below hb1).below hdr) ((hPek.below hb1).below hdr) HN.out hck.out).mono ?_
            rintro e wd ⟨Ce, ke, le, Cr, kr, lr, Cv, kv, lv, rfl, hO3, hbd⟩
            have hbcd : Below wo.heap.size wo wd := Below_trans' hdr (Nat.le_refl _) hbd
            go_wp2
            refine FlowPost.mk ⟨below_more hbcd, ?_⟩
            refine flow_one 4 (by kernel_rfl) rfl ?_
            go_wp2_with fail
            refine (same_eq Be me de Br mr dr Bv mv dv Ce ke le Cr kr lr Cv kv lv (renO perm o) wd ((hO2k.below hb1).below hbcd) hO3).mono ?_
            rintro e we ⟨rfl, hbe⟩
            have hbce := Below_trans' hbcd hbcd.size hbe
            go_wp2
            refine FlowPost.mk ⟨below_more hbce, ?_⟩
            refine flow_pure [5] (by kernel_rfl) (below_more hbce) ?_
            simp only [pickOps, List.getElem?_cons_zero, List.getElem?_cons_succ]
            repeat (go_big_quiet_step (fail))
            refine wpQuiet_nil ?_
            refine flow_one 6 (by kernel_rfl) rfl ?_
            go_wp2_with fail
            refine (wakes13_any _).mono ?_
            rintro e wf ⟨rfl, hbf⟩
            have hbcf := Below_trans' hbce hbce.size hbf
            go_wp2
            refine FlowPost.mk ⟨below_more hbcf, ?_⟩
            refine flow_rest [7, 8] (by kernel_rfl) ?_
            simp only [pickOps, List.getElem?_cons_zero, List.getElem?_cons_succ]
            go_wp2
            go_ret
            exact ⟨rfl, Below_trans' hbwo hbwo.size hbcf⟩
  · have e1 : (mayS c k l 1 1 1 lot == 0) = false := by simp [hE]
    clear hE
    go_wp2_with fail
    refine (wakes13_any _).mono ?_
    rintro e w9 ⟨rfl, hb9⟩
    go_wp2
    go_ret
    exact ⟨rfl, Below_trans' hbw0 (hbw0).size hb9⟩
end Go.Proofs.YtkhclcdmehjfkaaGreat
