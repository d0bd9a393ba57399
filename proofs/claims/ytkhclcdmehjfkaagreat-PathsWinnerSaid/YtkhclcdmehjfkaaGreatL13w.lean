/-
  The law PathsWinner.
-/
import Derived.Test.YtkhclcdmehjfkaaGreatW13h
import Derived.Test.YtkhclcdmehjfkaaGreatSpecPw
import Derived.Test.YtkhclcdmehjfkaaGreatSpecNp
import Derived.Test.YtkhclcdmehjfkaaGreatW12c
import Derived.Test.YtkhclcdmehjfkaaGreatFlow2
namespace Go.Proofs.YtkhclcdmehjfkaaGreat
open Go.RowKit Go.Proofs Go.Shelf
attribute [local go_sem] cell?_more cell?_alloc_some cell?_setCell_far frozen?_alloc_some frozen?_more
set_option maxRecDepth 100000 in
set_option maxHeartbeats 4000000 in
theorem pathsWinner_any (c k : Int) (A : Option Addr) (n cp : Nat) (l : List Row) (At : Option Addr) (nt ct : Nat) (lot : List Int) (w : World) (h : RRows w A n cp l) (hl : RInts w At nt ct lot) :
    Calls Tryz.prog 5 #[.agg #[.int .i64 c, .int .u8 k, .slice A n cp], .slice At nt ct] w fun e w' => e = .returned (.bool true) ∧ Below w.heap.size w w' := by
  have hb : Below w.heap.size w (w.alloc (.cells #[.int .i64 c, .int .u8 k, .slice A n cp] 28)) := below_allocN
  have hP := Has.new w 28 #[.int .i64 c, .int .u8 k, .slice A n cp]
  go_enter Tryz.func5, Tryz.ntmps5
  go_upto_region 1 with fail
  generalize World.alloc w _ = W0 at hb hP ⊢
  have p0 := hP.cell 0
  have p1 := hP.cell 1
  have p2 := hP.cell 2
  go_wp2_with fail
  refine (may13_any c k A n cp l At nt ct lot W0 (h.below hb) (hl.below hb)).mono ?_
  rintro e z0 ⟨rfl, hbz0⟩
  have hbw0 := Below_trans' hb hb.size hbz0
  replace hP := hP.below hbz0 hP.lt
  clear p0 p1 p2
  by_cases hE : mayS c k l 1 1 1 lot = 0
  · have e1 : (mayS c k l 1 1 1 lot == 0) = true := by simp [hE]
    obtain ⟨hc0, hk0, _, _, _, hlot⟩ := may_zero hE
    subst hk0
    have hcs := check_ok hc0
    obtain ⟨C, rfl⟩ : ∃ C : Nat, c = (C : Int) := ⟨c.toNat, by omega⟩
    have Hlot := hide hlot
    have hro := hide (pathR_ok hE)
    have hE0 := hide hE
    have hc00 := hide hc0
    have hC10 := (rank_ok hc0).c10
    have hC1 := (rank_ok hc0).c1
    have hnt : nt ≤ 10 := by have h1 := lot_len hlot; have h2 := hl.len; omega
    have hrt := hide (ofR_right (k := 1) hc0 (c' := (C : Int)) (Int.le_refl _) (by omega))
    have Hse := hide (strErr_ok hrt.out)
    have Hst := hide (strV_ok hrt.out)
    have HsE := hide (smithErr_ok hrt.out)
    have hsm := smithS_ok (m := ofR C 1 l) (show 0 < C by omega)
    have hsv := smithV_ok hrt.out hsm
    have htop := top_smith hrt.out Hst.out hsm.dom
    have hsub : (topS (strV (ofR C 1 l) C) C).Sublist (rangeI C) := List.filter_sublist
    have hfm := frst_mem (lot := lot) (topS_ne Hst.out (show 0 < C by omega) hC10) fun x hx => lot_in hlot (hsub.subset hx)
    have hin : Hid (inL (smithV (ofR C 1 l) C) (frstS lot (topS (strV (ofR C 1 l) C) C)) = true) := by unfold Hid; rw [hsv, inL_iff]; exact htop hfm
    have hTr : Hid (∀ x ∈ smithV (ofR C 1 l) C, 0 ≤ x ∧ x < C) := fun x hx => by rw [hsv] at hx; exact mem_rangeI.1 (hsm.dom.sub.subset hx)
    have hlw : Hid ((loneV (ofR C 1 l) C).2 = true → frstS lot (topS (strV (ofR C 1 l) C) C) = (loneV (ofR C 1 l) C).1 ∧ tiedS [] (topS (strV (ofR C 1 l) C) C) (frstS lot (topS (strV (ofR C 1 l) C) C)) = []) := fun hb => by
      obtain ⟨_, X, hX1, hX2, hX3⟩ := lone_true (x := (loneV (ofR C 1 l) C).1) (Prod.ext rfl hb)
      have ht := lone_top hrt.out Hst.out (show X < C by omega) hX3
      rw [ht] at hfm ⊢
      refine ⟨by rw [hX1]; exact List.mem_singleton.1 hfm, ?_⟩
      unfold tiedS; rw [if_pos (by simp)]
    clear hsm hsv htop hsub hfm
    have p0 := hP.cell 0
    have p1 := hP.cell 1
    have p2 := hP.cell 2
    clear hcs hE hc0 hlot
    go_wp2_with fail
    refine (schulze_any C 1 A n cp l 1 At nt ct lot z0 (h.below hbw0) (hl.below hbw0) (by omega)).mono ?_
    rintro e z1 ⟨Ae, ne, ce, Ar, nr, cr, Av, nv, cv, rfl, hO, hbz1⟩
    rw [hro.out, Int.toNat_natCast] at hO
    rw [hE0.out]
    have hnr : nr = 1 := hO.2.1.len.symm
    subst hnr
    have hne : ne = 1 := hO.1.len.symm
    subst hne
    clear p0 p1 p2
    go_upto_region 4 with fail
    have hbz2 : Below z1.heap.size z1 (z1.alloc (.cells #[.slice Ae 1 ce, .slice Ar 1 cr, .slice Av nv cv] 38)) := below_allocN
    have hX := Has.new z1 38 #[.slice Ae 1 ce, .slice Ar 1 cr, .slice Av nv cv]
    generalize World.alloc z1 _ = z2 at hbz2 hX ⊢
    have hb02 := Below_trans' hbz1 hbz1.size hbz2
    have hbw2 := Below_trans' hbw0 hbw0.size hb02
    have hP2 := hP.below hb02 hP.lt
    have p0 := hP2.cell 0
    have p1 := hP2.cell 1
    have p2 := hP2.cell 2
    have hpo := pof_any C 1 A n cp l z2 (h.below hbw2)
    unfold POfPost at hpo
    rw [hc00.out] at hpo
    go_wp2_with fail
    refine hpo.mono ?_
    rintro e w2 ⟨D, rfl, hD, hb2⟩
    clear hpo p0 p1 p2
    have hDs := hD.size
    have hM3 : Has ((w2.alloc (.cells Tryz.zeroCells24 24)).setRow w2.heap.size D) w2.heap.size 24 D := (Has.new _ _ _).setRow _
    have hb23 : Below w2.heap.size w2 ((w2.alloc (.cells Tryz.zeroCells24 24)).setRow w2.heap.size D) := below_setRow ((Below.refl _ _).alloc (Nat.le_refl _) _) (Nat.le_refl _) _
    go_upto_region 5 with (refine stMat rfl rfl rfl rfl (Has.new _ _ _) zeroMat.size hDs hD.one ?_)
    generalize World.setRow (World.alloc w2 _) _ _ = w3 at hM3 hb23 ⊢
    have hb13 := Below_trans' hb2 hb2.size hb23
    have hP3 := hP2.below hb13 hP2.lt
    have p0 := hP3.cell 0
    go_wp2_with (refine ldMat rfl rfl rfl hM3 hDs ?_)
    refine (smith_any D _ hD C w3).mono ?_
    rintro e w4 ⟨vs, rfl, hOs, hb4⟩
    clear p0
    rw [HsE.out]
    generalize smithV (ofR C 1 l) C = T at *
    obtain ⟨As, cs, rfl⟩ := hOs.slice
    have hRT := hOs.ints fun x hx => by have := hTr.out x hx; omega
    generalize T.length = nT at *
    have hM4 := hM3.below hb4 hM3.lt
    have hb14 := Below_trans' hb13 hb13.size hb4
    have hP4 := hP2.below hb14 hP2.lt
    have p0 := hP4.cell 0
    go_wp2_with (refine ldMat rfl rfl rfl hM4 hDs ?_)
    refine (winner_any D _ hD C w4).mono ?_
    rintro e w5 ⟨rfl, hb5⟩
    clear p0
    have hb15 := Below_trans' hb14 hb14.size hb5
    have hX5 := hX.below hb15 hX.lt
    have hO5 := (hO.below hbz2).below hb15
    have hRT5 := hRT.below hb5
    have hbw5 := Below_trans' hbw2 hbw2.size hb15
    generalize strV (ofR C 1 l) C = SV at *
    generalize loneV (ofR C 1 l) C = lv at *
    obtain ⟨wx, wb⟩ := lv
    dsimp only at hlw ⊢
    clear hb13 hb23 hb4 hb2 hM3 hM4 hP3 hP4 hX hO hbz1 hbz2 hb02 hP2 hOs hRT hb14 hb15 hb5
    have hpath : pathO SV C lot = ([frstS lot (topS SV C)], [rndS (hadPL SV C) 0 [frstS lot (topS SV C)] []], tiedS [] (topS SV C) (frstS lot (topS SV C))) := rfl
    rw [hpath] at hO5
    clear hpath
    obtain ⟨hEl, hRs, hTs⟩ := hO5
    dsimp only at hEl hRs hTs
    generalize hx : frstS lot (topS SV C) = x at *
    clear hx
    generalize tiedS [] (topS SV C) x = ts at *
    have hnv := hide hTs.len
    clear hRs
    have q0 := hX5.cell 0
    have q2 := hX5.cell 2
    obtain ⟨be, oe, ve, ee, hcx, _, hatx, _⟩ := hEl.step (show 0 < 1 by omega)
    cases ee
    obtain rfl : x = ve := by have e := hatx.out; simpa using e
    simp only [Nat.add_zero] at hcx
    clear hatx
    go_wp2_with fail
    refine (in_any As nT cs T x w5 hRT5).mono ?_
    rintro e w' ⟨rfl, rfl⟩
    rw [hin.out]
    cases wb with
    | false =>
      go_wp2_with fail
      refine (wakes13_any _).mono ?_
      rintro e w9 ⟨rfl, hb9⟩
      go_wp2
      go_ret
      exact ⟨rfl, Below_trans' hbw5 hbw5.size hb9⟩
    | true =>
      obtain ⟨h1, h2⟩ := hlw.out rfl
      subst h2
      obtain rfl : nv = 0 := hnv.out.symm
      have f9 : (x == wx) = true := by rw [h1]; simp
      clear h1 hnv
      go_wp2_with fail
      refine (wakes13_any _).mono ?_
      rintro e w9 ⟨rfl, hb9⟩
      go_wp2
      go_ret
      exact ⟨rfl, Below_trans' hbw5 hbw5.size hb9⟩
  · have e1 : (mayS c k l 1 1 1 lot == 0) = false := by simp [hE]
    clear hE
    go_wp2_with fail
    refine (wakes13_any _).mono ?_
    rintro e w9 ⟨rfl, hb9⟩
    go_wp2
    go_ret
    exact ⟨rfl, Below_trans' hbw0 (hbw0).size hb9⟩
end Go.Proofs.YtkhclcdmehjfkaaGreat
