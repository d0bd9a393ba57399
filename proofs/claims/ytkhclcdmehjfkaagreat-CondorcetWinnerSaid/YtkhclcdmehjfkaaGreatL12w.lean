/-
  The law CondorcetWinner.
-/
import Derived.Test.YtkhclcdmehjfkaaGreatW12h
import Derived.Test.YtkhclcdmehjfkaaGreatSpecCw
import Derived.Test.YtkhclcdmehjfkaaGreatSpecNp
namespace Go.Proofs.YtkhclcdmehjfkaaGreat
open Go.RowKit Go.Proofs Go.Shelf
attribute [local go_sem] cell?_more cell?_alloc_some cell?_setCell_far frozen?_alloc_some frozen?_more
set_option maxRecDepth 100000 in
set_option maxHeartbeats 4000000 in
theorem condorcetWinner_any (c k : Int) (A : Option Addr) (n cp : Nat) (l : List Row) (At : Option Addr) (nt ct : Nat) (lot : List Int) (w : World) (h : RRows w A n cp l) (hl : RInts w At nt ct lot) :
    Calls Tryz.prog 9 #[.agg #[.int .i64 c, .int .u8 k, .slice A n cp], .slice At nt ct] w fun e w' => e = .returned (.bool true) ∧ Below w.heap.size w w' := by
  have hb : Below w.heap.size w (w.alloc (.cells #[.int .i64 c, .int .u8 k, .slice A n cp] 28)) := below_allocN
  have hP := Has.new w 28 #[.int .i64 c, .int .u8 k, .slice A n cp]
  go_enter Tryz.func9, Tryz.ntmps9
  go_upto_region 1 with fail
  generalize World.alloc w _ = W0 at hb hP ⊢
  have p0 := hP.cell 0
  have p1 := hP.cell 1
  have p2 := hP.cell 2
  go_wp2_with fail
  refine (may12_any c k A n cp l At nt ct lot W0 (h.below hb) (hl.below hb)).mono ?_
  rintro e z0 ⟨rfl, hbz0⟩
  have hbw0 := Below_trans' hb hb.size hbz0
  replace hP := hP.below hbz0 hP.lt
  clear p0 p1 p2
  by_cases hE : mayS c k l 1 1 1 lot = 0
  · have e1 : (mayS c k l 1 1 1 lot == 0) = true := by simp [hE]
    obtain ⟨hc0, hk0, _, _, _, hlot⟩ := may_zero hE
    subst hk0
    have hcs := check_ok hc0
    obtain ⟨C, rfl⟩ : ∃ C : Nat, c = (C : Int) := ⟨c.toNat, by omega⟩
    have Hlot := hide hlot
    have hcp := hide (copR_ok hE)
    have hmi := hide (minR_ok hE)
    have hE0 := hide hE
    have hc00 := hide hc0
    have hC10 := (rank_ok hc0).c10
    have hC1 := (rank_ok hc0).c1
    have hnt : nt ≤ 10 := by have h1 := lot_len hlot; have h2 := hl.len; omega
    have hrt := hide (ofR_right (k := 1) hc0 (c' := (C : Int)) (Int.le_refl _) (by omega))
    have HsE := hide (smithErr_ok hrt.out)
    have hsm := smithS_ok (m := ofR C 1 l) (show 0 < C by omega)
    have hsv := smithV_ok hrt.out hsm
    have hcn : bestS (copF (ofR C 1 l) C) (rangeI C) ≠ [] := bestS_ne (fun e => by have := congrArg List.length e; rw [length_rangeI] at this; simp at this; omega)
    have hfc := frst_mem (lot := lot) hcn fun x hx => lot_in hlot ((bestS_sub _ _).subset hx)
    have hin : Hid (inL (smithV (ofR C 1 l) C) (frstS lot (bestS (copF (ofR C 1 l) C) (rangeI C))) = true) := by unfold Hid; rw [hsv, inL_iff]; exact cop_smith hsm.dom hfc
    have hTr : Hid (∀ x ∈ smithV (ofR C 1 l) C, 0 ≤ x ∧ x < C) := fun x hx => by rw [hsv] at hx; exact mem_rangeI.1 (hsm.dom.sub.subset hx)
    have hlw : Hid ((loneV (ofR C 1 l) C).2 = true → 0 ≤ (loneV (ofR C 1 l) C).1 ∧ (loneV (ofR C 1 l) C).1 < C ∧ frstS lot (bestS (copF (ofR C 1 l) C) (rangeI C)) = (loneV (ofR C 1 l) C).1 ∧ frstS lot (bestS (worF (ofR C 1 l) C) (rangeI C)) = (loneV (ofR C 1 l) C).1 ∧
        tiedS [] (bestS (copF (ofR C 1 l) C) (rangeI C)) (frstS lot (bestS (copF (ofR C 1 l) C) (rangeI C))) = [] ∧ tiedS [] (bestS (worF (ofR C 1 l) C) (rangeI C)) (frstS lot (bestS (worF (ofR C 1 l) C) (rangeI C))) = [] ∧ smithV (ofR C 1 l) C = [(loneV (ofR C 1 l) C).1]) := fun hb => by
      obtain ⟨_, X, hX1, hX2, hX3⟩ := lone_true (x := (loneV (ofR C 1 l) C).1) (Prod.ext rfl hb)
      have hXC : X < C := by omega
      have hfx : frstS lot [(X : Int)] = X := List.mem_singleton.1 (frst_mem (by simp) fun x hx => by rw [List.mem_singleton.1 hx]; exact lot_in hlot (mem_rangeI.2 ⟨by omega, by omega⟩))
      have ht : tiedS [] [(X : Int)] X = [] := by unfold tiedS; rw [if_pos (by simp)]
      rw [cop_lone hXC hX3, wor_lone hXC hX3, smithV_ok hrt.out (lone_smith hXC hX3), hX1, hfx, ht]
      exact ⟨by omega, by omega, rfl, rfl, rfl, rfl, rfl⟩
    have hlf : Hid ((loneV (ofR C 1 l) C).2 = false → (loneV (ofR C 1 l) C).1 = 0 ∧ 1 < (smithV (ofR C 1 l) C).length) := fun hb => by
      obtain ⟨h1, h2⟩ := lone_false hrt.out hb
      exact ⟨h1, by rw [hsv]; exact smith_two hsm h2⟩
    clear hsm hsv hcn hfc
    have p0 := hP.cell 0
    have p1 := hP.cell 1
    have p2 := hP.cell 2
    clear hcs hE hc0 hlot
    have hpo := pof_any C 1 A n cp l z0 (h.below hbw0)
    unfold POfPost at hpo
    rw [hc00.out] at hpo
    go_wp2_with fail
    refine hpo.mono ?_
    rintro e w2 ⟨D, rfl, hD, hb2⟩
    clear hpo p0 p1 p2
    have hDs := hD.size
    have hM3 : Has ((w2.alloc (.cells Tryz.zeroCells24 24)).setRow w2.heap.size D) w2.heap.size 24 D := (Has.new _ _ _).setRow _
    have hb23 : Below w2.heap.size w2 ((w2.alloc (.cells Tryz.zeroCells24 24)).setRow w2.heap.size D) := below_setRow ((Below.refl _ _).alloc (Nat.le_refl _) _) (Nat.le_refl _) _
    go_upto_region 4 with (refine stMat rfl rfl rfl rfl (Has.new _ _ _) zeroMat.size hDs hD.one ?_)
    generalize World.setRow (World.alloc w2 _) _ _ = w3 at hM3 hb23 ⊢
    have hb03 := Below_trans' hb2 hb2.size hb23
    have hbw3 := Below_trans' hbw0 hbw0.size hb03
    have hP3 := hP.below hb03 hP.lt
    have p0 := hP3.cell 0
    have p1 := hP3.cell 1
    have p2 := hP3.cell 2
    go_wp2_with fail
    refine (copeland_any C 1 A n cp l 1 At nt ct lot w3 (h.below hbw3) (hl.below hbw3) (by omega)).mono ?_
    rintro e w4 ⟨Ae, ne, ce, Ar, nr, cr, Av, nv, cv, rfl, hO, hb4⟩
    rw [hcp.out, Int.toNat_natCast] at hO
    rw [hE0.out]
    have hne : ne = 1 := hO.1.len.symm
    subst hne
    clear p0 p1 p2
    go_upto_region 5 with fail
    have hb45 : Below w4.heap.size w4 (w4.alloc (.cells #[.slice Ae 1 ce, .slice Ar nr cr, .slice Av nv cv] 38)) := below_allocN
    have hX := Has.new w4 38 #[.slice Ae 1 ce, .slice Ar nr cr, .slice Av nv cv]
    generalize World.alloc w4 _ = w5 at hb45 hX ⊢
    have hb35 := Below_trans' hb4 hb4.size hb45
    have hbw5 := Below_trans' hbw3 hbw3.size hb35
    have hP5 := hP3.below hb35 hP3.lt
    have hM5 := hM3.below hb35 hM3.lt
    have hO5 := hO.below hb45
    clear hO hb4 hb45 hb35 hP3 hM3 hP hb2 hb23 hb03
    have p0 := hP5.cell 0
    have p1 := hP5.cell 1
    have p2 := hP5.cell 2
    go_wp2_with fail
    refine (minimax_any C 1 A n cp l 1 At nt ct lot w5 (h.below hbw5) (hl.below hbw5) (by omega)).mono ?_
    rintro e w6 ⟨Be, me, de, Br, mr, dr, Bv, mv, dv, rfl, hQ, hb6⟩
    rw [hmi.out, Int.toNat_natCast] at hQ
    rw [hE0.out]
    have hme : me = 1 := hQ.1.len.symm
    subst hme
    clear p0 p1 p2
    go_upto_region 6 with fail
    have hb67 : Below w6.heap.size w6 (w6.alloc (.cells #[.slice Be 1 de, .slice Br mr dr, .slice Bv mv dv] 38)) := below_allocN
    have hY := Has.new w6 38 #[.slice Be 1 de, .slice Br mr dr, .slice Bv mv dv]
    generalize World.alloc w6 _ = w7 at hb67 hY ⊢
    have hb57 := Below_trans' hb6 hb6.size hb67
    have hbw7 := Below_trans' hbw5 hbw5.size hb57
    have hP7 := hP5.below hb57 hP5.lt
    have hM7 := hM5.below hb57 hM5.lt
    have hX7 := hX.below hb57 hX.lt
    have hO7 := hO5.below hb57
    have hQ7 := hQ.below hb67
    clear hQ hb6 hb67 hb57 hP5 hM5 hX hO5
    have p0 := hP7.cell 0
    go_wp2_with (refine ldMat rfl rfl rfl hM7 hDs ?_)
    refine (smith_any D _ hD C w7).mono ?_
    rintro e w8 ⟨vs, rfl, hOs, hb8⟩
    clear p0
    rw [HsE.out]
    generalize smithV (ofR C 1 l) C = T at *
    obtain ⟨As, cs, rfl⟩ := hOs.slice
    have hRT := hOs.ints fun x hx => by have := hTr.out x hx; omega
    have hnT : ∃ k, k = T.length := ⟨_, rfl⟩
    obtain ⟨nT, hnT⟩ := hnT
    rw [← hnT] at hRT hOs hlf ⊢
    have HnT := hide hnT
    clear hnT
    have hM8 := hM7.below hb8 hM7.lt
    have hP8 := hP7.below hb8 hP7.lt
    have p0 := hP8.cell 0
    go_wp2_with (refine ldMat rfl rfl rfl hM8 hDs ?_)
    refine (winner_any D _ hD C w8).mono ?_
    rintro e w9 ⟨rfl, hb9⟩
    clear p0
    have hb79 := Below_trans' hb8 hb8.size hb9
    have hbw9 := Below_trans' hbw7 hbw7.size hb79
    have hX9 := hX7.below hb79 hX7.lt
    have hY9 := hY.below hb79 hY.lt
    have hP9 := hP7.below hb79 hP7.lt
    have hO9 := hO7.below hb79
    have hQ9 := hQ7.below hb79
    have hRT9 := hRT.below hb9
    generalize loneV (ofR C 1 l) C = lv at *
    obtain ⟨wx, wb⟩ := lv
    dsimp only at hlw hlf ⊢
    clear hM7 hM8 hP7 hP8 hX7 hY hO7 hQ7 hRT hOs hb8 hb9 hb79
    obtain ⟨hEl, -, hTs⟩ := hO9
    obtain ⟨hFl, -, hUs⟩ := hQ9
    dsimp only [copO, minO, mostO] at hEl hTs hFl hUs
    generalize frstS lot (bestS (copF (ofR C 1 l) C) (rangeI C)) = x at *
    generalize frstS lot (bestS (worF (ofR C 1 l) C) (rangeI C)) = y at *
    generalize tiedS [] (bestS (copF (ofR C 1 l) C) (rangeI C)) x = ts at *
    generalize tiedS [] (bestS (worF (ofR C 1 l) C) (rangeI C)) y = us at *
    have hnv := hide hTs.len
    have hmv := hide hUs.len
    have q0 := hX9.cell 0
    have q2 := hX9.cell 2
    have r0 := hY9.cell 0
    have r2 := hY9.cell 2
    obtain ⟨be, oe, ve, ee, hcx, _, hatx, _⟩ := hEl.step (show 0 < 1 by omega)
    cases ee
    obtain rfl : x = ve := by have e := hatx.out; simpa using e
    obtain ⟨bf, of_, vf, ef, hcy, _, haty, _⟩ := hFl.step (show 0 < 1 by omega)
    cases ef
    obtain rfl : y = vf := by have e := haty.out; simpa using e
    simp only [Nat.add_zero] at hcx hcy
    clear hatx haty
    go_wp2_with fail
    refine (in_any As nT cs T x w9 hRT9).mono ?_
    rintro e w' ⟨rfl, rfl⟩
    rw [hin.out]
    cases wb with
    | false =>
      obtain ⟨h1, h2⟩ := hlf.out rfl
      subst h1
      have f1 : (1 : Int) < (nT : Int) := by omega
      clear h2
      go_wp2_with fail
      refine (wakes12_any _).mono ?_
      rintro e wE ⟨rfl, hbE⟩
      go_wp2
      go_ret
      exact ⟨rfl, Below_trans' hbw9 hbw9.size hbE⟩
    | true =>
      obtain ⟨hw0, hw1, h1, h2, h3, h4, h5⟩ := hlw.out rfl
      subst h3
      subst h4
      obtain rfl : nv = 0 := hnv.out.symm
      obtain rfl : mv = 0 := hmv.out.symm
      have f9 : (x == wx) = true := by rw [h1]; simp
      have g9 : (y == wx) = true := by rw [h2]; simp
      have hbl : Below w9.heap.size w9 (w9.alloc (.cells #[.int .i64 wx] 3)) := below_allocN
      have hli := lit_ints (Has.new w9 3 #[.int .i64 wx]) (show I64 wx by unfold I64; omega)
      rw [h5] at hRT9
      have hie := ints_eq As (some ⟨w9.heap.size, 0, none⟩) nT cs 1 1 [wx] _ (hRT9.below hbl) hli
      clear h1 h2 h5 hnv hmv
      go_wp2_with fail
      refine hie.mono ?_
      rintro e wF ⟨rfl, hbF⟩
      have hb9F := Below_trans' hbl hbl.size hbF
      go_wp2_with fail
      refine (wakes12_any _).mono ?_
      rintro e wE ⟨rfl, hbE⟩
      have hb9E := Below_trans' hb9F hb9F.size hbE
      go_wp2
      go_ret
      exact ⟨rfl, Below_trans' hbw9 hbw9.size hb9E⟩
  · have e1 : (mayS c k l 1 1 1 lot == 0) = false := by simp [hE]
    clear hE
    go_wp2_with fail
    refine (wakes12_any _).mono ?_
    rintro e w9 ⟨rfl, hb9⟩
    go_wp2
    go_ret
    exact ⟨rfl, Below_trans' hbw0 (hbw0).size hb9⟩
end Go.Proofs.YtkhclcdmehjfkaaGreat
