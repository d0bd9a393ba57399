/-
  The law CondorcetLoser.
-/
import Derived.Test.YtkhclcdmehjfkaaGreatW12h
import Derived.Test.YtkhclcdmehjfkaaGreatSpecCw
import Derived.Test.YtkhclcdmehjfkaaGreatSpecNp
namespace Go.Proofs.YtkhclcdmehjfkaaGreat
open Go.RowKit Go.Proofs Go.Shelf
attribute [local go_sem] cell?_more cell?_alloc_some cell?_setCell_far frozen?_alloc_some frozen?_more
attribute [local go_sem ↓] ldm_fold
attribute [local go_sem] run_LDM run_LDM_more run_LDM_drew
theorem margin_two {m : M} {a b : Nat} (ha : a < 10) (hb : b < 10) (h : rightS m 10 = true) : marginS m a b = m a b - m b a := by
  unfold marginS
  rw [if_pos ⟨inR_iff.2 ⟨by omega, by omega⟩, inR_iff.2 ⟨by omega, by omega⟩, h⟩]
  rfl
/-- A Condorcet loser: all others beat it; it is not in the Smith set of two or more, so Copeland does not elect it. -/
theorem loser_facts {l : List Row} {C : Nat} {lot : List Int} (hc : checkS C 1 l = 0) (hlot : lotS lot C = true) (hC : C ≤ 10) (h0 : 0 < C) (hb : (loneV (fun x y => ofR C 1 l y x) C).2 = true) :
    (0 ≤ (loneV (fun x y => ofR C 1 l y x) C).1 ∧ (loneV (fun x y => ofR C 1 l y x) C).1 < C) ∧
    (∀ y : Nat, y < C → (y : Int) ≠ (loneV (fun x y => ofR C 1 l y x) C).1 → decide (0 < marginS (ofR C 1 l) y (loneV (fun x y => ofR C 1 l y x) C).1) = true) ∧
    (2 ≤ C → inL (smithV (ofR C 1 l) C) (loneV (fun x y => ofR C 1 l y x) C).1 = false ∧ (frstS lot (bestS (copF (ofR C 1 l) C) (rangeI C)) != (loneV (fun x y => ofR C 1 l y x) C).1) = true) := by
  obtain ⟨_, X, hX1, hX2, hX3⟩ := lone_true (x := (loneV (fun x y => ofR C 1 l y x) C).1) (Prod.ext rfl hb)
  rw [hX1]
  have hr10 := ofR_right (k := 1) hc (c' := 10) (by omega) (by omega)
  have hrt := ofR_right (k := 1) hc (c' := (C : Int)) (Int.le_refl _) (by omega)
  have hsm := smithS_ok (m := ofR C 1 l) h0
  have hsv := smithV_ok hrt hsm
  have hcn : bestS (copF (ofR C 1 l) C) (rangeI C) ≠ [] := bestS_ne (fun e => by have := congrArg List.length e; rw [length_rangeI] at this; simp at this; omega)
  have hfc := frst_mem (lot := lot) hcn fun x hx => lot_in hlot ((bestS_sub _ _).subset hx)
  have hin := cop_smith hsm.dom hfc
  refine ⟨⟨by omega, by omega⟩, fun y hy hne => ?_, fun h2 => ?_⟩
  · have := hX3 y (by omega) (fun e => hne (by rw [e]))
    rw [margin_two (by omega) (by omega) hr10]
    simp; omega
  · have ho := loser_out hsm (L := X) (by omega) h2 hX3
    refine ⟨?_, ?_⟩
    · rw [hsv]; simp only [inL, decide_eq_false_iff_not]; exact ho
    · simp only [bne_iff_ne, ne_eq]
      intro e
      rw [e] at hin
      exact ho hin

set_option maxRecDepth 100000 in
set_option maxHeartbeats 4000000 in
theorem condorcetLoser_any (c k : Int) (A : Option Addr) (n cp : Nat) (l : List Row) (At : Option Addr) (nt ct : Nat) (lot : List Int) (w : World) (h : RRows w A n cp l) (hl : RInts w At nt ct lot) :
    Calls Tryz.prog 12 #[.agg #[.int .i64 c, .int .u8 k, .slice A n cp], .slice At nt ct] w fun e w' => e = .returned (.bool true) ∧ Below w.heap.size w w' := by
  have hb : Below w.heap.size w (w.alloc (.cells #[.int .i64 c, .int .u8 k, .slice A n cp] 28)) := below_allocN
  have hP := Has.new w 28 #[.int .i64 c, .int .u8 k, .slice A n cp]
  go_enter Tryz.func12, Tryz.ntmps12
  go_upto_region 1 with fail
  generalize World.alloc w _ = W0 at hb hP ⊢
  have p0 := hP.cell 0
  have p1 := hP.cell 1
  have p2 := hP.cell 2
  go_wp2_with fail
  refine (may12_any c k A n cp l At nt ct lot W0 (h.below hb) (hl.below hb)).mono ?_
  rintro e z0 ⟨rfl, hbz0⟩
  have hbw0 := Below_trans' hb hb.size hbz0
  replace hP := hP.below hbz0 hP.lt
  clear p0 p1 p2
  by_cases hE : mayS c k l 1 1 1 lot = 0
  · have e1 : (mayS c k l 1 1 1 lot == 0) = true := by simp [hE]
    obtain ⟨hc0, hk0, _, _, _, hlot⟩ := may_zero hE
    subst hk0
    have hcs := check_ok hc0
    obtain ⟨C, rfl⟩ : ∃ C : Nat, c = (C : Int) := ⟨c.toNat, by omega⟩
    have Hlot := hide hlot
    have hcp := hide (copR_ok hE)
    have hE0 := hide hE
    have hc00 := hide hc0
    have hC10 := (rank_ok hc0).c10
    have hC1 := (rank_ok hc0).c1
    have hnt : nt ≤ 10 := by have h1 := lot_len hlot; have h2 := hl.len; omega
    have hrt := hide (ofR_right (k := 1) hc0 (c' := (C : Int)) (Int.le_refl _) (by omega))
    have HsE := hide (smithErr_ok hrt.out)
    have hsm := smithS_ok (m := ofR C 1 l) (show 0 < C by omega)
    have hsv := smithV_ok hrt.out hsm
    have hTr : Hid (∀ x ∈ smithV (ofR C 1 l) C, 0 ≤ x ∧ x < C) := fun x hx => by rw [hsv] at hx; exact mem_rangeI.1 (hsm.dom.sub.subset hx)
    have hlw := hide (loser_facts (l := l) (C := C) (lot := lot) hc0 hlot (by omega) (by omega))
    clear hsm hsv
    have p0 := hP.cell 0
    have p1 := hP.cell 1
    have p2 := hP.cell 2
    clear hcs hE hc0 hlot
    have hpo := pof_any C 1 A n cp l z0 (h.below hbw0)
    unfold POfPost at hpo
    rw [hc00.out] at hpo
    go_wp2_with fail
    refine hpo.mono ?_
    rintro e w2 ⟨D, rfl, hD, hb2⟩
    clear hpo p0 p1 p2
    have hDs := hD.size
    have hM3 : Has ((w2.alloc (.cells Tryz.zeroCells24 24)).setRow w2.heap.size D) w2.heap.size 24 D := (Has.new _ _ _).setRow _
    have hb23 : Below w2.heap.size w2 ((w2.alloc (.cells Tryz.zeroCells24 24)).setRow w2.heap.size D) := below_setRow ((Below.refl _ _).alloc (Nat.le_refl _) _) (Nat.le_refl _) _
    go_upto_region 4 with (refine stMat rfl rfl rfl rfl (Has.new _ _ _) zeroMat.size hDs hD.one ?_)
    generalize World.setRow (World.alloc w2 _) _ _ = w3 at hM3 hb23 ⊢
    have hb03 := Below_trans' hb2 hb2.size hb23
    have hbw3 := Below_trans' hbw0 hbw0.size hb03
    have hP3 := hP.below hb03 hP.lt
    have p0 := hP3.cell 0
    go_wp2_with (refine ldMat rfl rfl rfl hM3 hDs ?_)
    refine (loser_any D _ hD C w3).mono ?_
    rintro e w4 ⟨rfl, hb4⟩
    clear p0
    have hbw4 := Below_trans' hbw3 hbw3.size hb4
    have hM4 := hM3.below hb4 hM3.lt
    have hP4 := hP3.below hb4 hP3.lt
    clear hb2 hb23 hb03 hM3 hP3 hP
    obtain ⟨T0, hT0⟩ : ∃ T0, Mat T0 (fun x y => ofR (C : Int) 1 l y x) := ⟨_, hD.turned⟩
    have hT1 : ∀ W, Calls Tryz.prog 54 #[.agg D] W fun e w' => e = .returned (.agg T0) ∧ Below W.heap.size W w' := fun W =>
      (turn_any D _ hD W).mono (by rintro e w' ⟨E, rfl, h, hb⟩; exact ⟨by rw [h.unique hT0 (fun _ _ _ _ => rfl)], hb⟩)
    have hW1 : ∀ W, Calls Tryz.prog 34 #[.agg T0, .int .i64 (C : Int)] W fun e w' => e = .returned (.tuple #[.int .i64 (loneV (fun x y => ofR (C : Int) 1 l y x) C).1, .bool (loneV (fun x y => ofR (C : Int) 1 l y x) C).2]) ∧ Below W.heap.size W w' := fun W =>
      winner_any T0 _ hT0 C W
    generalize loneV (fun x y => ofR (C : Int) 1 l y x) C = lv at hlw hW1 ⊢
    obtain ⟨lx, lb⟩ := lv
    dsimp only at hlw hW1 ⊢
    have gd := good_of hM4 hDs
    have gc := cells_eq hM4
    have p0 := hP4.cell 0
    go_upto_region 5 with fail
    refine wp_region_more (by kernel_rfl) (by kernel_rfl) ?_
    repeat (go_big_quiet_step ((first | (go_at_call 54; with_reducible exact more_of (hT1 _)) | (go_at_call 34; with_reducible exact more_of (hW1 _)))))
    refine wpQuiet_nil ?_
    rintro w5 ⟨qw5, hww5⟩
    have hbw5 := below_of_eq hww5
    clear hww5 qw5
    clear gd gc p0 hT1 hW1 hT0
    have hbw5' := Below_trans' hbw4 hbw4.size hbw5
    have hb45 := hbw5
    clear hbw5
    have hP5 := hP4.below hb45 hP4.lt
    have hM5 := hM4.below hb45 hM4.lt
    clear hM4 hP4 hb4
    have p0 := hP5.cell 0
    have p1 := hP5.cell 1
    have p2 := hP5.cell 2
    go_wp2_with fail
    refine (copeland_any C 1 A n cp l 1 At nt ct lot w5 (h.below hbw5') (hl.below hbw5') (by omega)).mono ?_
    rintro e w6 ⟨Ae, ne, ce, Ar, nr, cr, Av, nv, cv, rfl, hO, hb6⟩
    rw [hcp.out, Int.toNat_natCast] at hO
    rw [hE0.out]
    have hne : ne = 1 := hO.1.len.symm
    subst hne
    clear p0 p1 p2
    go_upto_region 7 with fail
    have hb67 : Below w6.heap.size w6 (w6.alloc (.cells #[.slice Ae 1 ce, .slice Ar nr cr, .slice Av nv cv] 38)) := below_allocN
    have hX := Has.new w6 38 #[.slice Ae 1 ce, .slice Ar nr cr, .slice Av nv cv]
    generalize World.alloc w6 _ = w7 at hb67 hX ⊢
    have hb57 := Below_trans' hb6 hb6.size hb67
    have hbw7 := Below_trans' hbw5' hbw5'.size hb57
    have hP7 := hP5.below hb57 hP5.lt
    have hM7 := hM5.below hb57 hM5.lt
    have hO7 := hO.below hb67
    clear hO hb6 hb67 hb57 hP5 hM5
    have p0 := hP7.cell 0
    go_wp2_with (refine ldMat rfl rfl rfl hM7 hDs ?_)
    refine (smith_any D _ hD C w7).mono ?_
    rintro e w8 ⟨vs, rfl, hOs, hb8⟩
    clear p0
    rw [HsE.out]
    generalize smithV (ofR C 1 l) C = T at *
    obtain ⟨As, cs, rfl⟩ := hOs.slice
    have hRT := hOs.ints fun x hx => by have := hTr.out x hx; omega
    have hnT : ∃ k, k = T.length := ⟨_, rfl⟩
    obtain ⟨nT, hnT⟩ := hnT
    rw [← hnT] at hRT hOs ⊢
    clear hnT
    have hM8 := hM7.below hb8 hM7.lt
    have hP8 := hP7.below hb8 hP7.lt
    have hX8 := hX.below hb8 hX.lt
    have hO8 := hO7.below hb8
    have hbw8 := Below_trans' hbw7 hbw7.size hb8
    clear hM7 hP7 hX hO7 hOs hb8
    obtain ⟨hEl, -, -⟩ := hO8
    dsimp only [copO, mostO] at hEl
    generalize frstS lot (bestS (copF (ofR C 1 l) C) (rangeI C)) = x at *
    generalize ofR (C : Int) 1 l = M at *
    have q0 := hX8.cell 0
    go_upto_region 11 with fail
    clear q0
    go_loopw [15] (fun i wr => ∃ X : Nat, X ≤ C ∧ i = .int .i64 X ∧ Below w8.heap.size w8 wr) (fun i _ => C - (intOf i).toNat)
    case atStart => exact ⟨0, Nat.zero_le _, rfl, Below.refl _ _⟩
    case round =>
      obtain ⟨X, hX, rfl, hb⟩ := hrel
      have hbe := Below_trans' hbw8 hbw8.size hb
      have hPr := hP8.below hb hP8.lt
      have hMr := hM8.below hb hM8.lt
      have hXr := hX8.below hb hX8.lt
      have p0 := hPr.cell 0
      cases lb with
      | false =>
        by_cases hlt : X < C
        · go_wp2_with fail
          refine (wakes12_any _).mono ?_
          rintro e w9 ⟨rfl, hb9⟩
          go_wp2
          go_ret
          exact ⟨rfl, Below_trans' hbe (hbe).size hb9⟩
        · go_wp2_with fail
          refine (wakes12_any _).mono ?_
          rintro e w9 ⟨rfl, hb9⟩
          go_wp2
          go_ret
          exact ⟨rfl, Below_trans' hbe (hbe).size hb9⟩
      | true =>
        obtain ⟨⟨hl0, hl1⟩, hbt, hin⟩ := hlw.out rfl
        by_cases hlt : X < C
        · by_cases hXl : (X : Int) = lx
          · have f1 : ((X : Int) != lx) = false := by simp [hXl]
            clear hXl
            go_wp2
            go_roundw
            case rel => exact ⟨X + 1, by omega, by go_num, hb⟩
            case measure => simp [intOf] <;> omega
          · have f1 : ((X : Int) != lx) = true := by simp [hXl]
            have hB := beats_any D M hD X lx wr
            rw [hbt X hlt hXl] at hB
            clear hXl
            have gd := good_of hMr hDs
            have gc := cells_eq hMr
            go_wp2_with fail
            clear gd gc
            refine hB.mono ?_
            rintro e wB ⟨rfl, hbB⟩
            go_wp2
            go_roundw
            case rel => exact ⟨X + 1, by omega, by go_num, Below_trans' hb hb.size hbB⟩
            case measure => simp [intOf] <;> omega
        · obtain rfl : X = C := by omega
          by_cases h1 : X = 1
          · have f0 : ((X : Int) == 1) = true := by simp [h1]
            clear h1
            go_wp2_with fail
            refine (wakes12_any _).mono ?_
            rintro e w9 ⟨rfl, hb9⟩
            go_wp2
            go_ret
            exact ⟨rfl, Below_trans' hbe (hbe).size hb9⟩
          · have f0 : ((X : Int) == 1) = false := by simp; omega
            obtain ⟨hi1, hi2⟩ := hin (by omega)
            obtain ⟨be, oe, xe, ee, hcx, _, hatx, _⟩ := (hEl.below hb).step (show 0 < 1 by omega)
            cases ee
            obtain rfl : x = xe := by simpa using hatx.out
            simp only [Nat.add_zero] at hcx
            clear hatx
            have q0 := hXr.cell 0
            go_wp2_with fail
            refine (in_any As nT cs T lx wr (hRT.below hb)).mono ?_
            rintro e w' ⟨rfl, rfl⟩
            rw [hi1]
            go_wp2_with fail
            refine (wakes12_any _).mono ?_
            rintro e w9 ⟨rfl, hb9⟩
            go_wp2
            go_ret
            exact ⟨rfl, Below_trans' hbe (hbe).size hb9⟩
  · have e1 : (mayS c k l 1 1 1 lot == 0) = false := by simp [hE]
    clear hE
    go_wp2_with fail
    refine (wakes12_any _).mono ?_
    rintro e w9 ⟨rfl, hb9⟩
    go_wp2
    go_ret
    exact ⟨rfl, Below_trans' hbw0 (hbw0).size hb9⟩
end Go.Proofs.YtkhclcdmehjfkaaGreat
