/-
  The law PairsTells.
-/
import Derived.Test.YtleniljhacnikaaW10o
import Derived.Test.YtleniljhacnikaaMem2
namespace Go.Proofs.Ytleniljhacnikaa
open Go.RowKit Go.Proofs
attribute [local go_sem] cell?_more cell?_alloc_some cell?_setCell_far frozen?_alloc_some frozen?_more
attribute [local go_sem ↓] ldm_fold
attribute [local go_sem] run_LDM run_LDM_more run_LDM_drew

set_option maxRecDepth 100000 in
set_option maxHeartbeats 8000000 in
theorem pairsTells_any (c k : Int) (A : Option Addr) (n cp : Nat) (l : List Row) (CA CB : Array Value) (a b : M) (hA : Mat CA a) (hB : Mat CB b) (cands x y : Int) (Ap : Option Addr) (np cpp : Nat) (perm : List Int) (w : World)
    (hl : RRows w A n cp l) (hp : RInts w Ap np cpp perm) :
    Calls Try.prog 3 #[.agg #[.int .i64 c, .int .u8 k, .slice A n cp], .agg CA, .agg CB, .int .i64 cands, .int .i64 x, .int .i64 y, .slice Ap np cpp] w fun e w' => e = .returned (.bool true) ∧ Below w.heap.size w w' := by
  have hsA := hA.size
  have hsB := hB.size
  have hS0 := (((Hs.nil w).alloc 24 #[.int .i64 c, .int .u8 k, .slice A n cp]).alloc 27 CA).alloc 27 CB
  have hb0 : Below w.heap.size w (((w.alloc (.cells #[.int .i64 c, .int .u8 k, .slice A n cp] 24)).alloc (.cells CA 27)).alloc (.cells CB 27)) :=
    (((Below.refl _ _).alloc (Nat.le_refl _) _).alloc (by simp) _).alloc (by simp; omega) _
  have hnp := hp.le
  go_enter Try.func3, Try.ntmps3
  go_wp2_with fail
  simp only [World.size_alloc] at hS0
  generalize hW : World.alloc (World.alloc (World.alloc _ _) _) _ = W0 at hS0 hb0
  try rw [hW]
  clear hW
  refine (great_any c k A n cp l _ (hl.below hb0)).mono ?_
  rintro e w1 ⟨rfl, hbw⟩
  have hS1 := hS0.below hbw
  have hb1 := Below_trans' hb0 hb0.size hbw
  clear hS0 hb0 hbw
  cases hg : greatS l with
  | true =>
    go_wp2_with fail
    refine (wakes_any _).mono ?_
    rintro e w2 ⟨rfl, hbw⟩
    go_wp2
    go_ret
    exact ⟨rfl, Below_trans' hb1 hb1.size hbw⟩
  | false =>
    by_cases h60 : 60 < np
    · go_wp2_with fail
      refine (wakes_any _).mono ?_
      rintro e w2 ⟨rfl, hbw⟩
      go_wp2
      go_ret
      exact ⟨rfl, Below_trans' hb1 hb1.size hbw⟩
    · have hP := hS1.2.2.1
      have p0 : w1.cell? ⟨w.heap.size, 0, none⟩ = some (.int .i64 c) := hP.cell 0
      have p1 : w1.cell? ⟨w.heap.size, 1, none⟩ = some (.int .u8 k) := hP.cell 1
      have p2 : w1.cell? ⟨w.heap.size, 2, none⟩ = some (.slice A n cp) := hP.cell 2
      clear hP hg
      go_wp2_with fail
      refine (pof_any c k A n cp l _ (hl.below hb1)).mono ?_
      rintro e w2 ⟨R1, rfl, hM1, hbw⟩
      clear p0 p1 p2
      have hS2 := hS1.below hbw
      have hb2 := Below_trans' hb1 hb1.size hbw
      clear hS1 hb1 hbw
      go_upto_region 4 with (refine stMat rfl rfl rfl rfl (Has.new _ _ _) zeroMat.size hM1.size hM1.one ?_)
      have hS3 := hS2.newRow 27 Try.zeroCells27 R1
      have hb3 := below_newRow hb2 hb2.size (.cells Try.zeroCells27 27) R1
      clear hS2 hb2
      generalize hW : World.setRow _ _ _ = W3 at hS3 hb3
      try rw [hW]
      clear hW
      have hP := hS3.2.2.2.1
      have p0 : W3.cell? ⟨w.heap.size, 0, none⟩ = some (.int .i64 c) := hP.cell 0
      have p1 : W3.cell? ⟨w.heap.size, 1, none⟩ = some (.int .u8 k) := hP.cell 1
      have p2 : W3.cell? ⟨w.heap.size, 2, none⟩ = some (.slice A n cp) := hP.cell 2
      clear hP
      go_wp2_with fail
      refine (rof_any c k A n cp l _ (hl.below hb3)).mono ?_
      rintro e w4 ⟨R2, rfl, hM2, hbw⟩
      clear p0 p1 p2
      obtain rfl : R2 = R1 := hM2.unique hM1 (fun _ _ _ _ => rfl)
      have hS4 := hS3.below hbw
      have hb4 := Below_trans' hb3 hb3.size hbw
      clear hS3 hb3 hbw
      go_upto_region 5 with (refine stMat rfl rfl rfl rfl (Has.new _ _ _) zeroMat.size hM1.size hM1.one ?_)
      have hS5 := hS4.newRow 27 Try.zeroCells27 R2
      have hb5 := below_newRow hb4 hb4.size (.cells Try.zeroCells27 27) R2
      clear hS4 hb4
      generalize hW : World.setRow _ _ _ = W5 at hS5 hb5
      try rw [hW]
      clear hW
      have gda := good_of hS5.2.2.2.1 hsA
      have gca := cells_eq hS5.2.2.2.1
      have gdb := good_of hS5.2.2.1 hsB
      have gcb := cells_eq hS5.2.2.1
      go_wp2_with fail
      clear gda gca gdb gcb
      refine (sum_any CA CB a b hA hB _).mono ?_
      rintro e w6 ⟨R3, rfl, hM3, hbw⟩
      have hS6 := hS5.below hbw
      have hb6 := Below_trans' hb5 hb5.size hbw
      clear hS5 hb5 hbw
      go_upto_region 6 with (refine stMat rfl rfl rfl rfl (Has.new _ _ _) zeroMat.size hM3.size hM3.one ?_)
      have hS7 := hS6.newRow 27 Try.zeroCells27 R3
      have hb7 := below_newRow hb6 hb6.size (.cells Try.zeroCells27 27) R3
      clear hS6 hb6
      generalize hW : World.setRow _ _ _ = W7 at hS7 hb7
      try rw [hW]
      clear hW
      have gda := good_of hS7.2.2.2.2.1 hsA
      have gca := cells_eq hS7.2.2.2.2.1
      have gdb := good_of hS7.2.2.2.1 hsB
      have gcb := cells_eq hS7.2.2.2.1
      go_wp2_with fail
      clear gda gca gdb gcb
      refine (rsum_any CA CB a b hA hB _).mono ?_
      rintro e w8 ⟨R4, rfl, hM4, hbw⟩
      obtain rfl : R4 = R3 := hM4.unique hM3 (fun _ _ _ _ => rfl)
      have hS8 := hS7.below hbw
      have hb8 := Below_trans' hb7 hb7.size hbw
      clear hS7 hb7 hbw
      go_upto_region 7 with (refine stMat rfl rfl rfl rfl (Has.new _ _ _) zeroMat.size hM3.size hM3.one ?_)
      have hS9 := hS8.newRow 27 Try.zeroCells27 R4
      have hb9 := below_newRow hb8 hb8.size (.cells Try.zeroCells27 27) R4
      clear hS8 hb8
      generalize hW : World.setRow _ _ _ = W9 at hS9 hb9
      try rw [hW]
      clear hW
      have gda := good_of hS9.2.2.2.2.2.1 hsA
      have gca := cells_eq hS9.2.2.2.2.2.1
      go_wp2_with fail
      clear gda gca
      refine (rename_any CA a hA _ _ _ perm _ (hp.below hb9)).mono ?_
      rintro e w10 ⟨R5, rfl, hM5, hbw⟩
      have hS10 := hS9.below hbw
      have hb10 := Below_trans' hb9 hb9.size hbw
      clear hS9 hb9 hbw
      go_upto_region 8 with (refine stMat rfl rfl rfl rfl (Has.new _ _ _) zeroMat.size hM5.size hM5.one ?_)
      have hS11 := hS10.newRow 27 Try.zeroCells27 R5
      have hb11 := below_newRow hb10 hb10.size (.cells Try.zeroCells27 27) R5
      clear hS10 hb10
      generalize hW : World.setRow _ _ _ = W11 at hS11 hb11
      try rw [hW]
      clear hW
      have gda := good_of hS11.2.2.2.2.2.2.1 hsA
      have gca := cells_eq hS11.2.2.2.2.2.2.1
      go_wp2_with fail
      clear gda gca
      refine (rrename_any CA a hA _ _ _ perm _ (hp.below hb11)).mono ?_
      rintro e w12 ⟨R6, rfl, hM6, hbw⟩
      obtain rfl : R6 = R5 := hM6.unique hM5 (fun _ _ _ _ => rfl)
      have hS12 := hS11.below hbw
      have hb12 := Below_trans' hb11 hb11.size hbw
      clear hS11 hb11 hbw
      go_upto_region 9 with (refine stMat rfl rfl rfl rfl (Has.new _ _ _) zeroMat.size hM5.size hM5.one ?_)
      have hS13 := hS12.newRow 27 Try.zeroCells27 R6
      have hb13 := below_newRow hb12 hb12.size (.cells Try.zeroCells27 27) R6
      clear hS12 hb12
      generalize hW : World.setRow _ _ _ = W13 at hS13 hb13
      try rw [hW]
      clear hW
      have gda := good_of hS13.2.2.2.2.2.2.2.1 hsA
      have gca := cells_eq hS13.2.2.2.2.2.2.2.1
      go_wp2_with fail
      clear gda gca
      refine (wins_any CA a hA cands _).mono ?_
      rintro e w14 ⟨A7, n7, c7, rfl, hi7, hbw⟩
      have hS14 := hS13.below hbw
      have hb14 := Below_trans' hb13 hb13.size hbw
      clear hS13 hb13 hbw
      go_upto_region 10 with (fail)
      have gda := good_of hS14.2.2.2.2.2.2.2.1 hsA
      have gca := cells_eq hS14.2.2.2.2.2.2.2.1
      go_wp2_with fail
      clear gda gca
      refine (rwins_any CA a hA cands _).mono ?_
      rintro e w15 ⟨A8, n8, c8, rfl, hi8, hbw⟩
      have hi7 := hi7.below hbw
      have hS15 := hS14.below hbw
      have hb15 := Below_trans' hb14 hb14.size hbw
      clear hS14 hb14 hbw
      go_upto_region 11 with (fail)
      obtain ⟨hq6, hq5, hq4, hq3, hq2, hq1, hqB, hqA, hqP, -⟩ := hS15
      have he : ∀ {m : M} {R : Array Value}, Mat R m → ∀ w : World, (Op.equalIn 10000 27 (.agg R) (.agg R)).run Try.prog w = .ok true w := fun h w => by rw [eqMat h h w, matEq_self]
      have e1 := he hM1
      have e3 := he hM3
      have e5 := he hM5
      obtain ⟨T0, hT⟩ : ∃ T0, Mat T0 (fun x y => a y x) := ⟨_, hA.turned⟩
      have eT := he hT
      clear he
      have hgd := eqGuardMat
      have gd1 := good_of hq1 hM1.size
      have gc1 := cells_eq hq1
      have gd2 := good_of hq2 hM1.size
      have gc2 := cells_eq hq2
      have gd3 := good_of hq3 hM3.size
      have gc3 := cells_eq hq3
      have gd4 := good_of hq4 hM3.size
      have gc4 := cells_eq hq4
      have gd5 := good_of hq5 hM5.size
      have gc5 := cells_eq hq5
      have gd6 := good_of hq6 hM5.size
      have gc6 := cells_eq hq6
      go_wp2_with fail
      refine (ints_any A7 A8 n7 c7 n8 c8 (winM a cands) (winM a cands) _ hi7 hi8).mono ?_
      rintro e w16 ⟨rfl, hbw⟩
      rw [show (winM a cands == winM a cands) = true from beq_self_eq_true _]
      have hqA := hqA.below hbw hqA.lt
      have hb16 := Below_trans' hb15 hb15.size hbw
      clear gd1 gc1 gd2 gc2 gd3 gc3 gd4 gc4 gd5 gc5 gd6 gc6 e1 e3 e5 hq6 hq5 hq4 hq3 hq2 hq1 hqB hqP hb15 hbw hi7 hi8
      go_upto_region 13 with (fail)
      have gda := good_of hqA hsA
      have gca := cells_eq hqA
      have hR1 : ∀ W, Calls Try.prog 25 #[.agg CA, .int .i64 cands] W fun e w' => e = .returned (.bool (rightS a cands)) ∧ Below W.heap.size W w' := fun W => right_any CA a hA cands W
      have hR2 : ∀ W, Calls Try.prog 26 #[.agg CA, .int .i64 cands] W fun e w' => e = .returned (.bool (rightS a cands)) ∧ Below W.heap.size W w' := fun W => rright_any CA a hA cands W
      have hG1 : ∀ W, Calls Try.prog 27 #[.agg CA, .int .i64 x, .int .i64 y] W fun e w' => e = .returned (.int .i64 (marginS a x y)) ∧ Below W.heap.size W w' := fun W => margin_any CA a hA x y W
      have hG2 : ∀ W, Calls Try.prog 28 #[.agg CA, .int .i64 x, .int .i64 y] W fun e w' => e = .returned (.int .i64 (marginS a x y)) ∧ Below W.heap.size W w' := fun W => rmargin_any CA a hA x y W
      have hB1 : ∀ W, Calls Try.prog 29 #[.agg CA, .int .i64 x, .int .i64 y] W fun e w' => e = .returned (.bool (decide (0 < marginS a x y))) ∧ Below W.heap.size W w' := fun W => beats_any CA a hA x y W
      have hT1 : ∀ W, Calls Try.prog 30 #[.agg CA] W fun e w' => e = .returned (.agg T0) ∧ Below W.heap.size W w' := fun W =>
        (turn_any CA a hA W).mono (by rintro e w' ⟨D, rfl, h, hb⟩; exact ⟨by rw [h.unique hT (fun _ _ _ _ => rfl)], hb⟩)
      have hT2 : ∀ W, Calls Try.prog 31 #[.agg CA] W fun e w' => e = .returned (.agg T0) ∧ Below W.heap.size W w' := fun W =>
        (rturn_any CA a hA W).mono (by rintro e w' ⟨D, rfl, h, hb⟩; exact ⟨by rw [h.unique hT (fun _ _ _ _ => rfl)], hb⟩)
      generalize marginS a x y = mg at hG1 hG2 hB1
      generalize rightS a cands = rg at hR1 hR2
      refine wp_region_more (by kernel_rfl) (by kernel_rfl) ?_
      repeat (go_big_quiet_step ((first | (go_at_call 25; with_reducible exact more_of (hR1 _)) | (go_at_call 26; with_reducible exact more_of (hR2 _)) | (go_at_call 27; with_reducible exact more_of (hG1 _)) | (go_at_call 28; with_reducible exact more_of (hG2 _)) | (go_at_call 29; with_reducible exact more_of (hB1 _)) | (go_at_call 30; with_reducible exact more_of (hT1 _)) | (go_at_call 31; with_reducible exact more_of (hT2 _)) | (go_at_call 15; with_reducible exact more_of (wakes_any _)))))
      refine wpQuiet_nil ?_
      rintro w17 ⟨qw17, hww17⟩
      have hbw17 := below_of_eq hww17
      clear hww17 qw17
      clear hR1 hR2 hG1 hG2 hB1 hT1 hT2
      go_wp2
      go_ret
      exact ⟨rfl, Below_trans' hb16 hb16.size hbw17⟩
end Go.Proofs.Ytleniljhacnikaa
