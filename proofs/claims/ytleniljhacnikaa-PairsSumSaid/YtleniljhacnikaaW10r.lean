/-
  The law PairsSum.
-/
import Derived.Test.YtleniljhacnikaaW10o
import Derived.Test.YtleniljhacnikaaW9l
import Derived.Test.YtleniljhacnikaaSpecS
import Derived.Test.YtleniljhacnikaaMem2
namespace Go.Proofs.Ytleniljhacnikaa
open Go.RowKit Go.Proofs
attribute [local go_sem] cell?_more cell?_alloc_some cell?_setCell_far frozen?_alloc_some frozen?_more
attribute [local go_sem ↓] ldm_fold
attribute [local go_sem] run_LDM run_LDM_more run_LDM_drew

set_option maxRecDepth 100000 in
set_option maxHeartbeats 8000000 in
theorem pairsSum_any (c k : Int) (A : Option Addr) (n cp : Nat) (l : List Row) (c' k' : Int) (A' : Option Addr) (n' cp' : Nat) (l' : List Row) (w : World) (h : RRows w A n cp l) (h' : RRows w A' n' cp' l') :
    Calls Try.prog 5 #[.agg #[.int .i64 c, .int .u8 k, .slice A n cp], .agg #[.int .i64 c', .int .u8 k', .slice A' n' cp']] w fun e w' => e = .returned (.bool true) ∧ Below w.heap.size w w' := by
  have hS0 := ((Hs.nil w).alloc 24 #[.int .i64 c, .int .u8 k, .slice A n cp]).alloc 24 #[.int .i64 c', .int .u8 k', .slice A' n' cp']
  have hb0 : Below w.heap.size w ((w.alloc (.cells #[.int .i64 c, .int .u8 k, .slice A n cp] 24)).alloc (.cells #[.int .i64 c', .int .u8 k', .slice A' n' cp'] 24)) := ((Below.refl _ _).alloc (Nat.le_refl _) _).alloc (by simp) _
  simp only [World.size_alloc] at hS0
  go_enter Try.func5, Try.ntmps5
  go_wp2_with fail
  refine (psum_any c k A n cp l c' k' A' n' cp' l' _ (h.below hb0) (h'.below hb0)).mono ?_
  rintro e w1 ⟨A1, n1, c1, rfl, hr1, hbw⟩
  have hS1 := hS0.below hbw
  have hb1 := Below_trans' hb0 hb0.size hbw
  clear hS0 hb0 hbw
  have hsp := @sumP_ok c k l c' k' l'
  generalize sumP c k l c' k' l' = r at hr1 hsp ⊢
  obtain ⟨re, rc, rk, rl⟩ := r
  simp only at hr1 hsp ⊢
  go_upto_region 2 with (fail)
  have hS2 := hS1.alloc 24 #[.int .i64 rc, .int .u8 rk, .slice A1 n1 c1]
  have hb2 := hb1.alloc hb1.size (.cells #[.int .i64 rc, .int .u8 rk, .slice A1 n1 c1] 24)
  have hr2 := hr1.below ((Below.refl _ _).alloc (Nat.le_refl _) (.cells #[.int .i64 rc, .int .u8 rk, .slice A1 n1 c1] 24))
  clear hS1 hb1 hr1
  generalize hW : World.alloc _ _ = W2 at hS2 hb2 hr2
  try rw [hW]
  clear hW
  generalize w1.heap.size = gs at hS2
  have p0 : W2.cell? ⟨w.heap.size, 0, none⟩ = some (.int .i64 c) := (hS2.2.2.1).cell 0
  have p1 : W2.cell? ⟨w.heap.size, 1, none⟩ = some (.int .u8 k) := (hS2.2.2.1).cell 1
  have p2 : W2.cell? ⟨w.heap.size, 2, none⟩ = some (.slice A n cp) := (hS2.2.2.1).cell 2
  go_wp2_with fail
  refine (great_any c k A n cp l _ (h.below hb2)).mono ?_
  rintro e w3 ⟨rfl, hbw⟩
  have hr3 := hr2.below hbw
  clear p0 p1 p2 hr2
  have hS3 := hS2.below hbw
  have hb3 := Below_trans' hb2 hb2.size hbw
  clear hS2 hb2 hbw
  cases hg : greatS l with
  | true =>
    go_wp2_with fail
    refine (wakes_any _).mono ?_
    rintro e w9 ⟨rfl, hbw⟩
    go_wp2
    go_ret
    exact ⟨rfl, Below_trans' hb3 hb3.size hbw⟩
  | false =>
    clear hg
    have p0 : w3.cell? ⟨w.heap.size + 1, 0, none⟩ = some (.int .i64 c') := (hS3.2.1).cell 0
    have p1 : w3.cell? ⟨w.heap.size + 1, 1, none⟩ = some (.int .u8 k') := (hS3.2.1).cell 1
    have p2 : w3.cell? ⟨w.heap.size + 1, 2, none⟩ = some (.slice A' n' cp') := (hS3.2.1).cell 2
    go_wp2_with fail
    refine (great_any c' k' A' n' cp' l' _ (h'.below hb3)).mono ?_
    rintro e w4 ⟨rfl, hbw⟩
    have hr4 := hr3.below hbw
    clear p0 p1 p2 hr3
    have hS4 := hS3.below hbw
    have hb4 := Below_trans' hb3 hb3.size hbw
    clear hS3 hb3 hbw
    cases hg : greatS l' with
    | true =>
      go_wp2_with fail
      refine (wakes_any _).mono ?_
      rintro e w9 ⟨rfl, hbw⟩
      go_wp2
      go_ret
      exact ⟨rfl, Below_trans' hb4 hb4.size hbw⟩
    | false =>
      clear hg
      by_cases hre : re = 0
      · subst hre
        obtain ⟨h1, h2, hk, hc, hs, hr⟩ := hsp rfl
        have H1 := hide h1
        rw [← hk, ← hc] at h2
        have H2 := hide h2
        have H3 := hide hs
        injection hr with _ e1 e2 e3
        subst hk hc e1 e2 e3
        clear h1 h2 hs hsp
        have p0 : w4.cell? ⟨w.heap.size, 0, none⟩ = some (.int .i64 rc) := (hS4.2.2.1).cell 0
        have p1 : w4.cell? ⟨w.heap.size, 1, none⟩ = some (.int .u8 rk) := (hS4.2.2.1).cell 1
        have p2 : w4.cell? ⟨w.heap.size, 2, none⟩ = some (.slice A n cp) := (hS4.2.2.1).cell 2
        go_wp2_with fail
        refine (rcheck_any _ _ A n cp l _ (h.below hb4)).mono ?_
        rintro e w5 ⟨rfl, hbw⟩
        rw [H1.out]
        have hr5 := hr4.below hbw
        clear p0 p1 p2 hr4
        have hS5 := hS4.below hbw
        have hb5 := Below_trans' hb4 hb4.size hbw
        clear hS4 hb4 hbw
        have p0 : w5.cell? ⟨w.heap.size + 1, 0, none⟩ = some (.int .i64 rc) := (hS5.2.1).cell 0
        have p1 : w5.cell? ⟨w.heap.size + 1, 1, none⟩ = some (.int .u8 rk) := (hS5.2.1).cell 1
        have p2 : w5.cell? ⟨w.heap.size + 1, 2, none⟩ = some (.slice A' n' cp') := (hS5.2.1).cell 2
        go_wp2_with fail
        refine (rcheck_any _ _ A' n' cp' l' _ (h'.below hb5)).mono ?_
        rintro e w6 ⟨rfl, hbw⟩
        rw [H2.out]
        have hr6 := hr5.below hbw
        clear p0 p1 p2 hr5
        have hS6 := hS5.below hbw
        have hb6 := Below_trans' hb5 hb5.size hbw
        clear hS5 hb5 hbw
        have p0 : w6.cell? ⟨w.heap.size, 0, none⟩ = some (.int .i64 rc) := (hS6.2.2.1).cell 0
        have p1 : w6.cell? ⟨w.heap.size, 1, none⟩ = some (.int .u8 rk) := (hS6.2.2.1).cell 1
        have p2 : w6.cell? ⟨w.heap.size, 2, none⟩ = some (.slice A n cp) := (hS6.2.2.1).cell 2
        go_wp2_with fail
        refine (pof_any _ _ A n cp l _ (h.below hb6)).mono ?_
        rintro e w7 ⟨R1, rfl, hM1, hbw⟩
        rw [H1.out]
        have hr7 := hr6.below hbw
        clear p0 p1 p2 hr6
        have hS7 := hS6.below hbw
        have hb7 := Below_trans' hb6 hb6.size hbw
        clear hS6 hb6 hbw
        go_upto_region 7 with (refine stMat rfl rfl rfl rfl (Has.new _ _ _) zeroMat.size hM1.size hM1.one ?_)
        have hS8 := hS7.newRow 27 Try.zeroCells27 R1
        have hb8 := below_newRow hb7 hb7.size (.cells Try.zeroCells27 27) R1
        have hr8 := hr7.below (below_setRow ((Below.refl _ _).alloc (Nat.le_refl _) (.cells Try.zeroCells27 27)) (Nat.le_refl _) R1)
        clear hS7 hb7 hr7
        generalize hW : World.setRow _ _ _ = W8 at hS8 hb8 hr8
        try rw [hW]
        clear hW
        have p0 : W8.cell? ⟨w.heap.size + 1, 0, none⟩ = some (.int .i64 rc) := (hS8.2.2.1).cell 0
        have p1 : W8.cell? ⟨w.heap.size + 1, 1, none⟩ = some (.int .u8 rk) := (hS8.2.2.1).cell 1
        have p2 : W8.cell? ⟨w.heap.size + 1, 2, none⟩ = some (.slice A' n' cp') := (hS8.2.2.1).cell 2
        go_wp2_with fail
        refine (pof_any _ _ A' n' cp' l' _ (h'.below hb8)).mono ?_
        rintro e w9 ⟨R2, rfl, hM2, hbw⟩
        rw [H2.out]
        have hr9 := hr8.below hbw
        clear p0 p1 p2 hr8
        have hS9 := hS8.below hbw
        have hb9 := Below_trans' hb8 hb8.size hbw
        clear hS8 hb8 hbw
        go_upto_region 8 with (refine stMat rfl rfl rfl rfl (Has.new _ _ _) zeroMat.size hM2.size hM2.one ?_)
        have hS10 := hS9.newRow 27 Try.zeroCells27 R2
        have hb10 := below_newRow hb9 hb9.size (.cells Try.zeroCells27 27) R2
        have hr10 := hr9.below (below_setRow ((Below.refl _ _).alloc (Nat.le_refl _) (.cells Try.zeroCells27 27)) (Nat.le_refl _) R2)
        clear hS9 hb9 hr9
        generalize hW : World.setRow _ _ _ = W10 at hS10 hb10 hr10
        try rw [hW]
        clear hW
        have p0 : W10.cell? ⟨gs, 0, none⟩ = some (.int .i64 rc) := (hS10.2.2.1).cell 0
        have p1 : W10.cell? ⟨gs, 1, none⟩ = some (.int .u8 rk) := (hS10.2.2.1).cell 1
        have p2 : W10.cell? ⟨gs, 2, none⟩ = some (.slice A1 n1 c1) := (hS10.2.2.1).cell 2
        go_wp2_with fail
        refine (pof_any _ _ A1 n1 c1 _ _ hr10).mono ?_
        rintro e w11 ⟨R3, rfl, hM3, hbw⟩
        rw [H3.out]
        clear p0 p1 p2 hr10
        have hS11 := hS10.below hbw
        have hb11 := Below_trans' hb10 hb10.size hbw
        clear hS10 hb10 hbw
        go_upto_region 9 with (refine stMat rfl rfl rfl rfl (Has.new _ _ _) zeroMat.size hM3.size hM3.one ?_)
        have hS12 := hS11.newRow 27 Try.zeroCells27 R3
        have hb12 := below_newRow hb11 hb11.size (.cells Try.zeroCells27 27) R3
        clear hS11 hb11
        generalize hW : World.setRow _ _ _ = W12 at hS12 hb12
        try rw [hW]
        clear hW
        have gda := good_of hS12.2.2.1 hM1.size
        have gca := cells_eq hS12.2.2.1
        have gdb := good_of hS12.2.1 hM2.size
        have gcb := cells_eq hS12.2.1
        go_wp2_with fail
        clear gda gca gdb gcb
        refine (sum_any R1 R2 _ _ hM1 hM2 _).mono ?_
        rintro e w13 ⟨R4, rfl, hM4, hbw⟩
        rw [(sum_both H1.out H2.out H3.out).1]
        obtain rfl : R4 = R3 := hM4.unique hM3 (fun x y _ _ => (sum_both H1.out H2.out H3.out).2 x y)
        clear hM4
        have hS13 := hS12.below hbw
        have hb13 := Below_trans' hb12 hb12.size hbw
        clear hS12 hb12 hbw
        go_upto_region 10 with (refine stMat rfl rfl rfl rfl (Has.new _ _ _) zeroMat.size hM3.size hM3.one ?_)
        have hS14 := hS13.newRow 27 Try.zeroCells27 R4
        have hb14 := below_newRow hb13 hb13.size (.cells Try.zeroCells27 27) R4
        clear hS13 hb13
        generalize hW : World.setRow _ _ _ = W14 at hS14 hb14
        try rw [hW]
        clear hW
        have gda := good_of hS14.2.2.2.1 hM1.size
        have gca := cells_eq hS14.2.2.2.1
        have gdb := good_of hS14.2.2.1 hM2.size
        have gcb := cells_eq hS14.2.2.1
        go_wp2_with fail
        clear gda gca gdb gcb
        refine (sum_any R2 R1 _ _ hM2 hM1 _).mono ?_
        rintro e w15 ⟨R5, rfl, hM5, hbw⟩
        rw [(sum_other H1.out H2.out H3.out).1]
        obtain rfl : R5 = R4 := hM5.unique hM3 (fun x y _ _ => (sum_other H1.out H2.out H3.out).2 x y)
        clear hM5
        have hS15 := hS14.below hbw
        have hb15 := Below_trans' hb14 hb14.size hbw
        clear hS14 hb14 hbw
        go_upto_region 11 with (refine stMat rfl rfl rfl rfl (Has.new _ _ _) zeroMat.size hM3.size hM3.one ?_)
        have hS16 := hS15.newRow 27 Try.zeroCells27 R5
        have hb16 := below_newRow hb15 hb15.size (.cells Try.zeroCells27 27) R5
        clear hS15 hb15
        generalize hW : World.setRow _ _ _ = W16 at hS16 hb16
        try rw [hW]
        clear hW
        have he : ∀ w : World, (Op.equalIn 10000 27 (.agg R5) (.agg R5)).run Try.prog w = .ok true w := fun w => by rw [eqMat hM3 hM3 w, matEq_self]
        have hgd := eqGuardMat
        have gda := good_of hS16.1 hM3.size
        have gca := cells_eq hS16.1
        have gdb := good_of hS16.2.1 hM3.size
        have gcb := cells_eq hS16.2.1
        have gdc := good_of hS16.2.2.1 hM3.size
        have gcc := cells_eq hS16.2.2.1
        have p0 : W16.cell? ⟨gs, 0, none⟩ = some (.int .i64 rc) := hS16.2.2.2.2.2.1.cell 0
        go_wp2_with fail
        refine (right_any R5 _ hM3 rc _).mono ?_
        rintro e w17 ⟨rfl, hbw⟩
        rw [ofR_right H3.out (Int.le_refl _) (check_iff.1 H3.out).2.2.1]
        have hb17 := Below_trans' hb16 hb16.size hbw
        clear gda gca gdb gcb gdc gcc p0 he hS16 hb16 hbw
        go_wp2_with fail
        refine (wakes_any _).mono ?_
        rintro e w9 ⟨rfl, hbw⟩
        go_wp2
        go_ret
        exact ⟨rfl, Below_trans' hb17 hb17.size hbw⟩
      · have hne : (re != 0) = true := by rw [bne_iff_ne]; exact hre
        clear hre hsp
        go_wp2_with fail
        refine (wakes_any _).mono ?_
        rintro e w9 ⟨rfl, hbw⟩
        go_wp2
        go_ret
        exact ⟨rfl, Below_trans' hb4 hb4.size hbw⟩
end Go.Proofs.Ytleniljhacnikaa
