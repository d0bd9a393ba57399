/-
  The reference's Margin; Beats; Sum.
-/
import Derived.Test.YtleniljhacnikaaW10d
import Derived.Test.YtleniljhacnikaaSpecA
namespace Go.Proofs.Ytleniljhacnikaa
open Go.RowKit Go.Proofs
attribute [local go_sem] cell?_more cell?_alloc_some cell?_setCell_far frozen?_alloc_some frozen?_more

set_option maxRecDepth 100000 in
set_option maxHeartbeats 2000000 in
theorem rmargin_any (C : Array Value) (m : M) (hC : Mat C m) (x y : Int) (w : World) :
    Calls Try.prog 28 #[.agg C, .int .i64 x, .int .i64 y] w fun e w' => e = .returned (.int .i64 (marginS m x y)) ∧ Below w.heap.size w w' := by
  have hs := hC.size
  have hB0 : Has (w.alloc (.cells C 27)) w.heap.size 27 C := Has.new _ _ _
  have hb0 : Below w.heap.size w (w.alloc (.cells C 27)) := (Below.refl _ _).alloc (Nat.le_refl _) _
  have ix : inR 0 10 x = true ↔ 0 ≤ x ∧ x < 10 := inR_iff
  have iy : inR 0 10 y = true ↔ 0 ≤ y ∧ y < 10 := inR_iff
  have hc : x < 0 ∨ (0 ≤ x ∧ y < 0) ∨ (0 ≤ x ∧ 0 ≤ y ∧ 10 ≤ x) ∨ (0 ≤ x ∧ 0 ≤ y ∧ x < 10 ∧ 10 ≤ y) ∨ (0 ≤ x ∧ 0 ≤ y ∧ x < 10 ∧ y < 10) := by omega
  rcases hc with k1 | ⟨k1, k2⟩ | ⟨k1, k2, k3⟩ | ⟨k1, k2, k3, k4⟩ | ⟨b3, b4, b1, b2⟩
  · have hr : Hid (marginS m x y = 0) := by unfold Hid marginS; rw [if_neg (by rw [ix]; omega)]
    clear ix iy
    go_enter Try.func28, Try.ntmps28
    go_wp2
    go_ret
    exact ⟨ret_i (by rw [hr.out]), hb0⟩
  · have hr : Hid (marginS m x y = 0) := by unfold Hid marginS; rw [if_neg (by rw [ix, iy]; omega)]
    clear ix iy
    go_enter Try.func28, Try.ntmps28
    go_wp2
    go_ret
    exact ⟨ret_i (by rw [hr.out]), hb0⟩
  · have hr : Hid (marginS m x y = 0) := by unfold Hid marginS; rw [if_neg (by rw [ix, iy]; omega)]
    clear ix iy
    go_enter Try.func28, Try.ntmps28
    go_wp2
    go_ret
    exact ⟨ret_i (by rw [hr.out]), hb0⟩
  · have hr : Hid (marginS m x y = 0) := by unfold Hid marginS; rw [if_neg (by rw [ix, iy]; omega)]
    clear ix iy
    go_enter Try.func28, Try.ntmps28
    go_wp2
    go_ret
    exact ⟨ret_i (by rw [hr.out]), hb0⟩
  · have e1 := ix.2 ⟨b3, b1⟩
    have e2 := iy.2 ⟨b4, b2⟩
    clear ix iy
    cases e3 : rightS m 10 with
    | false =>
      have hr : Hid (marginS m x y = 0) := by unfold Hid marginS; rw [if_neg (by simp [e3])]
      clear e1 e2
      have g1 : decide (x < 0) = false := by rw [decide_eq_false_iff_not]; omega
      have g2 : decide (y < 0) = false := by rw [decide_eq_false_iff_not]; omega
      have g3 : decide (10 ≤ x) = false := by rw [decide_eq_false_iff_not]; omega
      have g4 : decide (10 ≤ y) = false := by rw [decide_eq_false_iff_not]; omega
      go_enter Try.func28, Try.ntmps28
      go_wp2
      refine ldMatG rfl rfl hB0 hs ?_
      go_wp2_with fail
      refine (rright_any C m hC _ _).mono ?_
      rintro e w1 ⟨rfl, hb⟩
      go_wp2
      go_ret
      exact ⟨ret_i (by rw [hr.out]), Below_trans' hb0 hb0.size hb⟩
    | true =>
      have hr : Hid (marginS m x y = m x.toNat y.toNat - m y.toNat x.toNat) := by unfold Hid marginS; rw [if_pos ⟨e1, e2, e3⟩]
      clear e1 e2
      obtain ⟨X, rfl⟩ : ∃ X : Nat, x = X := ⟨x.toNat, by omega⟩
      obtain ⟨Y, rfl⟩ : ∃ Y : Nat, y = Y := ⟨y.toNat, by omega⟩
      have x1 : X < 10 := by omega
      have y1 : Y < 10 := by omega
      have hx1 := rightS_ten e3 x1 y1
      have hx2 := rightS_ten e3 y1 x1
      have v0 := hx1.1
      have v1 := hx1.2
      have u0 := hx2.1
      have u1 := hx2.2
      have e5 := hide (hC.at_ X Y x1 y1)
      have e6 := hide (hC.at_ Y X y1 x1)
      simp only [Int.toNat_natCast] at hr
      clear hx1 hx2
      generalize hv : m X Y = v at e5 v0 v1 hr
      generalize hu : m Y X = u at e6 u0 u1 hr
      clear hv hu
      have e4 : IntKind.i64.wrap (v - u) = v - u := IntWalk.i64_in _ (by omega)
      have g1 : decide ((X : Int) < 0) = false := by rw [decide_eq_false_iff_not]; omega
      have g2 : decide ((Y : Int) < 0) = false := by rw [decide_eq_false_iff_not]; omega
      have g3 : decide (10 ≤ (X : Int)) = false := by rw [decide_eq_false_iff_not]; omega
      have g4 : decide (10 ≤ (Y : Int)) = false := by rw [decide_eq_false_iff_not]; omega
      go_enter Try.func28, Try.ntmps28
      go_wp2
      refine ldMatG rfl rfl hB0 hs ?_
      go_wp2_with fail
      refine (rright_any C m hC _ _).mono ?_
      rintro e w1 ⟨rfl, hb⟩
      go_wp2
      have hB1 := hB0.below hb hB0.lt
      have hcv := (hB1.cell (X * 10 + Y)).trans e5.out
      have hcu := (hB1.cell (Y * 10 + X)).trans e6.out
      refine wp_region_more (by kernel_rfl) (by kernel_rfl) ?_
      repeat (go_big_quiet_step (fail))
      refine wpQuiet_nil ?_
      rintro w2 ⟨qw2, hww2⟩
      have hbw2 := below_of_eq hww2
      clear hww2 qw2
      go_wp2
      go_ret
      exact ⟨ret_i (by rw [hr.out]), Below_trans' hb0 hb0.size (Below_trans' hb hb.size hbw2)⟩

set_option maxRecDepth 100000 in
set_option maxHeartbeats 2000000 in
theorem beats_any (C : Array Value) (m : M) (hC : Mat C m) (x y : Int) (w : World) :
    Calls Try.prog 29 #[.agg C, .int .i64 x, .int .i64 y] w fun e w' => e = .returned (.bool (decide (0 < marginS m x y))) ∧ Below w.heap.size w w' := by
  have hs := hC.size
  have hB0 : Has (w.alloc (.cells C 27)) w.heap.size 27 C := Has.new _ _ _
  have hb0 : Below w.heap.size w (w.alloc (.cells C 27)) := (Below.refl _ _).alloc (Nat.le_refl _) _
  go_enter Try.func29, Try.ntmps29
  go_wp2_with (refine ldMat rfl rfl rfl hB0 hs ?_)
  refine (margin_any C m hC x y _).mono ?_
  rintro e w1 ⟨rfl, hb⟩
  go_wp2
  go_ret
  exact ⟨ret_b rfl, Below_trans' hb0 hb0.size hb⟩
end Go.Proofs.Ytleniljhacnikaa
