/-
  Sum in the reference.
-/
import Derived.Test.YtleniljhacnikaaW10f
namespace Go.Proofs.Ytleniljhacnikaa
open Go.RowKit Go.Proofs
attribute [local go_sem] cell?_more cell?_alloc_some cell?_setCell_far frozen?_alloc_some frozen?_more

set_option maxRecDepth 100000 in
set_option maxHeartbeats 4000000 in
theorem rsum_any (C D : Array Value) (a b : M) (hC : Mat C a) (hD : Mat D b) (w : World) :
    Calls Try.prog 19 #[.agg C, .agg D] w fun e w' => ∃ R, e = .returned (.tuple #[.agg R, .int .i64 (sumErr a b)]) ∧ Mat R (sumM a b) ∧ Below w.heap.size w w' := by
  have hsC := hC.size
  have hsD := hD.size
  have hA0 : Has (((w.alloc (.cells C 27)).alloc (.cells D 27)).alloc (.cells Try.zeroCells27 27)) w.heap.size 27 C := ((Has.new _ _ _).alloc _).alloc _
  have hB0 : Has (((w.alloc (.cells C 27)).alloc (.cells D 27)).alloc (.cells Try.zeroCells27 27)) (w.heap.size + 1) 27 D := (Has.new2 _ _ _ _).alloc _
  have hZ0 : Has (((w.alloc (.cells C 27)).alloc (.cells D 27)).alloc (.cells Try.zeroCells27 27)) (w.heap.size + 2) 27 Try.zeroCells27 := Has.new3 _ _ _ _ _
  have hb0 : Below w.heap.size w (((w.alloc (.cells C 27)).alloc (.cells D 27)).alloc (.cells Try.zeroCells27 27)) :=
    (((Below.refl _ _).alloc (Nat.le_refl _) _).alloc (by simp) _).alloc (by simp; omega) _
  cases e1 : rightS a 10 with
  | false =>
    have hr : Hid (sumErr a b = 8 ∧ sumM a b = fun _ _ => 0) := by
      have : sumErr a b = 8 := by unfold sumErr; rw [if_neg (by simp [e1])]
      exact ⟨this, by unfold sumM; rw [if_neg (by omega)]⟩
    go_enter Try.func19, Try.ntmps19
    go_wp2_with (refine ldMat rfl rfl rfl hA0 hsC ?_)
    refine (rright_any C a hC _ _).mono ?_
    rintro e w1 ⟨rfl, hbw1⟩
    have hA1 := hA0.below hbw1 hA0.lt
    have hB1 := hB0.below hbw1 hB0.lt
    have hZ1 := hZ0.below hbw1 hZ0.lt
    have hb1 := Below_trans' hb0 hb0.size hbw1
    clear hbw1 hA0 hB0 hZ0 hb0
    go_wp2_with (first | (refine bdMat rfl rfl ?_) | (refine stMat rfl rfl rfl rfl hZ1 zeroMat.size zeroMat.size zeroMat.one ?_))
    refine retMat2 rfl rfl rfl (hZ1.setRow _) zeroMat.size rfl ⟨_, by rw [hr.out.1]; rfl, by rw [hr.out.2]; exact zeroMat, below_setRow hb1 (by omega) _⟩
  | true =>
    cases e2 : rightS b 10 with
    | false =>
      have hr : Hid (sumErr a b = 8 ∧ sumM a b = fun _ _ => 0) := by
        have : sumErr a b = 8 := by unfold sumErr; rw [if_neg (by simp [e2])]
        exact ⟨this, by unfold sumM; rw [if_neg (by omega)]⟩
      go_enter Try.func19, Try.ntmps19
      go_wp2_with (refine ldMat rfl rfl rfl hA0 hsC ?_)
      refine (rright_any C a hC _ _).mono ?_
      rintro e w1 ⟨rfl, hbw1⟩
      have hA1 := hA0.below hbw1 hA0.lt
      have hB1 := hB0.below hbw1 hB0.lt
      have hZ1 := hZ0.below hbw1 hZ0.lt
      have hb1 := Below_trans' hb0 hb0.size hbw1
      clear hbw1 hA0 hB0 hZ0 hb0
      go_wp2
      refine ldMatG rfl rfl hB1 hsD ?_
      go_wp2_with fail
      refine (rright_any D b hD _ _).mono ?_
      rintro e w2 ⟨rfl, hbw2⟩
      have hA2 := hA1.below hbw2 hA1.lt
      have hB2 := hB1.below hbw2 hB1.lt
      have hZ2 := hZ1.below hbw2 hZ1.lt
      have hb2 := Below_trans' hb1 hb1.size hbw2
      clear hbw2 hA1 hB1 hZ1 hb1
      go_wp2_with (first | (refine bdMat rfl rfl ?_) | (refine stMat rfl rfl rfl rfl hZ2 zeroMat.size zeroMat.size zeroMat.one ?_))
      refine retMat2 rfl rfl rfl (hZ2.setRow _) zeroMat.size rfl ⟨_, by rw [hr.out.1]; rfl, by rw [hr.out.2]; exact zeroMat, below_setRow hb2 (by omega) _⟩
    | true =>
      go_enter Try.func19, Try.ntmps19
      go_wp2_with (refine ldMat rfl rfl rfl hA0 hsC ?_)
      refine (rright_any C a hC _ _).mono ?_
      rintro e w1 ⟨rfl, hbw1⟩
      have hA1 := hA0.below hbw1 hA0.lt
      have hB1 := hB0.below hbw1 hB0.lt
      have hZ1 := hZ0.below hbw1 hZ0.lt
      have hb1 := Below_trans' hb0 hb0.size hbw1
      clear hbw1 hA0 hB0 hZ0 hb0
      go_wp2
      refine ldMatG rfl rfl hB1 hsD ?_
      go_wp2_with fail
      refine (rright_any D b hD _ _).mono ?_
      rintro e w2 ⟨rfl, hbw2⟩
      have hA2 := hA1.below hbw2 hA1.lt
      have hB2 := hB1.below hbw2 hB1.lt
      have hZ2 := hZ1.below hbw2 hZ1.lt
      have hb2 := Below_trans' hb1 hb1.size hbw2
      clear hbw2 hA1 hB1 hZ1 hb1
      go_wp2
      have hN2 := Has.new w2 27 Try.zeroCells27
      have hA3 := hA2.alloc (.cells Try.zeroCells27 27)
      have hB3 := hB2.alloc (.cells Try.zeroCells27 27)
      have hZ3 := hZ2.alloc (.cells Try.zeroCells27 27)
      have hb3 := hb2.alloc hb2.size (.cells Try.zeroCells27 27)
      have hlt2 := hZ2.lt
      have H1 := hide e1
      have H2 := hide e2
      clear e1 e2
      go_loopw [7] (fun i wr => ∃ (X : Nat) (R : Array Value), X ≤ 10 ∧ i = .int .i64 X ∧ Has wr w2.heap.size 27 R ∧ Mat R (upFrom (fun _ _ => 0) (sumA a b) X 0) ∧ Has wr w.heap.size 27 C ∧ Has wr (w.heap.size + 1) 27 D ∧ Has wr (w.heap.size + 2) 27 Try.zeroCells27 ∧ Below w.heap.size w wr) (fun i _ => 10 - (intOf i).toNat)
      case atStart => exact ⟨0, _, by omega, rfl, hN2, zeroMat.congr (fun x y _ _ => upFrom_zero (fun _ _ => 0) (sumA a b) x y), hA3, hB3, hZ3, hb3⟩
      case round =>
        obtain ⟨X, R, hX, rfl, hN, hM, hA, hB, hZ, hb⟩ := hrel
        obtain ⟨wo, rfl⟩ : ∃ wo : World, wo = wr := ⟨_, rfl⟩
        by_cases hlt : X < 10
        · have b1 : (X : Int) < 10 := by omega
          go_wp2
          go_loopw [8] (fun i wr => ∃ (Y : Nat) (R : Array Value), Y ≤ 10 ∧ i = .int .i64 Y ∧ Has wr w2.heap.size 27 R ∧ Mat R (upFrom (fun _ _ => 0) (sumA a b) X Y) ∧ Has wr w.heap.size 27 C ∧ Has wr (w.heap.size + 1) 27 D ∧ Has wr (w.heap.size + 2) 27 Try.zeroCells27 ∧ Below w.heap.size w wr) (fun i _ => 10 - (intOf i).toNat)
          case atStart => exact ⟨0, R, by omega, rfl, hN, hM, hA, hB, hZ, hb⟩
          case round =>
            obtain ⟨Y, R', hY, rfl, hN', hM', hA', hB', hZ', hb'⟩ := hrel
            by_cases hltY : Y < 10
            · have b2 : (Y : Int) < 10 := by omega
              have hcell := ((hA'.drew).cell (X * 10 + Y)).trans (hC.at_ X Y hlt hltY)
              have hcold := ((hN'.drew).cell (X * 10 + Y)).trans (hM'.at_ X Y hlt hltY)
              rw [upFrom_here] at hcold
              have hcb := ((hB'.drew).cell (X * 10 + Y)).trans (hD.at_ X Y hlt hltY)
              have hfr := hN'.drew.free (X * 10 + Y)
              have h1 := rightS_ten H1.out hlt hltY
              have h2 := rightS_ten H2.out hlt hltY
              have hput := hide (hM'.put hlt hltY (v := sumA a b X Y) (by unfold I64 sumA; omega))
              have hsd := hide (show sumA a b X Y = a X Y + b X Y from rfl)
              generalize hv : a X Y = v at hcell h1 hsd
              generalize hu : b X Y = u at hcb h2 hsd
              clear hv hu
              have v0 := h1.1
              have v1 := h1.2
              have u0 := h2.1
              have u1 := h2.2
              clear h1 h2
              have e4 : IntKind.i64.wrap (v + u) = v + u := IntWalk.i64_in _ (by omega)
              go_wp2
              refine wp_region_still_tail 15 (by kernel_rfl) (by kernel_rfl) ?_
              simp only [List.take_succ_cons, List.take_zero, List.drop_succ_cons, List.drop_zero]
              change wpStill _ _ (World.drew _) _ _ _
              repeat still_step
              refine wpStill_nil ?_
              go_wp2
              go_roundw
              case rel =>
                refine ⟨Y + 1, _, by omega, by go_num, hN'.drew.put _ _, ?_, hA'.drew.far (by show w.heap.size ≠ w2.heap.size; omega) _, hB'.drew.far (by show w.heap.size + 1 ≠ w2.heap.size; omega) _, hZ'.drew.far (by show w.heap.size + 2 ≠ w2.heap.size; omega) _, (below_drewN hb' 1).setCell (by show w.heap.size ≤ w2.heap.size; omega) _⟩
                rw [← hsd.out]
                exact hput.out.congr (fun x y _ _ => upFrom_put x y)
              case measure => simp [intOf] <;> omega
            · have hY10 := hide (show Y = 10 by omega)
              have b2 : ¬ (Y : Int) < 10 := by omega
              clear hltY hY
              go_wp2
              go_roundw
              case rel =>
                exact ⟨X + 1, R', by omega, by go_num, hN', hM'.congr (fun x y _ hy => by rw [hY10.out]; exact upFrom_row x y hy), hA', hB', hZ', hb'⟩
              case measure => simp [intOf] <;> omega
        · have hX10 := hide (show X = 10 by omega)
          have b2 : ¬ (X : Int) < 10 := by omega
          clear hlt hX
          have hM2 : Mat R (sumA a b) := hM.congr (fun x y hx _ => by rw [hX10.out, upFrom_all x y hx])
          have hsR := hM.size
          cases e3 : rightS (sumA a b) 10 with
          | true =>
            have hr : Hid (sumErr a b = 0 ∧ sumM a b = sumA a b) := by
              have : sumErr a b = 0 := by unfold sumErr; rw [if_pos ⟨H1.out, H2.out⟩, if_pos e3]
              exact ⟨this, by unfold sumM; rw [if_pos this]⟩
            go_wp2_with (refine ldMat rfl rfl rfl hN hsR ?_)
            refine (rright_any R _ hM2 _ _).mono ?_
            rintro e w3 ⟨rfl, hbw3⟩
            have hN3 := hN.below hbw3 hN.lt
            have hZ3 := hZ.below hbw3 hZ.lt
            have hb4 := Below_trans' hb hb.size hbw3
            clear hbw3 hN hZ hb
            go_wp2_with (first | (refine ldMat rfl rfl rfl hN3 hsR ?_) | (refine stMat rfl rfl rfl rfl hZ3 zeroMat.size hsR hM2.one ?_))
            refine retMat2 rfl rfl rfl (hZ3.setRow _) hsR rfl ⟨_, by rw [hr.out.1]; rfl, by rw [hr.out.2]; exact hM2, below_setRow hb4 (by omega) _⟩
          | false =>
            have hr : Hid (sumErr a b = 4 ∧ sumM a b = fun _ _ => 0) := by
              have : sumErr a b = 4 := by unfold sumErr; rw [if_pos ⟨H1.out, H2.out⟩, if_neg (by simp [e3])]
              exact ⟨this, by unfold sumM; rw [if_neg (by omega)]⟩
            go_wp2_with (refine ldMat rfl rfl rfl hN hsR ?_)
            refine (rright_any R _ hM2 _ _).mono ?_
            rintro e w3 ⟨rfl, hbw3⟩
            have hN3 := hN.below hbw3 hN.lt
            have hZ3 := hZ.below hbw3 hZ.lt
            have hb4 := Below_trans' hb hb.size hbw3
            clear hbw3 hN hZ hb
            go_wp2_with (first | (refine bdMat rfl rfl ?_) | (refine stMat rfl rfl rfl rfl hZ3 zeroMat.size zeroMat.size zeroMat.one ?_))
            refine retMat2 rfl rfl rfl (hZ3.setRow _) zeroMat.size rfl ⟨_, by rw [hr.out.1]; rfl, by rw [hr.out.2]; exact zeroMat, below_setRow hb4 (by omega) _⟩
end Go.Proofs.Ytleniljhacnikaa
