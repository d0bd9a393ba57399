/-
  The reference's matrices: Right.
-/
import Derived.Test.YtleniljhacnikaaW10b
namespace Go.Proofs.Ytleniljhacnikaa
open Go.RowKit Go.Proofs
attribute [local go_sem] cell?_more cell?_alloc_some cell?_setCell_far frozen?_alloc_some frozen?_more

set_option maxRecDepth 100000 in
set_option maxHeartbeats 4000000 in
theorem rright_any (C : Array Value) (m : M) (hC : Mat C m) (c : Int) (w : World) :
    Calls Try.prog 26 #[.agg C, .int .i64 c] w fun e w' => e = .returned (.bool (rightS m c)) ∧ Below w.heap.size w w' := by
  have hs := hC.size
  by_cases c1 : c < 1
  · have hr : Hid (rightS m c = false) := by unfold Hid; rw [← Bool.not_eq_true, rightS_iff]; omega
    go_enter Try.func26, Try.ntmps26
    go_wp2
    go_ret
    exact ⟨ret_b (by rw [hr.out]), (Below.refl _ _).alloc (Nat.le_refl _) _⟩
  by_cases c2 : 10 < c
  · have hr : Hid (rightS m c = false) := by unfold Hid; rw [← Bool.not_eq_true, rightS_iff]; omega
    go_enter Try.func26, Try.ntmps26
    go_wp2
    go_ret
    exact ⟨ret_b (by rw [hr.out]), (Below.refl _ _).alloc (Nat.le_refl _) _⟩
  have hB0 : Has (w.alloc (.cells C 27)) w.heap.size 27 C := Has.new _ _ _
  have hb0 : Below w.heap.size w (w.alloc (.cells C 27)) := (Below.refl _ _).alloc (Nat.le_refl _) _
  go_enter Try.func26, Try.ntmps26
  go_wp2
  go_loopw [5] (fun i wr => ∃ X : Nat, X ≤ 10 ∧ i = .int .i64 X ∧ Has wr w.heap.size 27 C ∧ Hid (∀ a b, a < 10 → b < 10 → bef X 0 a b → entP m c a b) ∧ Below w.heap.size w wr) (fun i _ => 10 - (intOf i).toNat)
  case atStart => exact ⟨0, by omega, rfl, hB0, fun a b _ _ hh => by unfold bef at hh; omega, hb0⟩
  case round =>
    obtain ⟨X, hX, rfl, hB, hpos, hb⟩ := hrel
    obtain ⟨wo, rfl⟩ : ∃ wo : World, wo = wr := ⟨_, rfl⟩
    by_cases hlt : X < 10
    · have b1 : (X : Int) < 10 := by omega
      go_wp2
      go_loopw [6] (fun i wr => ∃ Y : Nat, Y ≤ 10 ∧ i = .int .i64 Y ∧ Has wr w.heap.size 27 C ∧ Hid (∀ a b, a < 10 → b < 10 → bef X Y a b → entP m c a b) ∧ Below w.heap.size w wr) (fun i _ => 10 - (intOf i).toNat)
      case atStart => exact ⟨0, by omega, rfl, hB, hpos, hb⟩
      case round =>
        obtain ⟨Y, hY, rfl, hB, hpos', hb⟩ := hrel
        by_cases hltY : Y < 10
        · have b2 : (Y : Int) < 10 := by omega
          have hcu := (hB.cell (X * 10 + Y)).trans (hC.at_ X Y hlt hltY)
          have hbad := hide (@rightS_ent m c X Y hlt hltY)
          have hpd := hide (show entP m c X Y ↔ (0 ≤ m X Y ∧ m X Y ≤ 1000000 ∧ (m X Y ≠ 0 → ¬ (X = Y ∨ c ≤ (X : Int) ∨ c ≤ (Y : Int)))) from Iff.rfl)
          generalize hv : m X Y = v at hcu
          have Hv := hide hv
          clear hv
          have hne : (v < 0 ∨ 1000000 < v ∨ (0 < v ∧ v ≤ 1000000 ∧ X = Y) ∨ (0 < v ∧ v ≤ 1000000 ∧ X ≠ Y ∧ c ≤ (X : Int)) ∨ (0 < v ∧ v ≤ 1000000 ∧ X ≠ Y ∧ (X : Int) < c ∧ c ≤ (Y : Int))) ∨
              (v = 0 ∨ (0 < v ∧ v ≤ 1000000 ∧ X ≠ Y ∧ (X : Int) < c ∧ (Y : Int) < c)) := by omega
          rcases hne with hne | hne
          · have hr : Hid (rightS m c = false) := hbad.out (by rw [hpd.out, Hv.out]; omega)
            rcases hne with k1 | k1 | ⟨k1, k2, k3⟩ | ⟨k1, k2, k3, k4⟩ | ⟨k1, k2, k3, k4, k5⟩
            · go_wp2
              go_ret
              exact ⟨ret_b (by rw [hr.out]), hb⟩
            · go_wp2
              go_ret
              exact ⟨ret_b (by rw [hr.out]), hb⟩
            · have g1 : (v != 0) = true := by rw [bne_iff_ne]; omega
              have g2 : ((X : Int) == (Y : Int)) = true := by rw [beq_iff_eq]; omega
              clear k3
              go_wp2
              go_ret
              exact ⟨ret_b (by rw [hr.out]), hb⟩
            · have g1 : (v != 0) = true := by rw [bne_iff_ne]; omega
              have g2 : ((X : Int) == (Y : Int)) = false := by rw [beq_eq_false_iff_ne]; omega
              go_wp2
              go_ret
              exact ⟨ret_b (by rw [hr.out]), hb⟩
            · have g1 : (v != 0) = true := by rw [bne_iff_ne]; omega
              have g2 : ((X : Int) == (Y : Int)) = false := by rw [beq_eq_false_iff_ne]; omega
              go_wp2
              go_ret
              exact ⟨ret_b (by rw [hr.out]), hb⟩
          · have hpp : Hid (entP m c X Y) := by unfold Hid; rw [hpd.out, Hv.out]; omega
            rcases hne with rfl | ⟨k1, k2, k3, k4, k5⟩
            · go_wp2
              go_roundw
              case rel =>
                exact ⟨Y + 1, by omega, by go_num, hB, fun a b ha hb2 hh => by
                  by_cases e : a = X ∧ b = Y
                  · obtain ⟨rfl, rfl⟩ := e; exact hpp.out
                  · exact hpos'.out a b ha hb2 (by unfold bef at *; omega), hb⟩
              case measure => simp [intOf] <;> omega
            · have g1 : (v != 0) = true := by rw [bne_iff_ne]; omega
              have g2 : ((X : Int) == (Y : Int)) = false := by rw [beq_eq_false_iff_ne]; omega
              go_wp2
              go_roundw
              case rel =>
                exact ⟨Y + 1, by omega, by go_num, hB, fun a b ha hb2 hh => by
                  by_cases e : a = X ∧ b = Y
                  · obtain ⟨rfl, rfl⟩ := e; exact hpp.out
                  · exact hpos'.out a b ha hb2 (by unfold bef at *; omega), hb⟩
              case measure => simp [intOf] <;> omega
        · obtain rfl : Y = 10 := by omega
          go_wp2
          go_roundw
          case rel => exact ⟨X + 1, by omega, by go_num, hB, fun a b ha hb2 hh => hpos'.out a b ha hb2 (by unfold bef at *; omega), hb⟩
          case measure => simp [intOf] <;> omega
    · have hX10 : X = 10 := by omega
      have hent : Hid (∀ a b, a < 10 → b < 10 → entP m c a b) := fun a b ha hb2 => hpos.out a b ha hb2 (by unfold bef; omega)
      have b0 : ¬ (X : Int) < 10 := by omega
      clear hX10 hlt hX hpos
      go_wp2
      go_loopw [8] (fun i wr => ∃ X : Nat, (X : Int) ≤ c ∧ i = .int .i64 X ∧ Has wr w.heap.size 27 C ∧ Hid (∀ a b : Nat, a < X → (b : Int) < c → m a b + m b a ≤ 1000000) ∧ Below w.heap.size w wr) (fun i _ => 10 - (intOf i).toNat)
      case atStart => exact ⟨0, by omega, rfl, hB, fun a b ha _ => absurd ha (by omega), hb⟩
      case round =>
        obtain ⟨X, hX, rfl, hB, htwo, hb⟩ := hrel
        obtain ⟨wo, rfl⟩ : ∃ wo : World, wo = wr := ⟨_, rfl⟩
        by_cases hlt : (X : Int) < c
        · have b1 : (X : Int) < 10 := by omega
          go_wp2
          go_loopw [9] (fun i wr => ∃ Y : Nat, (Y : Int) ≤ c ∧ i = .int .i64 Y ∧ Has wr w.heap.size 27 C ∧ Hid (∀ b : Nat, b < Y → m X b + m b X ≤ 1000000) ∧ Below w.heap.size w wr) (fun i _ => 10 - (intOf i).toNat)
          case atStart => exact ⟨0, by omega, rfl, hB, fun b hb2 => absurd hb2 (by omega), hb⟩
          case round =>
            obtain ⟨Y, hY, rfl, hB, hone, hb⟩ := hrel
            by_cases hltY : (Y : Int) < c
            · have b2 : (Y : Int) < 10 := by omega
              have b3 : (0 : Int) ≤ (X : Int) := by omega
              have b4 : (0 : Int) ≤ (Y : Int) := by omega
              have hcv := (hB.cell (X * 10 + Y)).trans (hC.at_ X Y (by omega) (by omega))
              have hcu := (hB.cell (Y * 10 + X)).trans (hC.at_ Y X (by omega) (by omega))
              have hbad := hide (@rightS_two m c X Y (by omega) (by omega))
              have hx1 := hent.out X Y (by omega) (by omega)
              have hx2 := hent.out Y X (by omega) (by omega)
              have v0 := hx1.1
              have v1 := hx1.2.1
              have u0 := hx2.1
              have u1 := hx2.2.1
              clear hx1 hx2
              generalize hv : m X Y = v at hcv v0 v1
              generalize hu : m Y X = u at hcu u0 u1
              have Hv := hide hv
              have Hu := hide hu
              clear hv hu
              have e1 : IntKind.i64.wrap (v + u) = v + u := IntWalk.i64_in _ (by omega)
              by_cases hbig : 1000000 < v + u
              · have hr : Hid (rightS m c = false) := hbad.out (by rw [Hv.out, Hu.out]; exact hbig)
                go_wp2
                refine wp_region_more (by kernel_rfl) (by kernel_rfl) ?_
                repeat (go_big_quiet_step (fail))
                refine wpQuiet_nil ?_
                rintro w1 ⟨qw1, hww1⟩
                have hbw1 := below_of_eq hww1
                clear hww1 qw1
                go_wp2
                go_ret
                exact ⟨ret_b (by rw [hr.out]), Below_trans' hb hb.size hbw1⟩
              · go_wp2
                refine wp_region_more (by kernel_rfl) (by kernel_rfl) ?_
                repeat (go_big_quiet_step (fail))
                refine wpQuiet_nil ?_
                rintro w1 ⟨qw1, hww1⟩
                have hbw1 := below_of_eq hww1
                clear hww1 qw1
                clear e1
                go_wp2
                go_roundw
                case rel =>
                  exact ⟨Y + 1, by omega, by go_num, hB.below hbw1 hB.lt, fun b hb2 => by
                    by_cases e : b = Y
                    · subst e; rw [Hv.out, Hu.out]; omega
                    · exact hone.out b (by omega), Below_trans' hb hb.size hbw1⟩
                case measure => simp [intOf] <;> omega
            · go_wp2
              go_roundw
              case rel => exact ⟨X + 1, by omega, by go_num, hB, fun a b ha hb2 => by
                by_cases e : a = X
                · subst e; exact hone.out b (by omega)
                · exact htwo.out a b (by omega) hb2, hb⟩
              case measure => simp [intOf] <;> omega
        · have hr : Hid (rightS m c = true) := rightS_ref (by omega) (by omega) hent.out (fun a b ha hb2 => htwo.out a b (by omega) hb2)
          go_wp2
          go_ret
          exact ⟨ret_b (by rw [hr.out]), hb⟩
end Go.Proofs.Ytleniljhacnikaa
