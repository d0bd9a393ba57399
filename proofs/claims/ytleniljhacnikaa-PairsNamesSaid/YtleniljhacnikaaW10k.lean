/-
  Wins, in the reference.
-/
import Derived.Test.YtleniljhacnikaaW10j
namespace Go.Proofs.Ytleniljhacnikaa
open Go.RowKit Go.Proofs
attribute [local go_sem] cell?_more cell?_alloc_some cell?_setCell_far frozen?_alloc_some frozen?_more

set_option maxRecDepth 100000 in
set_option maxHeartbeats 4000000 in
theorem rwins_any (C : Array Value) (m : M) (hC : Mat C m) (c : Int) (w : World) :
    Calls Try.prog 23 #[.agg C, .int .i64 c] w (WinsPost w m c) := by
  have hsC := hC.size
  have hA0 : Has (w.alloc (.cells C 27)) w.heap.size 27 C := Has.new _ _ _
  have hb0 : Below w.heap.size w (w.alloc (.cells C 27)) := (Below.refl _ _).alloc (Nat.le_refl _) _
  by_cases c1 : c < 1
  · have hr : Hid (winErr m c = 2 ∧ winM m c = []) := by
      have : winErr m c = 2 := by unfold winErr; rw [if_neg (by omega)]
      exact ⟨this, by unfold winM; rw [if_neg (by omega)]⟩
    go_enter Try.func23, Try.ntmps23
    go_wp2
    go_ret2
    exact ⟨none, 0, 0, by rw [hr.out.1]; rfl, by rw [hr.out.2]; exact RInts.nil_ _, hb0⟩
  by_cases c2 : 10 < c
  · have hr : Hid (winErr m c = 2 ∧ winM m c = []) := by
      have : winErr m c = 2 := by unfold winErr; rw [if_neg (by omega)]
      exact ⟨this, by unfold winM; rw [if_neg (by omega)]⟩
    go_enter Try.func23, Try.ntmps23
    go_wp2
    go_ret2
    exact ⟨none, 0, 0, by rw [hr.out.1]; rfl, by rw [hr.out.2]; exact RInts.nil_ _, hb0⟩
  obtain ⟨n, rfl⟩ : ∃ n : Nat, c = n := ⟨c.toNat, by omega⟩
  cases e1 : rightS m n with
  | false =>
    have hr : Hid (winErr m n = 8 ∧ winM m n = []) := by
      have : winErr m n = 8 := by unfold winErr; rw [if_pos (by omega), if_neg (by simp [e1])]
      exact ⟨this, by unfold winM; rw [if_neg (by omega)]⟩
    go_enter Try.func23, Try.ntmps23
    go_wp2_with (refine ldMat rfl rfl rfl hA0 hsC ?_)
    refine (rright_any C m hC _ _).mono ?_
    rintro e w1 ⟨rfl, hbw1⟩
    have hA1 := hA0.below hbw1 hA0.lt
    have hb1 := Below_trans' hb0 hb0.size hbw1
    clear hbw1 hA0 hb0
    go_wp2
    go_ret2
    exact ⟨none, 0, 0, by rw [hr.out.1]; rfl, by rw [hr.out.2]; exact RInts.nil_ _, hb1⟩
  | true =>
    have hr : Hid (winErr m n = 0 ∧ winM m n = winsL m n) := by
      have : winErr m n = 0 := by unfold winErr; rw [if_pos (by omega), if_pos e1]
      exact ⟨this, by unfold winM; rw [if_pos this, Int.toNat_natCast]⟩
    go_enter Try.func23, Try.ntmps23
    go_wp2_with (refine ldMat rfl rfl rfl hA0 hsC ?_)
    refine (rright_any C m hC _ _).mono ?_
    rintro e w1 ⟨rfl, hbw1⟩
    have hA1 := hA0.below hbw1 hA0.lt
    have hb1 := Below_trans' hb0 hb0.size hbw1
    clear hbw1 hA0 hb0
    go_wp2
    clear e1
    have hz1 := hA1.lt
    go_loopw [6, 7] (fun v i wr => ∃ (X : Nat) (A : Option Addr) (cp : Nat), X ≤ n ∧ v = .slice A X cp ∧ i = .int .i64 X ∧ Has wr w.heap.size 27 C ∧ Own wr (w.heap.size + 1) (.slice A X cp) ((List.range X).map fun x => (cntS m x n : Int)) ∧ Below w.heap.size w wr) (fun _ i _ => n - (intOf i).toNat)
    case atStart => exact ⟨0, none, 0, by omega, rfl, rfl, hA1, Own.nil_ _ _, hb1⟩
    case round =>
      obtain ⟨X, A, cp, hX, rfl, rfl, hA, hO, hb⟩ := hrel
      obtain ⟨wo, rfl⟩ : ∃ wo : World, wo = wr := ⟨_, rfl⟩
      by_cases hlt : X < n
      · have b1 : (X : Int) < 10 := by omega
        have hX10 : X < 10 := by omega
        have b3 : (0 : Int) ≤ (X : Int) := by omega
        go_wp2
        go_loopw [8, 9] (fun u i wr => ∃ Y : Nat, Y ≤ n ∧ u = .int .i64 (cntS m X Y) ∧ i = .int .i64 Y ∧ Has wr w.heap.size 27 C ∧ Own wr (w.heap.size + 1) (.slice A X cp) ((List.range X).map fun x => (cntS m x n : Int)) ∧ Below w.heap.size w wr) (fun _ i _ => n - (intOf i).toNat)
        case atStart => exact ⟨0, by omega, rfl, rfl, hA, hO, hb⟩
        case round =>
          obtain ⟨Y, hY, rfl, rfl, hA', hO', hb'⟩ := hrel
          by_cases hltY : Y < n
          · have b2 : (Y : Int) < 10 := by omega
            have b4 : (0 : Int) ≤ (Y : Int) := by omega
            have hcv := (hA'.cell (X * 10 + Y)).trans (hC.at_ X Y hX10 (by omega))
            have hcu := (hA'.cell (Y * 10 + X)).trans (hC.at_ Y X (by omega) hX10)
            have hcnt := cntS_le m X Y
            have hyes := hide (@cntS_yes m X Y)
            have hno := hide (@cntS_no m X Y)
            generalize hk : cntS m X Y = k at hcnt
            have Hk := hide hk
            clear hk
            by_cases hgt : m Y X < m X Y
            · go_wp2
              refine wp_region_more (by kernel_rfl) (by kernel_rfl) ?_
              repeat (go_big_quiet_step (fail))
              refine wpQuiet_nil ?_
              rintro w1 ⟨qw1, hww1⟩
              have hbw1 := below_of_eq hww1
              clear hww1 qw1
              go_wp2
              go_roundw
              case rel =>
                exact ⟨Y + 1, by omega, by rw [hyes.out hgt, Hk.out]; go_num, by go_num, hA'.below hbw1 hA'.lt, hO'.below hbw1, Below_trans' hb' hb'.size hbw1⟩
              case measure => simp [intOf] <;> omega
            · go_wp2
              refine wp_region_more (by kernel_rfl) (by kernel_rfl) ?_
              repeat (go_big_quiet_step (fail))
              refine wpQuiet_nil ?_
              rintro w1 ⟨qw1, hww1⟩
              have hbw1 := below_of_eq hww1
              clear hww1 qw1
              go_wp2
              go_roundw
              case rel =>
                exact ⟨Y + 1, by omega, by rw [hno.out hgt, Hk.out], by go_num, hA'.below hbw1 hA'.lt, hO'.below hbw1, Below_trans' hb' hb'.size hbw1⟩
              case measure => simp [intOf] <;> omega
          · obtain rfl : Y = n := by omega
            have hz' := hA'.lt
            go_wp2_with (at_builtin; refine appInt rfl rfl rfl (hO'.below ((Below.refl _ _).alloc (Nat.le_refl _) _)) rfl ((Has.new _ _ _).cell 0) (by simp; omega) (by simp; omega) ?_)
            have hA2 := hA'.alloc (.cells #[.int .i64 (cntS m X Y : Int)] 3)
            have hO2 := hO'.below ((Below.refl _ _).alloc (Nat.le_refl _) (.cells #[.int .i64 (cntS m X Y : Int)] 3))
            have hb2 := hb'.alloc hb'.size (.cells #[.int .i64 (cntS m X Y : Int)] 3)
            intro v' w3 hO3 hg3
            have hA3 := grown_has hO2 hg3 hA2 (by omega)
            have hb3 := hb2.grown hg3 hb2.size (fun k hk => by have := hO2.lt k hk; omega)
            rw [show ((List.range X).map fun x => (cntS m x Y : Int)) ++ [(cntS m X Y : Int)] = (List.range (X + 1)).map fun x => (cntS m x Y : Int) from by simp [List.range_succ]] at hO3
            obtain ⟨A3, c3, hv3⟩ := hO3.slice
            simp only [List.length_map, List.length_range] at hv3
            subst hv3
            clear hA2 hO2 hb2 hg3 hO' hA' hb' hA hO hb
            go_wp2
            go_roundw
            case rel => exact ⟨X + 1, A3, c3, by omega, rfl, by go_num, hA3, hO3, hb3⟩
            case measure => simp [intOf] <;> omega
      · obtain rfl : X = n := by omega
        go_wp2
        go_ret2
        refine ⟨A, X, cp, by rw [hr.out.1]; rfl, ?_, hb⟩
        rw [hr.out.2]
        exact hO.ints (fun x hx => by obtain ⟨i, hi, rfl⟩ := List.mem_map.1 hx; have := cntS_le m i X; omega)
end Go.Proofs.Ytleniljhacnikaa
