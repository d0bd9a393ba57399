/-
  The layer condorcet: who beats all others; who is beaten by all.
-/
import Derived.Test.YtolbceckbnifmaaGreatW10a
import Derived.WalkMore
namespace Go.Proofs.YtolbceckbnifmaaGreat
open Go.RowKit Go.Proofs
attribute [local go_sem] cell?_more cell?_alloc_some cell?_setCell_far frozen?_alloc_some frozen?_more
/-- x beats all others before Y. -/
def rowW (m : M) (x Y : Nat) : Bool := (List.range Y).all fun y => decide (x = y) || decide (m y x < m x y)
/-- Who beats all others. -/
def aloneS (m : M) (C : Nat) : Option Nat := (List.range C).find? fun x => rowW m x C
/-- What alone answers. -/
def loneV (m : M) (c : Int) : Int × Bool := if rightS m c = true then (match aloneS m c.toNat with | some x => ((x : Int), true) | none => (0, false)) else (0, false)
theorem rowW_zero (m : M) (x : Nat) : rowW m x 0 = true := rfl
theorem rowW_succ (m : M) (x Y : Nat) : rowW m x (Y + 1) = (rowW m x Y && (decide (x = Y) || decide (m Y x < m x Y))) := by
  unfold rowW; rw [List.range_succ, List.all_append]; simp
theorem rowW_no {m : M} {x Y C : Nat} (hY : Y < C) (hne : x ≠ Y) (h : ¬ m Y x < m x Y) : rowW m x C = false := by
  rw [← Bool.not_eq_true]
  intro e
  have := List.all_eq_true.1 e Y (List.mem_range.2 hY)
  simp [hne, h] at this
theorem lone_bad {m : M} {c : Int} (h : rightS m c = false) : loneV m c = (0, false) := by unfold loneV; rw [if_neg (by simp [h])]
theorem lone_some {m : M} {C x : Nat} (h : rightS m (C : Int) = true) (hx : x < C) (h0 : ∀ y, y < x → rowW m y C = false) (h1 : rowW m x C = true) : loneV m (C : Int) = ((x : Int), true) := by
  have : aloneS m C = some x := List.find?_range_eq_some.2 ⟨h1, List.mem_range.2 hx, fun y hy => by rw [h0 y hy]; rfl⟩
  unfold loneV
  rw [if_pos h, Int.toNat_natCast, this]
theorem lone_none {m : M} {C : Nat} (h : rightS m (C : Int) = true) (h0 : ∀ y, y < C → rowW m y C = false) : loneV m (C : Int) = (0, false) := by
  have : aloneS m C = none := List.find?_eq_none.2 fun y hy => by rw [h0 y (List.mem_range.1 hy)]; simp
  unfold loneV
  rw [if_pos h, Int.toNat_natCast, this]
theorem lone_true {m : M} {c x : Int} (h : loneV m c = (x, true)) : rightS m c = true ∧ ∃ X : Nat, x = X ∧ (X : Int) < c ∧ ∀ y : Nat, (y : Int) < c → y ≠ X → m y X < m X y := by
  unfold loneV at h
  split at h
  · rename_i hr
    refine ⟨hr, ?_⟩
    cases ha : aloneS m c.toNat with
    | none => rw [ha] at h; simp at h
    | some X =>
      rw [ha] at h
      obtain ⟨h1, h2, _⟩ := List.find?_range_eq_some.1 ha
      have h2 := List.mem_range.1 h2
      refine ⟨X, by have := congrArg Prod.fst h; exact this.symm, by omega, fun y hy hne => ?_⟩
      have := List.all_eq_true.1 h1 y (List.mem_range.2 (by omega))
      simp [Ne.symm hne] at this
      exact this
  · simp at h
theorem ret_pair {a : Int} {p : Bool} {v : Int × Bool} (h : v = (a, p)) : Ending.returned (.tuple #[.int .i64 a, .bool p]) = .returned (.tuple #[.int .i64 v.1, .bool v.2]) := by rw [h]

set_option maxRecDepth 100000 in
set_option maxHeartbeats 4000000 in
theorem alone_any (C : Array Value) (m : M) (hC : Mat C m) (c : Int) (w : World) :
    Calls Tryz.prog 71 #[.agg C, .int .i64 c] w fun e w' => e = .returned (.tuple #[.int .i64 (loneV m c).1, .bool (loneV m c).2]) ∧ Below w.heap.size w w' := by
  have hs := hC.size
  have hB0 : Has (w.alloc (.cells C 24)) w.heap.size 24 C := Has.new _ _ _
  have hb0 : Below w.heap.size w (w.alloc (.cells C 24)) := (Below.refl _ _).alloc (Nat.le_refl _) _
  cases hR : rightS m c with
  | false =>
    have hv := hide (lone_bad hR)
    have hr := right_any C m hC c
    simp only [hR] at hr
    have HR := hide hR
    clear hR
    go_enter Tryz.func71, Tryz.ntmps71
    go_wp2
    go_step3
    go_wp2_with (refine ldMat rfl rfl rfl hB0 hs ?_)
    refine (hr _).mono ?_
    rintro e w1 ⟨rfl, hb1⟩
    go_wp2
    rw [Exit.noGoto_ret]
    go_ret2
    exact ⟨ret_pair hv.out, Below_trans' hb0 hb0.size hb1⟩
  | true =>
    obtain ⟨h1, h10, hpos⟩ := rightS_iff.1 hR
    obtain ⟨N, rfl⟩ : ∃ N : Nat, c = N := ⟨c.toNat, by omega⟩
    have hr := right_any C m hC N
    simp only [hR] at hr
    have HR := hide hR
    have Hpos := hide hpos
    clear hR hpos
    go_enter Tryz.func71, Tryz.ntmps71
    go_wp2
    go_step3
    go_wp2_with (refine ldMat rfl rfl rfl hB0 hs ?_)
    refine (hr _).mono ?_
    rintro e w1 ⟨rfl, hb1⟩
    clear hr
    have hB1 := hB0.below hb1 hB0.lt
    have hb01 := Below_trans' hb0 hb0.size hb1
    go_wp2
    go_step3
    go_wp2
    go_loopw [13] (fun i wr => ∃ X : Nat, X ≤ N ∧ i = .int .i64 X ∧ Hid (∀ x, x < X → rowW m x N = false) ∧ Below w1.heap.size w1 wr) (fun i _ => N - (intOf i).toNat)
    case atStart => exact ⟨0, Nat.zero_le _, rfl, fun x hx => absurd hx (by omega), Below.refl _ _⟩
    case round =>
      obtain ⟨X, hX, rfl, hbad, hb⟩ := hrel
      obtain ⟨wo, rfl⟩ : ∃ wo : World, wo = wr := ⟨_, rfl⟩
      by_cases hlt : X < N
      · go_wp2
        go_loopw [17] (fun i wr => ∃ Y : Nat, Y ≤ N ∧ i = .int .i64 Y ∧ Hid (rowW m X Y = true) ∧ Below w1.heap.size w1 wr) (fun i _ => N - (intOf i).toNat)
        case atStart => exact ⟨0, Nat.zero_le _, rfl, rowW_zero _ _, hb⟩
        case round =>
          obtain ⟨Y, hY, rfl, hrow, hb2⟩ := hrel
          by_cases hltY : Y < N
          · have hBr := hB1.below hb2 hB1.lt
            have x10 : X < 10 := by omega
            have y10 : Y < 10 := by omega
            have bx : (X : Int) < 10 := by omega
            have by_ : (Y : Int) < 10 := by omega
            have hcv := (hBr.cell (X * 10 + Y)).trans (hC.at_ X Y x10 y10)
            have hcu := (hBr.cell (Y * 10 + X)).trans (hC.at_ Y X y10 x10)
            have hd1 := hC.bd X Y x10 y10
            have hd2 := hC.bd Y X y10 x10
            by_cases hxy : X = Y
            · have f1 : ((X : Int) != (Y : Int)) = false := by simp [hxy]
              have hnx := hide (show rowW m X (Y + 1) = true by rw [rowW_succ, hrow.out]; simp [hxy])
              clear hxy
              go_upto_region 9 with fail
              refine wp_region_more (by kernel_rfl) (by kernel_rfl) ?_
              repeat (go_big_quiet_step (fail))
              refine wpQuiet_nil ?_
              rintro w3 ⟨qw3, hww3⟩
              have hbw3 := below_of_eq hww3
              clear hww3 qw3
              go_wp2
              go_roundw
              case rel => exact ⟨Y + 1, by omega, by go_num, hnx, Below_trans' hb2 hb2.size hbw3⟩
              case measure => simp [intOf] <;> omega
            · have f1 : ((X : Int) != (Y : Int)) = true := by simp; omega
              by_cases hv : m Y X < m X Y
              · have hnx := hide (show rowW m X (Y + 1) = true by rw [rowW_succ, hrow.out]; simp [hv])
                have hle : ¬ m X Y ≤ m Y X := by omega
                clear hxy hv
                generalize m X Y = v at hcv hle hd1
                generalize m Y X = u at hcu hle hd2
                go_upto_region 9 with fail
                refine wp_region_more (by kernel_rfl) (by kernel_rfl) ?_
                repeat (go_big_quiet_step (fail))
                refine wpQuiet_nil ?_
                rintro w3 ⟨qw3, hww3⟩
                have hbw3 := below_of_eq hww3
                clear hww3 qw3
                go_wp2
                go_roundw
                case rel => exact ⟨Y + 1, by omega, by go_num, hnx, Below_trans' hb2 hb2.size hbw3⟩
                case measure => simp [intOf] <;> omega
              · have hno := hide (rowW_no hltY hxy hv)
                have hle : m X Y ≤ m Y X := by omega
                clear hxy hv
                generalize m X Y = v at hcv hle hd1
                generalize m Y X = u at hcu hle hd2
                go_upto_region 9 with fail
                refine wp_region_more (by kernel_rfl) (by kernel_rfl) ?_
                repeat (go_big_quiet_step (fail))
                refine wpQuiet_nil ?_
                rintro w3 ⟨qw3, hww3⟩
                have hbw3 := below_of_eq hww3
                clear hww3 qw3
                go_wp2
                go_roundw
                case rel => exact ⟨X + 1, by omega, by go_num, fun x hx => by rcases Nat.lt_or_ge x X with h | h; exact hbad.out x h; rw [show x = X by omega]; exact hno.out, Below_trans' hb2 hb2.size hbw3⟩
                case measure => simp [intOf] <;> omega
          · have hv := hide (lone_some HR.out hlt hbad.out (by rw [← hrow.out]; congr 1; omega))
            go_wp2
            rw [Exit.noGoto_ret]
            go_ret2
            exact ⟨ret_pair hv.out, Below_trans' hb01 hb01.size hb2⟩
      · have hv := hide (lone_none HR.out fun y hy => hbad.out y (by omega))
        go_wp2
        rw [Exit.noGoto_ret]
        go_ret2
        exact ⟨ret_pair hv.out, Below_trans' hb01 hb01.size hb⟩
theorem winner_any (C : Array Value) (m : M) (hC : Mat C m) (c : Int) (w : World) :
    Calls Tryz.prog 30 #[.agg C, .int .i64 c] w fun e w' => e = .returned (.tuple #[.int .i64 (loneV m c).1, .bool (loneV m c).2]) ∧ Below w.heap.size w w' := by
  have hs := hC.size
  have hB0 : Has (w.alloc (.cells C 24)) w.heap.size 24 C := Has.new _ _ _
  have hb0 : Below w.heap.size w (w.alloc (.cells C 24)) := (Below.refl _ _).alloc (Nat.le_refl _) _
  go_enter Tryz.func30, Tryz.ntmps30
  go_wp2_with (refine ldMat rfl rfl rfl hB0 hs ?_)
  refine (alone_any C m hC c _).mono ?_
  rintro e w1 ⟨rfl, hb1⟩
  go_wp2
  go_ret2
  exact ⟨rfl, Below_trans' hb0 hb0.size hb1⟩
end Go.Proofs.YtolbceckbnifmaaGreat
