/-
  The reference of chapter 12: who beats all others, who is beaten by all; whether a set rules; the Smith set by enumerating all sets.
-/
import Derived.Test.YtkhclcdmehjfkaaGreatW12a
import Derived.Test.YtkhclcdmehjfkaaGreatSpecSt
import Derived.Test.YtkhclcdmehjfkaaGreatW11d
namespace Go.Proofs.YtkhclcdmehjfkaaGreat
open Go.RowKit Go.Proofs Go.Shelf
attribute [local go_sem] cell?_more cell?_alloc_some cell?_setCell_far frozen?_alloc_some frozen?_more
set_option maxRecDepth 100000 in
set_option maxHeartbeats 4000000 in
theorem rwinner_any (C : Array Value) (m : M) (hC : Mat C m) (c : Int) (w : World) :
    Calls Tryz.prog 45 #[.agg C, .int .i64 c] w fun e w' => e = .returned (.tuple #[.int .i64 (loneV m c).1, .bool (loneV m c).2]) ∧ Below w.heap.size w w' := by
  have hs := hC.size
  have hB0 : Has (w.alloc (.cells C 24)) w.heap.size 24 C := Has.new _ _ _
  have hb0 : Below w.heap.size w (w.alloc (.cells C 24)) := (Below.refl _ _).alloc (Nat.le_refl _) _
  cases hR : rightS m c with
  | false =>
    have hv := hide (lone_bad hR)
    have hr := rright_any C m hC c
    simp only [hR] at hr
    clear hR
    go_enter Tryz.func45, Tryz.ntmps45
    go_upto_region 2 with fail
    generalize World.alloc w _ = W0 at hB0 hb0 ⊢
    go_loopw [6] (fun i wr => i = .int .i64 0 ∧ wr = W0) (fun _ _ => 0)
    case atStart => exact ⟨rfl, rfl⟩
    case round =>
      obtain ⟨rfl, rfl⟩ := hrel
      by_cases h0 : 0 < c
      · go_wp2
        refine ldMatG rfl rfl hB0 hs ?_
        go_wp2_with fail
        refine (hr _).mono ?_
        rintro e w1 ⟨rfl, hb1⟩
        go_wp2
        go_ret2
        exact ⟨ret_pair hv.out, Below_trans' hb0 hb0.size hb1⟩
      · go_wp2
        go_ret2
        exact ⟨ret_pair hv.out, hb0⟩
  | true =>
    obtain ⟨h1, h10, hpos⟩ := rightS_iff.1 hR
    obtain ⟨N, rfl⟩ : ∃ N : Nat, c = N := ⟨c.toNat, by omega⟩
    have hr := rright_any C m hC N
    simp only [hR] at hr
    have HR := hide hR
    clear hR hpos
    go_enter Tryz.func45, Tryz.ntmps45
    go_upto_region 2 with fail
    generalize World.alloc w _ = w1 at hB0 hb0 ⊢
    have hB1 := hB0
    have hb01 := hb0
    go_loopw [6] (fun i wr => ∃ X : Nat, X ≤ N ∧ i = .int .i64 X ∧ Hid (∀ x, x < X → rowB m x N = false) ∧ Below w1.heap.size w1 wr) (fun i _ => N - (intOf i).toNat)
    case atStart => exact ⟨0, Nat.zero_le _, rfl, fun x hx => absurd hx (by omega), Below.refl _ _⟩
    case round =>
      obtain ⟨X, hX, rfl, hbad, hb⟩ := hrel
      obtain ⟨wo, rfl⟩ : ∃ wo : World, wo = wr := ⟨_, rfl⟩
      by_cases hlt : X < N
      · have hBo := hB1.below hb hB1.lt
        go_wp2
        refine ldMatG rfl rfl hBo hs ?_
        go_wp2_with fail
        refine (hr _).mono ?_
        rintro e wp ⟨rfl, hbp⟩
        have hb := Below_trans' hb hb.size hbp
        go_wp2
        go_loopw [7, 8] (fun v i wr => ∃ Y : Nat, Y ≤ N ∧ i = .int .i64 Y ∧ v = .bool (rowB m X Y) ∧ Below w1.heap.size w1 wr) (fun v i _ => N - (intOf i).toNat)
        case atStart => exact ⟨0, Nat.zero_le _, rfl, by rw [rowB_zero], hb⟩
        case round =>
          obtain ⟨Y, hY, rfl, rfl, hb2⟩ := hrel
          have hsc := hide (rowB_succ m X Y)
          generalize hq : rowB m X Y = q at hsc ⊢
          have Hq := hide hq
          clear hq
          by_cases hltY : Y < N
          · have hBr := hB1.below hb2 hB1.lt
            have x10 : X < 10 := by omega
            have y10 : Y < 10 := by omega
            have bx : (X : Int) < 10 := by omega
            have by_ : (Y : Int) < 10 := by omega
            have hcv := (hBr.cell (X * 10 + Y)).trans (hC.at_ X Y x10 y10)
            have hcu := (hBr.cell (Y * 10 + X)).trans (hC.at_ Y X y10 x10)
            have hd1 := hC.bd X Y x10 y10
            have hd2 := hC.bd Y X y10 x10
            cases q with
            | false =>
              have hnx := hide (show rowB m X (Y + 1) = false by rw [hsc.out]; rfl)
              clear hcv hcu
              go_upto_region 8 with fail
              refine wp_region_more (by kernel_rfl) (by kernel_rfl) ?_
              repeat (go_big_quiet_step (fail))
              refine wpQuiet_nil ?_
              rintro w3 ⟨qw3, hww3⟩
              have hbw3 := below_of_eq hww3
              clear hww3 qw3
              go_wp2
              go_roundw
              case rel => exact ⟨Y + 1, by omega, by go_num, (by rw [hnx.out]), Below_trans' hb2 hb2.size hbw3⟩
              case measure => simp [intOf] <;> omega
            | true =>
              by_cases hxy : X = Y
              · have f1 : ((X : Int) == (Y : Int)) = true := by simp [hxy]
                have hnx := hide (show rowB m X (Y + 1) = true by rw [hsc.out]; simp [hxy])
                clear hxy hcv hcu
                go_upto_region 8 with fail
                refine wp_region_more (by kernel_rfl) (by kernel_rfl) ?_
                repeat (go_big_quiet_step (fail))
                refine wpQuiet_nil ?_
                rintro w3 ⟨qw3, hww3⟩
                have hbw3 := below_of_eq hww3
                clear hww3 qw3
                go_wp2
                go_roundw
                case rel => exact ⟨Y + 1, by omega, by go_num, (by rw [hnx.out]), Below_trans' hb2 hb2.size hbw3⟩
                case measure => simp [intOf] <;> omega
              · have f1 : ((X : Int) == (Y : Int)) = false := by simp; omega
                have hnx := hide (show rowB m X (Y + 1) = decide (m Y X < m X Y) by rw [hsc.out]; simp [hxy])
                clear hxy
                generalize m X Y = v at hcv hnx hd1
                generalize m Y X = u at hcu hnx hd2
                go_upto_region 8 with fail
                refine wp_region_more (by kernel_rfl) (by kernel_rfl) ?_
                repeat (go_big_quiet_step (fail))
                refine wpQuiet_nil ?_
                rintro w3 ⟨qw3, hww3⟩
                have hbw3 := below_of_eq hww3
                clear hww3 qw3
                go_wp2
                go_roundw
                case rel => exact ⟨Y + 1, by omega, by go_num, (by rw [hnx.out]), Below_trans' hb2 hb2.size hbw3⟩
                case measure => simp [intOf] <;> omega
          · obtain rfl : Y = N := by omega
            have hbe := Below_trans' hb01 hb01.size hb2
            cases q with
            | true =>
              have hv := hide (lone_some HR.out hlt hbad.out Hq.out)
              go_wp2
              go_ret2
              exact ⟨ret_pair hv.out, hbe⟩
            | false =>
              go_wp2
              go_roundw
              case rel => exact ⟨X + 1, by omega, by go_num, fun x hx => by rcases Nat.lt_or_ge x X with h | h; exact hbad.out x h; rw [show x = X by omega]; exact Hq.out, hb2⟩
              case measure => simp [intOf] <;> omega
      · have hv := hide (lone_none HR.out fun y hy => hbad.out y (by omega))
        go_wp2
        go_ret2
        exact ⟨ret_pair hv.out, Below_trans' hb01 hb01.size hb⟩
set_option maxRecDepth 100000 in
set_option maxHeartbeats 2000000 in
theorem rloser_any (C : Array Value) (m : M) (hC : Mat C m) (c : Int) (w : World) :
    Calls Tryz.prog 47 #[.agg C, .int .i64 c] w fun e w' => e = .returned (.tuple #[.int .i64 (loneV (fun x y => m y x) c).1, .bool (loneV (fun x y => m y x) c).2]) ∧ Below w.heap.size w w' := by
  have hs := hC.size
  have hB0 : Has (w.alloc (.cells C 24)) w.heap.size 24 C := Has.new _ _ _
  have hb0 : Below w.heap.size w (w.alloc (.cells C 24)) := (Below.refl _ _).alloc (Nat.le_refl _) _
  go_enter Tryz.func47, Tryz.ntmps47
  go_wp2_with (refine ldMat rfl rfl rfl hB0 hs ?_)
  refine (rturn_any C m hC _).mono ?_
  rintro e w1 ⟨D, rfl, hD, hb1⟩
  go_wp2_with fail
  refine (rwinner_any D _ hD c _).mono ?_
  rintro e w2 ⟨rfl, hb2⟩
  go_wp2
  go_ret2
  have hb01 := Below_trans' hb0 hb0.size hb1
  exact ⟨rfl, Below_trans' hb01 hb01.size hb2⟩

def okR (m : M) (S : List Int) (x y : Nat) : Bool := !inL S x || inL S y || decide (m y x < m x y)
theorem rulesB_no {m : M} {C : Nat} {S : List Int} {x y : Nat} (hx : x < C) (hy : y < C) (h : okR m S x y = false) : rulesB m C S = false := by
  rw [← Bool.not_eq_true]
  intro e
  have h1 := List.all_eq_true.1 e x (List.mem_range.2 hx)
  have h2 := List.all_eq_true.1 h1 y (List.mem_range.2 hy)
  unfold okR at h
  rw [h2] at h; cases h
theorem rulesB_yes {m : M} {C : Nat} {S : List Int} (h : ∀ x, x < C → ∀ y, y < C → okR m S x y = true) : rulesB m C S = true :=
  List.all_eq_true.2 fun x hx => List.all_eq_true.2 fun y hy => h x (List.mem_range.1 hx) y (List.mem_range.1 hy)
set_option maxRecDepth 100000 in
set_option maxHeartbeats 4000000 in
theorem rrules_any (Cs : Array Value) (m : M) (hC : Mat Cs m) (C : Nat) (hC10 : C ≤ 10) (As : Option Addr) (ns cs : Nat) (S : List Int) (w : World) (hS : RInts w As ns cs S) :
    Calls Tryz.prog 93 #[.agg Cs, .int .i64 C, .slice As ns cs] w fun e w' => e = .returned (.bool (rulesB m C S)) ∧ Below w.heap.size w w' := by
  have hs := hC.size
  have hB0 : Has (w.alloc (.cells Cs 24)) w.heap.size 24 Cs := Has.new _ _ _
  have hb0 : Below w.heap.size w (w.alloc (.cells Cs 24)) := (Below.refl _ _).alloc (Nat.le_refl _) _
  have hS1 := hS.below hb0
  go_enter Tryz.func93, Tryz.ntmps93
  go_upto_region 2 with fail
  generalize World.alloc w _ = w1 at hB0 hb0 hS1 ⊢
  go_loopw [7] (fun i wr => ∃ X : Nat, X ≤ C ∧ i = .int .i64 X ∧ Hid (∀ x, x < X → ∀ y, y < C → okR m S x y = true) ∧ Below w1.heap.size w1 wr) (fun i _ => C - (intOf i).toNat)
  case atStart => exact ⟨0, Nat.zero_le _, rfl, fun x hx => absurd hx (by omega), Below.refl _ _⟩
  case round =>
    obtain ⟨X, hX, rfl, hall, hb⟩ := hrel
    obtain ⟨wo, rfl⟩ : ∃ wo : World, wo = wr := ⟨_, rfl⟩
    by_cases hlt : X < C
    · go_wp2
      go_loopw [8] (fun i wr => ∃ Y : Nat, Y ≤ C ∧ i = .int .i64 Y ∧ Hid (∀ y, y < Y → okR m S X y = true) ∧ Below w1.heap.size w1 wr) (fun i _ => C - (intOf i).toNat)
      case atStart => exact ⟨0, Nat.zero_le _, rfl, fun y hy => absurd hy (by omega), hb⟩
      case round =>
        obtain ⟨Y, hY, rfl, hrow, hb2⟩ := hrel
        by_cases hltY : Y < C
        · have hBr := hB0.below hb2 hB0.lt
          have hSr := hS1.below hb2
          have x10 : X < 10 := by omega
          have y10 : Y < 10 := by omega
          have bx : (X : Int) < 10 := by omega
          have by_ : (Y : Int) < 10 := by omega
          have hcv := (hBr.cell (X * 10 + Y)).trans (hC.at_ X Y x10 y10)
          have hcu := (hBr.cell (Y * 10 + X)).trans (hC.at_ Y X y10 x10)
          have hd1 := hC.bd X Y x10 y10
          have hd2 := hC.bd Y X y10 x10
          have hI1 : ∀ q, Calls Tryz.prog 35 #[.slice As ns cs, .int .i64 (X : Int)] (More wr q) fun e w' => e = .returned (.bool (inL S X)) ∧ More wr q = w' := fun q => in_any As ns cs S X _ (hSr.more _)
          have hI2 : ∀ q, Calls Tryz.prog 35 #[.slice As ns cs, .int .i64 (Y : Int)] (More wr q) fun e w' => e = .returned (.bool (inL S Y)) ∧ More wr q = w' := fun q => in_any As ns cs S Y _ (hSr.more _)
          have hok : Hid (okR m S X Y = (!inL S X || inL S Y || decide (m Y X < m X Y))) := rfl
          have hno := hide (fun h => rulesB_no (m := m) (S := S) hlt hltY h)
          cases hx : inL S X with
          | false =>
            have hyes := hide (show okR m S X Y = true by rw [hok.out, hx]; rfl)
            rw [hx] at hI1
            clear hx hok hno hI2 hcv hcu
            go_upto_region 7 with fail
            refine wp_region_more (by kernel_rfl) (by kernel_rfl) ?_
            repeat (go_big_quiet_step ((go_at_call 35; with_reducible exact more_same (hI1 _))))
            refine wpQuiet_nil ?_
            rintro w3 ⟨qw3, hww3⟩
            have hbw3 := below_of_eq hww3
            clear hww3 qw3
            go_wp2
            go_roundw
            case rel => exact ⟨Y + 1, by omega, by go_num, fun y hy => by rcases Nat.lt_or_ge y Y with h | h; exact hrow.out y h; rw [show y = Y by omega]; exact hyes.out, Below_trans' hb2 hb2.size hbw3⟩
            case measure => simp [intOf] <;> omega
          | true =>
            rw [hx] at hI1
            cases hy : inL S Y with
            | true =>
              have hyes := hide (show okR m S X Y = true by rw [hok.out, hx, hy]; rfl)
              rw [hy] at hI2
              clear hx hy hok hno hcv hcu
              go_upto_region 7 with fail
              refine wp_region_more (by kernel_rfl) (by kernel_rfl) ?_
              repeat (go_big_quiet_step ((go_at_call 35; first | with_reducible exact more_same (hI1 _) | with_reducible exact more_same (hI2 _))))
              refine wpQuiet_nil ?_
              rintro w3 ⟨qw3, hww3⟩
              have hbw3 := below_of_eq hww3
              clear hww3 qw3
              go_wp2
              go_roundw
              case rel => exact ⟨Y + 1, by omega, by go_num, fun y hy => by rcases Nat.lt_or_ge y Y with h | h; exact hrow.out y h; rw [show y = Y by omega]; exact hyes.out, Below_trans' hb2 hb2.size hbw3⟩
              case measure => simp [intOf] <;> omega
            | false =>
              rw [hy] at hI2
              by_cases hv : m Y X < m X Y
              · have hyes := hide (show okR m S X Y = true by rw [hok.out]; simp [hv])
                have hle : ¬ m X Y ≤ m Y X := by omega
                clear hx hy hok hno hv
                generalize m X Y = v at hcv hle hd1
                generalize m Y X = u at hcu hle hd2
                go_upto_region 7 with fail
                refine wp_region_more (by kernel_rfl) (by kernel_rfl) ?_
                repeat (go_big_quiet_step ((go_at_call 35; first | with_reducible exact more_same (hI1 _) | with_reducible exact more_same (hI2 _))))
                refine wpQuiet_nil ?_
                rintro w3 ⟨qw3, hww3⟩
                have hbw3 := below_of_eq hww3
                clear hww3 qw3
                go_wp2
                go_roundw
                case rel => exact ⟨Y + 1, by omega, by go_num, fun y hy => by rcases Nat.lt_or_ge y Y with h | h; exact hrow.out y h; rw [show y = Y by omega]; exact hyes.out, Below_trans' hb2 hb2.size hbw3⟩
                case measure => simp [intOf] <;> omega
              · have hr := hide (hno.out (by rw [hok.out, hx, hy]; simp [hv]))
                have hle : m X Y ≤ m Y X := by omega
                clear hx hy hok hno hv
                generalize m X Y = v at hcv hle hd1
                generalize m Y X = u at hcu hle hd2
                go_upto_region 7 with fail
                refine wp_region_more (by kernel_rfl) (by kernel_rfl) ?_
                repeat (go_big_quiet_step ((go_at_call 35; first | with_reducible exact more_same (hI1 _) | with_reducible exact more_same (hI2 _))))
                refine wpQuiet_nil ?_
                rintro w3 ⟨qw3, hww3⟩
                have hbw3 := below_of_eq hww3
                clear hww3 qw3
                have hbe := Below_trans' hb2 hb2.size hbw3
                go_wp2
                go_ret
                exact ⟨ret_b hr.out.symm, Below_trans' hb0 hb0.size hbe⟩
        · obtain rfl : Y = C := by omega
          go_wp2
          go_roundw
          case rel => exact ⟨X + 1, by omega, by go_num, fun x hx => by rcases Nat.lt_or_ge x X with h | h; exact hall.out x h; rw [show x = X by omega]; exact hrow.out, hb2⟩
          case measure => simp [intOf] <;> omega
    · have hr := hide (rulesB_yes (m := m) (S := S) fun x hx => hall.out x (by omega))
      go_wp2
      go_ret
      exact ⟨ret_b hr.out.symm, Below_trans' hb0 hb0.size hb⟩
end Go.Proofs.YtkhclcdmehjfkaaGreat
