/-
  The reference's Turn; Margin, twice; Beats.
-/
import Derived.Test.YtleniljhacnikaaW10c
namespace Go.Proofs.Ytleniljhacnikaa
open Go.RowKit Go.Proofs
attribute [local go_sem] cell?_more cell?_alloc_some cell?_setCell_far frozen?_alloc_some frozen?_more

/-- A matrix g as it is being made, row by row: 0 from (X, Y) on. -/
def upTo (g : M) (X Y : Nat) : M := fun a b => if a < X ∨ (a = X ∧ b < Y) then g a b else 0

theorem upTo_zero (g : M) (a b : Nat) : 0 = upTo g 0 0 a b := by unfold upTo; rw [if_neg (by omega)]
theorem upTo_put {g : M} {X Y : Nat} (a b : Nat) : (if a = X ∧ b = Y then g X Y else upTo g X Y a b) = upTo g X (Y + 1) a b := by
  unfold upTo
  by_cases e : a = X ∧ b = Y
  · obtain ⟨rfl, rfl⟩ := e; rw [if_pos ⟨rfl, rfl⟩, if_pos (by omega)]
  · rw [if_neg e]
    by_cases e2 : a < X ∨ (a = X ∧ b < Y)
    · rw [if_pos e2, if_pos (by omega)]
    · rw [if_neg e2, if_neg (by omega)]
theorem upTo_row {g : M} {X : Nat} (a b : Nat) (hb : b < 10) : upTo g X 10 a b = upTo g (X + 1) 0 a b := by
  unfold upTo
  by_cases e2 : a < X ∨ (a = X ∧ b < 10)
  · rw [if_pos e2, if_pos (by omega)]
  · rw [if_neg e2, if_neg (by omega)]
theorem upTo_all {g : M} (a b : Nat) (ha : a < 10) : upTo g 10 0 a b = g a b := by unfold upTo; rw [if_pos (by omega)]

set_option maxRecDepth 100000 in
set_option maxHeartbeats 2000000 in
theorem rturn_any (C : Array Value) (m : M) (hC : Mat C m) (w : World) :
    Calls Try.prog 31 #[.agg C] w fun e w' => ∃ D, e = .returned (.agg D) ∧ Mat D (fun x y => m y x) ∧ Below w.heap.size w w' := by
  have hs := hC.size
  go_enter Try.func31, Try.ntmps31
  go_wp2
  have hB0 : Has (((w.alloc (.cells C 27)).alloc (.cells Try.zeroCells27 27)).alloc (.cells Try.zeroCells27 27)) w.heap.size 27 C := ((Has.new _ _ _).alloc _).alloc _
  have hR0 : Has (((w.alloc (.cells C 27)).alloc (.cells Try.zeroCells27 27)).alloc (.cells Try.zeroCells27 27)) (w.heap.size + 1) 27 Try.zeroCells27 := (Has.new2 _ _ _ _).alloc _
  have hD0 : Has (((w.alloc (.cells C 27)).alloc (.cells Try.zeroCells27 27)).alloc (.cells Try.zeroCells27 27)) (w.heap.size + 2) 27 Try.zeroCells27 := by
    have := Has.new2 (w.alloc (.cells C 27)) (.cells Try.zeroCells27 27) 27 Try.zeroCells27
    simpa using this
  have hb0 : Below w.heap.size w (((w.alloc (.cells C 27)).alloc (.cells Try.zeroCells27 27)).alloc (.cells Try.zeroCells27 27)) :=
    (((Below.refl _ _).alloc (Nat.le_refl _) _).alloc (by simp) _).alloc (by simp; omega) _
  go_loopw [4] (fun i wr => ∃ (X : Nat) (D : Array Value), X ≤ 10 ∧ i = .int .i64 X ∧ Has wr w.heap.size 27 C ∧ Has wr (w.heap.size + 1) 27 Try.zeroCells27 ∧ Has wr (w.heap.size + 2) 27 D ∧ Mat D (upTo (fun x y => m y x) X 0) ∧ Below w.heap.size w wr) (fun i _ => 10 - (intOf i).toNat)
  case atStart => exact ⟨0, _, by omega, rfl, hB0, hR0, hD0, zeroMat.congr (fun x y _ _ => upTo_zero _ x y), hb0⟩
  case round =>
    obtain ⟨X, D, hX, rfl, hB, hR, hD, hM, hb⟩ := hrel
    obtain ⟨wo, rfl⟩ : ∃ wo : World, wo = wr := ⟨_, rfl⟩
    by_cases hlt : X < 10
    · have b1 : (X : Int) < 10 := by omega
      go_wp2
      go_loopw [5] (fun i wr => ∃ (Y : Nat) (D : Array Value), Y ≤ 10 ∧ i = .int .i64 Y ∧ Has wr w.heap.size 27 C ∧ Has wr (w.heap.size + 1) 27 Try.zeroCells27 ∧ Has wr (w.heap.size + 2) 27 D ∧ Mat D (upTo (fun x y => m y x) X Y) ∧ Below w.heap.size w wr) (fun i _ => 10 - (intOf i).toNat)
      case atStart => exact ⟨0, D, by omega, rfl, hB, hR, hD, hM, hb⟩
      case round =>
        obtain ⟨Y, D', hY, rfl, hB, hR, hD', hM', hb'⟩ := hrel
        by_cases hltY : Y < 10
        · have b2 : (Y : Int) < 10 := by omega
          have hcell := ((hB.drew).cell (Y * 10 + X)).trans (hC.at_ Y X hltY hlt)
          have hcold := ((hD'.drew).cell (X * 10 + Y)).trans (hM'.at_ X Y hlt hltY)
          have hfr := hD'.drew.free (X * 10 + Y)
          go_wp2
          refine wp_region_still_tail 9 (by kernel_rfl) (by kernel_rfl) ?_
          simp only [List.take_succ_cons, List.take_zero, List.drop_succ_cons, List.drop_zero]
          change wpStill _ _ (World.drew _) _ _ _
          repeat still_step
          refine wpStill_nil ?_
          go_wp2
          go_roundw
          case rel =>
            refine ⟨Y + 1, _, by omega, by go_num, hB.drew.far (by show w.heap.size ≠ w.heap.size + 2; omega) _, hR.drew.far (by show w.heap.size + 1 ≠ w.heap.size + 2; omega) _, hD'.drew.put _ _, (hM'.put hlt hltY (hC.bd Y X hltY hlt)).congr (fun a b _ _ => upTo_put (g := fun x y => m y x) a b), (below_drewN hb' 1).setCell (by show w.heap.size ≤ w.heap.size + 2; omega) _⟩
          case measure => simp [intOf] <;> omega
        · have hY10 := hide (show Y = 10 by omega)
          have b2 : ¬ (Y : Int) < 10 := by omega
          clear hltY hY
          go_wp2
          go_roundw
          case rel =>
            exact ⟨X + 1, D', by omega, by go_num, hB, hR, hD', hM'.congr (fun a b _ hb2 => by rw [hY10.out]; exact upTo_row a b hb2), hb'⟩
          case measure => simp [intOf] <;> omega
    · have hX10 := hide (show X = 10 by omega)
      have b2 : ¬ (X : Int) < 10 := by omega
      clear hlt hX
      go_wp2_with (first | (refine ldMat rfl rfl rfl hD hM.size ?_) | (refine stMat rfl rfl rfl rfl hR zeroMat.size hM.size hM.one ?_))
      refine retMat rfl rfl (hR.setRow D) hM.size rfl ⟨D, rfl, hM.congr (fun a b ha hb2 => by rw [hX10.out, upTo_all a b ha]), below_setRow hb (by omega) _⟩

/-- A whole matrix is read, by an operation with a guard. -/
theorem ldMatG {o : Oper} {a : Act} {w : World} {K : Act → World → Prop} {Q : Exit → Act → World → Prop} {x : Operand} (ho : o.op = .load 27 x) {g : Nat} (hx : a.eval x = .pointer (some ⟨g, 0, none⟩)) {C : Array Value} (hg : Has w g 27 C) (hs : C.size = 100)
    (h : K (a.put o.dst (.agg C)) w) : o.wp Try.prog a w K Q :=
  wp_load_row 27 x ho g hx _ C (0, 0) _ hg Try.underlying27 rfl (infoMat.trans (by rw [hs])) h

set_option maxRecDepth 100000 in
set_option maxHeartbeats 2000000 in
theorem margin_any (C : Array Value) (m : M) (hC : Mat C m) (x y : Int) (w : World) :
    Calls Try.prog 27 #[.agg C, .int .i64 x, .int .i64 y] w fun e w' => e = .returned (.int .i64 (marginS m x y)) ∧ Below w.heap.size w w' := by
  have hs := hC.size
  have hB0 : Has (w.alloc (.cells C 27)) w.heap.size 27 C := Has.new _ _ _
  have hb0 : Below w.heap.size w (w.alloc (.cells C 27)) := (Below.refl _ _).alloc (Nat.le_refl _) _
  cases e1 : inR 0 10 x with
  | false =>
    have hr : Hid (marginS m x y = 0) := by unfold Hid marginS; rw [if_neg (by simp [e1])]
    go_enter Try.func27, Try.ntmps27
    go_wp2_with (go_at_call 65; refine (within10 _ _ _).mono ?_; rintro e w' ⟨rfl, rfl⟩)
    go_ret
    exact ⟨ret_i (by rw [hr.out]), hb0⟩
  | true =>
    cases e2 : inR 0 10 y with
    | false =>
      have hr : Hid (marginS m x y = 0) := by unfold Hid marginS; rw [if_neg (by simp [e2])]
      go_enter Try.func27, Try.ntmps27
      go_wp2_with (go_at_call 65; refine (within10 _ _ _).mono ?_; rintro e w' ⟨rfl, rfl⟩)
      go_ret
      exact ⟨ret_i (by rw [hr.out]), hb0⟩
    | true =>
      cases e3 : rightS m 10 with
      | false =>
        have hr : Hid (marginS m x y = 0) := by unfold Hid marginS; rw [if_neg (by simp [e3])]
        go_enter Try.func27, Try.ntmps27
        go_wp2_with (go_at_call 65; refine (within10 _ _ _).mono ?_; rintro e w' ⟨rfl, rfl⟩)
        refine ldMatG rfl rfl hB0 hs ?_
        go_wp2_with fail
        refine (right_any C m hC _ _).mono ?_
        rintro e w1 ⟨rfl, hb⟩
        go_wp2
        go_ret
        exact ⟨ret_i (by rw [hr.out]), Below_trans' hb0 hb0.size hb⟩
      | true =>
        have hr : Hid (marginS m x y = m x.toNat y.toNat - m y.toNat x.toNat) := by unfold Hid marginS; rw [if_pos ⟨e1, e2, e3⟩]
        have hb3 := (rightS_iff.1 e3).2.2
        obtain ⟨X, rfl⟩ : ∃ X : Nat, x = X := ⟨x.toNat, by have := (inR_iff.1 e1).1; omega⟩
        obtain ⟨Y, rfl⟩ : ∃ Y : Nat, y = Y := ⟨y.toNat, by have := (inR_iff.1 e2).1; omega⟩
        have x1 : X < 10 := by have := (inR_iff.1 e1).2; omega
        have y1 : Y < 10 := by have := (inR_iff.1 e2).2; omega
        have b1 : (X : Int) < 10 := by omega
        have b2 : (Y : Int) < 10 := by omega
        have b3 : (0 : Int) ≤ (X : Int) := by omega
        have b4 : (0 : Int) ≤ (Y : Int) := by omega
        have hx1 := hb3 X Y x1 y1
        have hx2 := hb3 Y X y1 x1
        have v0 := hx1.1
        have v1 := hx1.2.1
        have u0 := hx2.1
        have e5 := hide (hC.at_ X Y x1 y1)
        have e6 := hide (hC.at_ Y X y1 x1)
        simp only [Int.toNat_natCast] at hr
        clear hx1 hx2 hb3
        generalize hv : m X Y = v at e5 v0 v1 hr
        generalize hu : m Y X = u at e6 u0 v1 hr
        clear hv hu
        have e4 : IntKind.i64.wrap (v - u) = v - u := IntWalk.i64_in _ (by omega)
        go_enter Try.func27, Try.ntmps27
        go_wp2_with (go_at_call 65; refine (within10 _ _ _).mono ?_; rintro e w' ⟨rfl, rfl⟩)
        refine ldMatG rfl rfl hB0 hs ?_
        go_wp2_with fail
        refine (right_any C m hC _ _).mono ?_
        rintro e w1 ⟨rfl, hb⟩
        go_wp2
        have hB1 := hB0.below hb hB0.lt
        have hcv := (hB1.cell (X * 10 + Y)).trans e5.out
        have hcu := (hB1.cell (Y * 10 + X)).trans e6.out
        refine wp_region_more (by kernel_rfl) (by kernel_rfl) ?_
        repeat (go_big_quiet_step (fail))
        refine wpQuiet_nil ?_
        rintro w2 ⟨qw2, hww2⟩
        have hbw2 := below_of_eq hww2
        clear hww2 qw2
        go_wp2
        go_ret
        exact ⟨ret_i (by rw [hr.out]), Below_trans' hb0 hb0.size (Below_trans' hb hb.size hbw2)⟩
end Go.Proofs.Ytleniljhacnikaa
