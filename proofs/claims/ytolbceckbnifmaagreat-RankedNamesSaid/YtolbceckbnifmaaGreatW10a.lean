/-
  The layer pairs: Turn.
  The layer pairs: Right.
  The reference's matrices: Right.
  The reference's Turn; Margin, twice; Beats.
  The reference's Margin; Beats; Sum.
-/
import Derived.Test.YtolbceckbnifmaaGreatW9a
import Derived.Test.YtolbceckbnifmaaGreatMat
import Derived.Test.YtolbceckbnifmaaGreatSpecA
namespace Go.Proofs.YtolbceckbnifmaaGreat
open Go.RowKit Go.Proofs
attribute [local go_sem] cell?_more cell?_alloc_some cell?_setCell_far frozen?_alloc_some frozen?_more

/-- The transpose as it is being made: rows of the source before X, and of row X the columns before Y. -/
def trS (m : M) (X Y : Nat) : M := fun a b => if b < X ∨ (b = X ∧ a < Y) then m b a else 0

end Go.Proofs.YtolbceckbnifmaaGreat

namespace Go.Proofs.YtolbceckbnifmaaGreat
open Go.RowKit Go.Proofs
attribute [local go_sem] cell?_more cell?_alloc_some cell?_setCell_far frozen?_alloc_some frozen?_more
/-- (a, b) comes before (X, Y) in the order of the rows. -/
def bef (X Y a b : Nat) : Prop := a < X ∨ (a = X ∧ b < Y)
instance (X Y a b : Nat) : Decidable (bef X Y a b) := by unfold bef; infer_instance

/-- 'only' as it is being made. -/
def onlyT (m : M) (c : Int) (X Y : Nat) : M := fun a b => if bef X Y a b ∧ offP c a b then 0 else m a b

theorem onlyT_off {m : M} {c : Int} {X Y : Nat} (h : offP c X Y) (a b : Nat) : (if a = X ∧ b = Y then 0 else onlyT m c X Y a b) = onlyT m c X (Y + 1) a b := by
  unfold onlyT bef
  by_cases e : a = X ∧ b = Y
  · obtain ⟨rfl, rfl⟩ := e
    rw [if_pos ⟨rfl, rfl⟩, if_pos ⟨by omega, h⟩]
  · rw [if_neg e]
    by_cases e2 : (a < X ∨ (a = X ∧ b < Y)) ∧ offP c a b
    · rw [if_pos e2, if_pos ⟨by omega, e2.2⟩]
    · rw [if_neg e2, if_neg (fun hh => e2 ⟨by omega, hh.2⟩)]
theorem onlyT_on {m : M} {c : Int} {X Y : Nat} (h : ¬ offP c X Y) (a b : Nat) : onlyT m c X Y a b = onlyT m c X (Y + 1) a b := by
  unfold onlyT bef
  by_cases e : a = X ∧ b = Y
  · obtain ⟨rfl, rfl⟩ := e
    rw [if_neg (fun hh => h hh.2), if_neg (fun hh => h hh.2)]
  · by_cases e2 : (a < X ∨ (a = X ∧ b < Y)) ∧ offP c a b
    · rw [if_pos e2, if_pos ⟨by omega, e2.2⟩]
    · rw [if_neg e2, if_neg (fun hh => e2 ⟨by omega, hh.2⟩)]

theorem bef_succ {m : M} {X Y : Nat} (h : Hid (∀ a b, a < 10 → b < 10 → bef X Y a b → posP m a b)) (hp : Hid (posP m X Y)) : Hid (∀ a b, a < 10 → b < 10 → bef X (Y + 1) a b → posP m a b) :=
  fun a b ha hb hh => by
    by_cases e : a = X ∧ b = Y
    · obtain ⟨rfl, rfl⟩ := e; exact hp.out
    · exact h.out a b ha hb (by unfold bef at *; omega)
theorem bef_row {m : M} {X : Nat} (h : Hid (∀ a b, a < 10 → b < 10 → bef X 10 a b → posP m a b)) : Hid (∀ a b, a < 10 → b < 10 → bef (X + 1) 0 a b → posP m a b) :=
  fun a b ha hb hh => h.out a b ha hb (by unfold bef at *; omega)
theorem onlyT_row {m : M} {c : Int} {X : Nat} (a b : Nat) (hb : b < 10) : onlyT m c X 10 a b = onlyT m c (X + 1) 0 a b := by
  unfold onlyT bef
  by_cases e : (a < X ∨ (a = X ∧ b < 10)) ∧ offP c a b
  · rw [if_pos e, if_pos ⟨by omega, e.2⟩]
  · rw [if_neg e, if_neg (fun hh => e ⟨by omega, hh.2⟩)]

set_option maxRecDepth 100000 in
set_option maxHeartbeats 4000000 in
theorem right_any (C : Array Value) (m : M) (hC : Mat C m) (c : Int) (w : World) :
    Calls Tryz.prog 68 #[.agg C, .int .i64 c] w fun e w' => e = .returned (.bool (rightS m c)) ∧ Below w.heap.size w w' := by
  have hs := hC.size
  by_cases c1 : c < 1
  · have hr : Hid (rightS m c = false) := by unfold Hid; rw [← Bool.not_eq_true, rightS_iff]; omega
    go_enter Tryz.func68, Tryz.ntmps68
    go_wp2
    go_ret
    exact ⟨ret_b (by rw [hr.out]), (Below.refl _ _).alloc (Nat.le_refl _) _⟩
  by_cases c2 : 10 < c
  · have hr : Hid (rightS m c = false) := by unfold Hid; rw [← Bool.not_eq_true, rightS_iff]; omega
    go_enter Tryz.func68, Tryz.ntmps68
    go_wp2
    go_ret
    exact ⟨ret_b (by rw [hr.out]), (Below.refl _ _).alloc (Nat.le_refl _) _⟩
  have hB0 : Has (w.alloc (.cells C 24)) w.heap.size 24 C := Has.new _ _ _
  have hB1 : Has (((w.alloc (.cells C 24)).alloc (.cells Tryz.zeroCells24 24)).setRow (w.heap.size + 1) C) w.heap.size 24 C := ((Has.new _ _ _).alloc _).farRow (by omega) _
  have hO1 : Has (((w.alloc (.cells C 24)).alloc (.cells Tryz.zeroCells24 24)).setRow (w.heap.size + 1) C) (w.heap.size + 1) 24 C := (Has.new2 _ _ _ _).setRow _
  have hb1 : Below w.heap.size w (((w.alloc (.cells C 24)).alloc (.cells Tryz.zeroCells24 24)).setRow (w.heap.size + 1) C) :=
    below_setRow (((Below.refl _ _).alloc (Nat.le_refl _) _).alloc (by simp) _) (by omega) _
  go_enter Tryz.func68, Tryz.ntmps68
  go_wp2_with (first | (refine ldMat rfl rfl rfl hB0 hs ?_) | (refine stMat rfl rfl rfl rfl (Has.new2 _ _ _ _) zeroMat.size hs hC.one ?_) | (refine ldMat rfl rfl rfl hB1 hs ?_))
  go_loopw [18] (fun i wr => ∃ (X : Nat) (D : Array Value), X ≤ 10 ∧ i = .int .i64 X ∧ Has wr w.heap.size 24 C ∧ Has wr (w.heap.size + 1) 24 D ∧ Mat D (onlyT m c X 0) ∧
      Hid (∀ a b, a < 10 → b < 10 → bef X 0 a b → posP m a b) ∧ Below w.heap.size w wr) (fun i _ => 10 - (intOf i).toNat)
  case atStart => exact ⟨0, _, by omega, rfl, hB1, hO1, hC.congr (fun x y _ _ => by unfold onlyT bef; rw [if_neg (by omega)]), fun a b _ _ hh => by unfold bef at hh; omega, hb1⟩
  case round =>
    obtain ⟨X, D, hX, rfl, hB, hO, hM, hpos, hb⟩ := hrel
    obtain ⟨wo, rfl⟩ : ∃ wo : World, wo = wr := ⟨_, rfl⟩
    by_cases hlt : X < 10
    · have hRow := hC.row hlt
      have b1 : (X : Int) < 10 := by omega
      obtain ⟨R, hRd⟩ : ∃ R, C.extract (X * 10) (X * 10 + 10) = R := ⟨_, rfl⟩
      rw [hRd] at hRow
      have hix := ixMat hlt hRd
      clear hRd
      have hRs := hRow.size
      have hR1 := hRow.one
      go_wp2_with (first
        | (refine stRow rfl rfl rfl rfl (Has.new _ _ _) rfl hRs hR1 ?_)
        | (refine ldRow rfl rfl rfl ((Has.new _ _ _).setRow _) hRs ?_))
      have hz : w.heap.size + 1 < wo.heap.size := hO.lt
      obtain ⟨W, hW⟩ : ∃ W, W = (wo.alloc (.cells #[.int .i64 0, .int .i64 0, .int .i64 0, .int .i64 0, .int .i64 0, .int .i64 0, .int .i64 0, .int .i64 0, .int .i64 0, .int .i64 0] 22)).setRow wo.heap.size R := ⟨_, rfl⟩
      rw [← hW]
      have hbW : Below w.heap.size w W := by rw [hW]; exact below_setRow (hb.alloc hb.size _) hb.size R
      have hBW : Has W w.heap.size 24 C := by rw [hW]; exact (hB.alloc _).farRow (by omega) _
      have hOW : Has W (w.heap.size + 1) 24 D := by rw [hW]; exact (hO.alloc _).farRow (by omega) _
      clear hW hB hO hb
      go_loopw [23] (fun i wr => ∃ (Y : Nat) (D : Array Value), Y ≤ 10 ∧ i = .int .i64 Y ∧ Has wr w.heap.size 24 C ∧ Has wr (w.heap.size + 1) 24 D ∧ Mat D (onlyT m c X Y) ∧
        Hid (∀ a b, a < 10 → b < 10 → bef X Y a b → posP m a b) ∧ Below w.heap.size w wr) (fun i _ => 10 - (intOf i).toNat)
      case atStart => exact ⟨0, D, by omega, rfl, hBW, hOW, hM, hpos, hbW⟩
      case round =>
        obtain ⟨Y, D', hY, rfl, hB, hO, hM', hpos', hb⟩ := hrel
        by_cases hltY : Y < 10
        · have hix2 := ixRow hRow hltY
          have b2 : (Y : Int) < 10 := by omega
          have hcu := (hB.cell (Y * 10 + X)).trans (hC.at_ Y X hltY hlt)
          have hco := (hO.cell (X * 10 + Y)).trans (hM'.at_ X Y hlt hltY)
          have hfr := hO.free (X * 10 + Y)
          have hbad := hide (@rightS_bad m c X Y hlt hltY)
          have hpd := hide (show posP m X Y ↔ (0 ≤ m X Y ∧ m X Y ≤ 1000000 - min (max (m Y X) 0) 1000000) from Iff.rfl)
          have hoff := hide (show offP c X Y ↔ (X = Y ∨ c ≤ (X : Int) ∨ c ≤ (Y : Int)) from Iff.rfl)
          have hbdv := hC.bd X Y hlt hltY
          have hbdu := hC.bd Y X hltY hlt
          have hon := hide (hM'.put hlt hltY (v := 0) (by unfold I64; omega))
          generalize hv : m X Y = v at hix2 hbdv
          generalize hu : m Y X = u at hcu hbdu
          have Hv := hide hv
          have Hu := hide hu
          clear hv hu
          unfold I64 at hbdv hbdu
          have hne : (v < 0 ∨ (0 ≤ v ∧ u < 0 ∧ 1000000 < v) ∨ (0 ≤ v ∧ 0 ≤ u ∧ u ≤ 1000000 ∧ 1000000 - u < v) ∨ (0 ≤ v ∧ 1000000 < u ∧ 0 < v)) ∨
              ((0 ≤ v ∧ u < 0 ∧ v ≤ 1000000) ∨ (0 ≤ v ∧ 0 ≤ u ∧ u ≤ 1000000 ∧ v ≤ 1000000 - u) ∨ (0 ≤ v ∧ 1000000 < u ∧ v ≤ 0)) := by omega
          rcases hne with hne | hne
          · have hr : Hid (rightS m c = false) := hbad.out (by rw [hpd.out, Hv.out, Hu.out]; omega)
            rcases hne with hne | ⟨k1, k2, k3⟩ | ⟨k1, k2, k3, k4⟩ | ⟨k1, k2, k3⟩
            all_goals
              go_wp2
              go_ret
              exact ⟨ret_b (by rw [hr.out]), hb⟩
          · have hpp : Hid (posP m X Y) := by unfold Hid; rw [hpd.out, Hv.out, Hu.out]; omega
            have hcases : (X = Y) ∨ (X ≠ Y ∧ inR 0 c X = false) ∨ (X ≠ Y ∧ inR 0 c X = true ∧ inR 0 c Y = false) ∨ (X ≠ Y ∧ inR 0 c X = true ∧ inR 0 c Y = true) := by
              by_cases e1 : X = Y
              · exact .inl e1
              · cases e2 : inR 0 c X with
                | false => exact .inr (.inl ⟨e1, rfl⟩)
                | true => cases e3 : inR 0 c Y with
                  | false => exact .inr (.inr (.inl ⟨e1, rfl, rfl⟩))
                  | true => exact .inr (.inr (.inr ⟨e1, rfl, rfl⟩))
            rcases hcases with e1 | ⟨e1, e2⟩ | ⟨e1, e2, e3⟩ | ⟨e1, e2, e3⟩
            · have ho : Hid (offP c X Y) := hoff.out.2 (.inl e1)
              have k0 : ((X : Int) == (Y : Int)) = true := by simp [e1]
              clear e1
              rcases hne with ⟨k1, k2, k3⟩ | ⟨k1, k2, k3, k4⟩ | ⟨k1, k2, k3⟩
              all_goals
                go_wp2_with (go_at_call 93; refine (within10 _ _ _).mono ?_; rintro e w' ⟨rfl, rfl⟩)
                go_roundw
                case rel =>
                  exact ⟨Y + 1, _, by omega, by go_num, hB.far (by show w.heap.size ≠ w.heap.size + 1; omega) _, hO.put _ _, hon.out.congr (fun a b _ _ => onlyT_off ho.out a b), bef_succ hpos' hpp, hb.setCell (by show w.heap.size ≤ w.heap.size + 1; omega) _⟩
                case measure => simp [intOf] <;> omega
            · have ho : Hid (offP c X Y) := hoff.out.2 (by rw [← Bool.not_eq_true, inR_iff] at e2; omega)
              have k0 : ((X : Int) == (Y : Int)) = false := by rw [beq_eq_false_iff_ne]; omega
              rcases hne with ⟨k1, k2, k3⟩ | ⟨k1, k2, k3, k4⟩ | ⟨k1, k2, k3⟩
              all_goals
                go_wp2_with (go_at_call 93; refine (within10 _ _ _).mono ?_; rintro e w' ⟨rfl, rfl⟩)
                go_roundw
                case rel =>
                  exact ⟨Y + 1, _, by omega, by go_num, hB.far (by show w.heap.size ≠ w.heap.size + 1; omega) _, hO.put _ _, hon.out.congr (fun a b _ _ => onlyT_off ho.out a b), bef_succ hpos' hpp, hb.setCell (by show w.heap.size ≤ w.heap.size + 1; omega) _⟩
                case measure => simp [intOf] <;> omega
            · have ho : Hid (offP c X Y) := hoff.out.2 (by rw [← Bool.not_eq_true, inR_iff] at e3; omega)
              have k0 : ((X : Int) == (Y : Int)) = false := by rw [beq_eq_false_iff_ne]; omega
              rcases hne with ⟨k1, k2, k3⟩ | ⟨k1, k2, k3, k4⟩ | ⟨k1, k2, k3⟩
              all_goals
                go_wp2_with (go_at_call 93; refine (within10 _ _ _).mono ?_; rintro e w' ⟨rfl, rfl⟩)
                go_roundw
                case rel =>
                  exact ⟨Y + 1, _, by omega, by go_num, hB.far (by show w.heap.size ≠ w.heap.size + 1; omega) _, hO.put _ _, hon.out.congr (fun a b _ _ => onlyT_off ho.out a b), bef_succ hpos' hpp, hb.setCell (by show w.heap.size ≤ w.heap.size + 1; omega) _⟩
                case measure => simp [intOf] <;> omega
            · have ho : Hid (¬ offP c X Y) := fun hh => by have := hoff.out.1 hh; rw [inR_iff] at e2 e3; omega
              have k0 : ((X : Int) == (Y : Int)) = false := by rw [beq_eq_false_iff_ne]; omega
              rcases hne with ⟨k1, k2, k3⟩ | ⟨k1, k2, k3, k4⟩ | ⟨k1, k2, k3⟩
              all_goals
                go_wp2_with (go_at_call 93; refine (within10 _ _ _).mono ?_; rintro e w' ⟨rfl, rfl⟩)
                go_roundw
                case rel =>
                  exact ⟨Y + 1, _, by omega, by go_num, hB, hO, hM'.congr (fun a b _ _ => onlyT_on ho.out a b), bef_succ hpos' hpp, hb⟩
                case measure => simp [intOf] <;> omega
        · obtain rfl : Y = 10 := by omega
          go_wp2
          go_roundw
          case rel => exact ⟨X + 1, D', by omega, by go_num, hB, hO, hM'.congr (fun a b _ hb2 => onlyT_row a b hb2), bef_row hpos', hb⟩
          case measure => simp [intOf] <;> omega
    · obtain rfl : X = 10 := by omega
      have he := eqMat hM hC
      have hgd := eqGuardMat
      have hfin : Hid (rightS m c = matEq (onlyT m c 10 0) m) := by
        unfold Hid
        rw [rightS_prog (by omega) (by omega) (fun x y hx hy => hpos.out x y hx hy (by unfold bef; omega))]
        rw [Bool.eq_iff_iff, matEq_iff, matEq_iff]
        have hh : ∀ x y, x < 10 → y < 10 → onlyS m c x y = onlyT m c 10 0 x y := by
          intro x y hx hy
          unfold onlyS onlyT bef
          by_cases ho : offP c x y
          · rw [if_pos ho, if_pos ⟨by omega, ho⟩]
          · rw [if_neg ho, if_neg (fun h => ho h.2)]
        exact ⟨fun h x y hx hy => by rw [← hh x y hx hy]; exact h x y hx hy, fun h x y hx hy => by rw [hh x y hx hy]; exact h x y hx hy⟩
      go_wp2_with (first | (refine ldMat rfl rfl rfl hO hM.size ?_) | (refine ldMat rfl rfl rfl hB hs ?_))
      go_ret
      exact ⟨ret_b (by rw [hfin.out]), hb⟩
end Go.Proofs.YtolbceckbnifmaaGreat

namespace Go.Proofs.YtolbceckbnifmaaGreat
open Go.RowKit Go.Proofs
attribute [local go_sem] cell?_more cell?_alloc_some cell?_setCell_far frozen?_alloc_some frozen?_more
set_option maxRecDepth 100000 in
set_option maxHeartbeats 4000000 in
theorem rright_any (C : Array Value) (m : M) (hC : Mat C m) (c : Int) (w : World) :
    Calls Tryz.prog 64 #[.agg C, .int .i64 c] w fun e w' => e = .returned (.bool (rightS m c)) ∧ Below w.heap.size w w' := by
  have hs := hC.size
  by_cases c1 : c < 1
  · have hr : Hid (rightS m c = false) := by unfold Hid; rw [← Bool.not_eq_true, rightS_iff]; omega
    go_enter Tryz.func64, Tryz.ntmps64
    go_wp2
    go_ret
    exact ⟨ret_b (by rw [hr.out]), (Below.refl _ _).alloc (Nat.le_refl _) _⟩
  by_cases c2 : 10 < c
  · have hr : Hid (rightS m c = false) := by unfold Hid; rw [← Bool.not_eq_true, rightS_iff]; omega
    go_enter Tryz.func64, Tryz.ntmps64
    go_wp2
    go_ret
    exact ⟨ret_b (by rw [hr.out]), (Below.refl _ _).alloc (Nat.le_refl _) _⟩
  have hB0 : Has (w.alloc (.cells C 24)) w.heap.size 24 C := Has.new _ _ _
  have hb0 : Below w.heap.size w (w.alloc (.cells C 24)) := (Below.refl _ _).alloc (Nat.le_refl _) _
  go_enter Tryz.func64, Tryz.ntmps64
  go_wp2
  go_loopw [5] (fun i wr => ∃ X : Nat, X ≤ 10 ∧ i = .int .i64 X ∧ Has wr w.heap.size 24 C ∧ Hid (∀ a b, a < 10 → b < 10 → bef X 0 a b → entP m c a b) ∧ Below w.heap.size w wr) (fun i _ => 10 - (intOf i).toNat)
  case atStart => exact ⟨0, by omega, rfl, hB0, fun a b _ _ hh => by unfold bef at hh; omega, hb0⟩
  case round =>
    obtain ⟨X, hX, rfl, hB, hpos, hb⟩ := hrel
    obtain ⟨wo, rfl⟩ : ∃ wo : World, wo = wr := ⟨_, rfl⟩
    by_cases hlt : X < 10
    · have b1 : (X : Int) < 10 := by omega
      go_wp2
      go_loopw [6] (fun i wr => ∃ Y : Nat, Y ≤ 10 ∧ i = .int .i64 Y ∧ Has wr w.heap.size 24 C ∧ Hid (∀ a b, a < 10 → b < 10 → bef X Y a b → entP m c a b) ∧ Below w.heap.size w wr) (fun i _ => 10 - (intOf i).toNat)
      case atStart => exact ⟨0, by omega, rfl, hB, hpos, hb⟩
      case round =>
        obtain ⟨Y, hY, rfl, hB, hpos', hb⟩ := hrel
        by_cases hltY : Y < 10
        · have b2 : (Y : Int) < 10 := by omega
          have hcu := (hB.cell (X * 10 + Y)).trans (hC.at_ X Y hlt hltY)
          have hbad := hide (@rightS_ent m c X Y hlt hltY)
          have hpd := hide (show entP m c X Y ↔ (0 ≤ m X Y ∧ m X Y ≤ 1000000 ∧ (m X Y ≠ 0 → ¬ (X = Y ∨ c ≤ (X : Int) ∨ c ≤ (Y : Int)))) from Iff.rfl)
          generalize hv : m X Y = v at hcu
          have Hv := hide hv
          clear hv
          have hne : (v < 0 ∨ 1000000 < v ∨ (0 < v ∧ v ≤ 1000000 ∧ X = Y) ∨ (0 < v ∧ v ≤ 1000000 ∧ X ≠ Y ∧ c ≤ (X : Int)) ∨ (0 < v ∧ v ≤ 1000000 ∧ X ≠ Y ∧ (X : Int) < c ∧ c ≤ (Y : Int))) ∨
              (v = 0 ∨ (0 < v ∧ v ≤ 1000000 ∧ X ≠ Y ∧ (X : Int) < c ∧ (Y : Int) < c)) := by omega
          rcases hne with hne | hne
          · have hr : Hid (rightS m c = false) := hbad.out (by rw [hpd.out, Hv.out]; omega)
            rcases hne with k1 | k1 | ⟨k1, k2, k3⟩ | ⟨k1, k2, k3, k4⟩ | ⟨k1, k2, k3, k4, k5⟩
            · go_wp2
              go_ret
              exact ⟨ret_b (by rw [hr.out]), hb⟩
            · go_wp2
              go_ret
              exact ⟨ret_b (by rw [hr.out]), hb⟩
            · have g1 : (v != 0) = true := by rw [bne_iff_ne]; omega
              have g2 : ((X : Int) == (Y : Int)) = true := by rw [beq_iff_eq]; omega
              clear k3
              go_wp2
              go_ret
              exact ⟨ret_b (by rw [hr.out]), hb⟩
            · have g1 : (v != 0) = true := by rw [bne_iff_ne]; omega
              have g2 : ((X : Int) == (Y : Int)) = false := by rw [beq_eq_false_iff_ne]; omega
              go_wp2
              go_ret
              exact ⟨ret_b (by rw [hr.out]), hb⟩
            · have g1 : (v != 0) = true := by rw [bne_iff_ne]; omega
              have g2 : ((X : Int) == (Y : Int)) = false := by rw [beq_eq_false_iff_ne]; omega
              go_wp2
              go_ret
              exact ⟨ret_b (by rw [hr.out]), hb⟩
          · have hpp : Hid (entP m c X Y) := by unfold Hid; rw [hpd.out, Hv.out]; omega
            rcases hne with rfl | ⟨k1, k2, k3, k4, k5⟩
            · go_wp2
              go_roundw
              case rel =>
                exact ⟨Y + 1, by omega, by go_num, hB, fun a b ha hb2 hh => by
                  by_cases e : a = X ∧ b = Y
                  · obtain ⟨rfl, rfl⟩ := e; exact hpp.out
                  · exact hpos'.out a b ha hb2 (by unfold bef at *; omega), hb⟩
              case measure => simp [intOf] <;> omega
            · have g1 : (v != 0) = true := by rw [bne_iff_ne]; omega
              have g2 : ((X : Int) == (Y : Int)) = false := by rw [beq_eq_false_iff_ne]; omega
              go_wp2
              go_roundw
              case rel =>
                exact ⟨Y + 1, by omega, by go_num, hB, fun a b ha hb2 hh => by
                  by_cases e : a = X ∧ b = Y
                  · obtain ⟨rfl, rfl⟩ := e; exact hpp.out
                  · exact hpos'.out a b ha hb2 (by unfold bef at *; omega), hb⟩
              case measure => simp [intOf] <;> omega
        · obtain rfl : Y = 10 := by omega
          go_wp2
          go_roundw
          case rel => exact ⟨X + 1, by omega, by go_num, hB, fun a b ha hb2 hh => hpos'.out a b ha hb2 (by unfold bef at *; omega), hb⟩
          case measure => simp [intOf] <;> omega
    · have hX10 : X = 10 := by omega
      have hent : Hid (∀ a b, a < 10 → b < 10 → entP m c a b) := fun a b ha hb2 => hpos.out a b ha hb2 (by unfold bef; omega)
      have b0 : ¬ (X : Int) < 10 := by omega
      clear hX10 hlt hX hpos
      go_wp2
      go_loopw [8] (fun i wr => ∃ X : Nat, (X : Int) ≤ c ∧ i = .int .i64 X ∧ Has wr w.heap.size 24 C ∧ Hid (∀ a b : Nat, a < X → (b : Int) < c → m a b + m b a ≤ 1000000) ∧ Below w.heap.size w wr) (fun i _ => 10 - (intOf i).toNat)
      case atStart => exact ⟨0, by omega, rfl, hB, fun a b ha _ => absurd ha (by omega), hb⟩
      case round =>
        obtain ⟨X, hX, rfl, hB, htwo, hb⟩ := hrel
        obtain ⟨wo, rfl⟩ : ∃ wo : World, wo = wr := ⟨_, rfl⟩
        by_cases hlt : (X : Int) < c
        · have b1 : (X : Int) < 10 := by omega
          go_wp2
          go_loopw [9] (fun i wr => ∃ Y : Nat, (Y : Int) ≤ c ∧ i = .int .i64 Y ∧ Has wr w.heap.size 24 C ∧ Hid (∀ b : Nat, b < Y → m X b + m b X ≤ 1000000) ∧ Below w.heap.size w wr) (fun i _ => 10 - (intOf i).toNat)
          case atStart => exact ⟨0, by omega, rfl, hB, fun b hb2 => absurd hb2 (by omega), hb⟩
          case round =>
            obtain ⟨Y, hY, rfl, hB, hone, hb⟩ := hrel
            by_cases hltY : (Y : Int) < c
            · have b2 : (Y : Int) < 10 := by omega
              have b3 : (0 : Int) ≤ (X : Int) := by omega
              have b4 : (0 : Int) ≤ (Y : Int) := by omega
              have hcv := (hB.cell (X * 10 + Y)).trans (hC.at_ X Y (by omega) (by omega))
              have hcu := (hB.cell (Y * 10 + X)).trans (hC.at_ Y X (by omega) (by omega))
              have hbad := hide (@rightS_two m c X Y (by omega) (by omega))
              have hx1 := hent.out X Y (by omega) (by omega)
              have hx2 := hent.out Y X (by omega) (by omega)
              have v0 := hx1.1
              have v1 := hx1.2.1
              have u0 := hx2.1
              have u1 := hx2.2.1
              clear hx1 hx2
              generalize hv : m X Y = v at hcv v0 v1
              generalize hu : m Y X = u at hcu u0 u1
              have Hv := hide hv
              have Hu := hide hu
              clear hv hu
              have e1 : IntKind.i64.wrap (v + u) = v + u := IntWalk.i64_in _ (by omega)
              by_cases hbig : 1000000 < v + u
              · have hr : Hid (rightS m c = false) := hbad.out (by rw [Hv.out, Hu.out]; exact hbig)
                go_wp2
                refine wp_region_more (by kernel_rfl) (by kernel_rfl) ?_
                repeat (go_big_quiet_step (fail))
                refine wpQuiet_nil ?_
                rintro w1 ⟨qw1, hww1⟩
                have hbw1 := below_of_eq hww1
                clear hww1 qw1
                go_wp2
                go_ret
                exact ⟨ret_b (by rw [hr.out]), Below_trans' hb hb.size hbw1⟩
              · go_wp2
                refine wp_region_more (by kernel_rfl) (by kernel_rfl) ?_
                repeat (go_big_quiet_step (fail))
                refine wpQuiet_nil ?_
                rintro w1 ⟨qw1, hww1⟩
                have hbw1 := below_of_eq hww1
                clear hww1 qw1
                clear e1
                go_wp2
                go_roundw
                case rel =>
                  exact ⟨Y + 1, by omega, by go_num, hB.below hbw1 hB.lt, fun b hb2 => by
                    by_cases e : b = Y
                    · subst e; rw [Hv.out, Hu.out]; omega
                    · exact hone.out b (by omega), Below_trans' hb hb.size hbw1⟩
                case measure => simp [intOf] <;> omega
            · go_wp2
              go_roundw
              case rel => exact ⟨X + 1, by omega, by go_num, hB, fun a b ha hb2 => by
                by_cases e : a = X
                · subst e; exact hone.out b (by omega)
                · exact htwo.out a b (by omega) hb2, hb⟩
              case measure => simp [intOf] <;> omega
        · have hr : Hid (rightS m c = true) := rightS_ref (by omega) (by omega) hent.out (fun a b ha hb2 => htwo.out a b (by omega) hb2)
          go_wp2
          go_ret
          exact ⟨ret_b (by rw [hr.out]), hb⟩
end Go.Proofs.YtolbceckbnifmaaGreat

namespace Go.Proofs.YtolbceckbnifmaaGreat
open Go.RowKit Go.Proofs
attribute [local go_sem] cell?_more cell?_alloc_some cell?_setCell_far frozen?_alloc_some frozen?_more
/-- A matrix g as it is being made, row by row: 0 from (X, Y) on. -/
def upTo (g : M) (X Y : Nat) : M := fun a b => if a < X ∨ (a = X ∧ b < Y) then g a b else 0

theorem upTo_zero (g : M) (a b : Nat) : 0 = upTo g 0 0 a b := by unfold upTo; rw [if_neg (by omega)]
theorem upTo_put {g : M} {X Y : Nat} (a b : Nat) : (if a = X ∧ b = Y then g X Y else upTo g X Y a b) = upTo g X (Y + 1) a b := by
  unfold upTo
  by_cases e : a = X ∧ b = Y
  · obtain ⟨rfl, rfl⟩ := e; rw [if_pos ⟨rfl, rfl⟩, if_pos (by omega)]
  · rw [if_neg e]
    by_cases e2 : a < X ∨ (a = X ∧ b < Y)
    · rw [if_pos e2, if_pos (by omega)]
    · rw [if_neg e2, if_neg (by omega)]
theorem upTo_row {g : M} {X : Nat} (a b : Nat) (hb : b < 10) : upTo g X 10 a b = upTo g (X + 1) 0 a b := by
  unfold upTo
  by_cases e2 : a < X ∨ (a = X ∧ b < 10)
  · rw [if_pos e2, if_pos (by omega)]
  · rw [if_neg e2, if_neg (by omega)]
theorem upTo_all {g : M} (a b : Nat) (ha : a < 10) : upTo g 10 0 a b = g a b := by unfold upTo; rw [if_pos (by omega)]

/-- A whole matrix is read, by an operation with a guard. -/
theorem ldMatG {o : Oper} {a : Act} {w : World} {K : Act → World → Prop} {Q : Exit → Act → World → Prop} {x : Operand} (ho : o.op = .load 24 x) {g : Nat} (hx : a.eval x = .pointer (some ⟨g, 0, none⟩)) {C : Array Value} (hg : Has w g 24 C) (hs : C.size = 100)
    (h : K (a.put o.dst (.agg C)) w) : o.wp Tryz.prog a w K Q :=
  wp_load_row 24 x ho g hx _ C (0, 0) _ hg Tryz.underlying24 rfl (infoMat.trans (by rw [hs])) h

set_option maxRecDepth 100000 in
set_option maxHeartbeats 2000000 in
theorem margin_any (C : Array Value) (m : M) (hC : Mat C m) (x y : Int) (w : World) :
    Calls Tryz.prog 65 #[.agg C, .int .i64 x, .int .i64 y] w fun e w' => e = .returned (.int .i64 (marginS m x y)) ∧ Below w.heap.size w w' := by
  have hs := hC.size
  have hB0 : Has (w.alloc (.cells C 24)) w.heap.size 24 C := Has.new _ _ _
  have hb0 : Below w.heap.size w (w.alloc (.cells C 24)) := (Below.refl _ _).alloc (Nat.le_refl _) _
  cases e1 : inR 0 10 x with
  | false =>
    have hr : Hid (marginS m x y = 0) := by unfold Hid marginS; rw [if_neg (by simp [e1])]
    go_enter Tryz.func65, Tryz.ntmps65
    go_wp2_with (go_at_call 93; refine (within10 _ _ _).mono ?_; rintro e w' ⟨rfl, rfl⟩)
    go_ret
    exact ⟨ret_i (by rw [hr.out]), hb0⟩
  | true =>
    cases e2 : inR 0 10 y with
    | false =>
      have hr : Hid (marginS m x y = 0) := by unfold Hid marginS; rw [if_neg (by simp [e2])]
      go_enter Tryz.func65, Tryz.ntmps65
      go_wp2_with (go_at_call 93; refine (within10 _ _ _).mono ?_; rintro e w' ⟨rfl, rfl⟩)
      go_ret
      exact ⟨ret_i (by rw [hr.out]), hb0⟩
    | true =>
      cases e3 : rightS m 10 with
      | false =>
        have hr : Hid (marginS m x y = 0) := by unfold Hid marginS; rw [if_neg (by simp [e3])]
        go_enter Tryz.func65, Tryz.ntmps65
        go_wp2_with (go_at_call 93; refine (within10 _ _ _).mono ?_; rintro e w' ⟨rfl, rfl⟩)
        refine ldMatG rfl rfl hB0 hs ?_
        go_wp2_with fail
        refine (right_any C m hC _ _).mono ?_
        rintro e w1 ⟨rfl, hb⟩
        go_wp2
        go_ret
        exact ⟨ret_i (by rw [hr.out]), Below_trans' hb0 hb0.size hb⟩
      | true =>
        have hr : Hid (marginS m x y = m x.toNat y.toNat - m y.toNat x.toNat) := by unfold Hid marginS; rw [if_pos ⟨e1, e2, e3⟩]
        have hb3 := (rightS_iff.1 e3).2.2
        obtain ⟨X, rfl⟩ : ∃ X : Nat, x = X := ⟨x.toNat, by have := (inR_iff.1 e1).1; omega⟩
        obtain ⟨Y, rfl⟩ : ∃ Y : Nat, y = Y := ⟨y.toNat, by have := (inR_iff.1 e2).1; omega⟩
        have x1 : X < 10 := by have := (inR_iff.1 e1).2; omega
        have y1 : Y < 10 := by have := (inR_iff.1 e2).2; omega
        have b1 : (X : Int) < 10 := by omega
        have b2 : (Y : Int) < 10 := by omega
        have b3 : (0 : Int) ≤ (X : Int) := by omega
        have b4 : (0 : Int) ≤ (Y : Int) := by omega
        have hx1 := hb3 X Y x1 y1
        have hx2 := hb3 Y X y1 x1
        have v0 := hx1.1
        have v1 := hx1.2.1
        have u0 := hx2.1
        have e5 := hide (hC.at_ X Y x1 y1)
        have e6 := hide (hC.at_ Y X y1 x1)
        simp only [Int.toNat_natCast] at hr
        clear hx1 hx2 hb3
        generalize hv : m X Y = v at e5 v0 v1 hr
        generalize hu : m Y X = u at e6 u0 v1 hr
        clear hv hu
        have e4 : IntKind.i64.wrap (v - u) = v - u := IntWalk.i64_in _ (by omega)
        go_enter Tryz.func65, Tryz.ntmps65
        go_wp2_with (go_at_call 93; refine (within10 _ _ _).mono ?_; rintro e w' ⟨rfl, rfl⟩)
        refine ldMatG rfl rfl hB0 hs ?_
        go_wp2_with fail
        refine (right_any C m hC _ _).mono ?_
        rintro e w1 ⟨rfl, hb⟩
        go_wp2
        have hB1 := hB0.below hb hB0.lt
        have hcv := (hB1.cell (X * 10 + Y)).trans e5.out
        have hcu := (hB1.cell (Y * 10 + X)).trans e6.out
        refine wp_region_more (by kernel_rfl) (by kernel_rfl) ?_
        repeat (go_big_quiet_step (fail))
        refine wpQuiet_nil ?_
        rintro w2 ⟨qw2, hww2⟩
        have hbw2 := below_of_eq hww2
        clear hww2 qw2
        go_wp2
        go_ret
        exact ⟨ret_i (by rw [hr.out]), Below_trans' hb0 hb0.size (Below_trans' hb hb.size hbw2)⟩
end Go.Proofs.YtolbceckbnifmaaGreat

namespace Go.Proofs.YtolbceckbnifmaaGreat
open Go.RowKit Go.Proofs
attribute [local go_sem] cell?_more cell?_alloc_some cell?_setCell_far frozen?_alloc_some frozen?_more
set_option maxRecDepth 100000 in
set_option maxHeartbeats 2000000 in
theorem beats_any (C : Array Value) (m : M) (hC : Mat C m) (x y : Int) (w : World) :
    Calls Tryz.prog 25 #[.agg C, .int .i64 x, .int .i64 y] w fun e w' => e = .returned (.bool (decide (0 < marginS m x y))) ∧ Below w.heap.size w w' := by
  have hs := hC.size
  have hB0 : Has (w.alloc (.cells C 24)) w.heap.size 24 C := Has.new _ _ _
  have hb0 : Below w.heap.size w (w.alloc (.cells C 24)) := (Below.refl _ _).alloc (Nat.le_refl _) _
  go_enter Tryz.func25, Tryz.ntmps25
  go_wp2_with (refine ldMat rfl rfl rfl hB0 hs ?_)
  refine (margin_any C m hC x y _).mono ?_
  rintro e w1 ⟨rfl, hb⟩
  go_wp2
  go_ret
  exact ⟨ret_b rfl, Below_trans' hb0 hb0.size hb⟩
end Go.Proofs.YtolbceckbnifmaaGreat
