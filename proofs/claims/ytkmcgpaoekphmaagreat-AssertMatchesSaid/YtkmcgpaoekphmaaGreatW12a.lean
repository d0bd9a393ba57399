/-
  The layer condorcet: who beats all others; who is beaten by all.
-/
import Derived.Test.YtkmcgpaoekphmaaGreatW10a
import Derived.WalkMore
namespace Go.Proofs.YtkmcgpaoekphmaaGreat
open Go.RowKit Go.Proofs
attribute [local go_sem] cell?_more cell?_alloc_some cell?_setCell_far frozen?_alloc_some frozen?_more
/-- x beats all others before Y. -/
def rowW (m : M) (x Y : Nat) : Bool := (List.range Y).all fun y => decide (x = y) || decide (m y x < m x y)
/-- Who beats all others. -/
def aloneS (m : M) (C : Nat) : Option Nat := (List.range C).find? fun x => rowW m x C
/-- What alone answers. -/
def loneV (m : M) (c : Int) : Int × Bool := if rightS m c = true then (match aloneS m c.toNat with | some x => ((x : Int), true) | none => (0, false)) else (0, false)
theorem rowW_zero (m : M) (x : Nat) : rowW m x 0 = true := rfl
theorem rowW_succ (m : M) (x Y : Nat) : rowW m x (Y + 1) = (rowW m x Y && (decide (x = Y) || decide (m Y x < m x Y))) := by
  unfold rowW; rw [List.range_succ, List.all_append]; simp
theorem rowW_no {m : M} {x Y C : Nat} (hY : Y < C) (hne : x ≠ Y) (h : ¬ m Y x < m x Y) : rowW m x C = false := by
  rw [← Bool.not_eq_true]
  intro e
  have := List.all_eq_true.1 e Y (List.mem_range.2 hY)
  simp [hne, h] at this
theorem lone_bad {m : M} {c : Int} (h : rightS m c = false) : loneV m c = (0, false) := by unfold loneV; rw [if_neg (by simp [h])]
theorem lone_some {m : M} {C x : Nat} (h : rightS m (C : Int) = true) (hx : x < C) (h0 : ∀ y, y < x → rowW m y C = false) (h1 : rowW m x C = true) : loneV m (C : Int) = ((x : Int), true) := by
  have : aloneS m C = some x := List.find?_range_eq_some.2 ⟨h1, List.mem_range.2 hx, fun y hy => by rw [h0 y hy]; rfl⟩
  unfold loneV
  rw [if_pos h, Int.toNat_natCast, this]
theorem lone_none {m : M} {C : Nat} (h : rightS m (C : Int) = true) (h0 : ∀ y, y < C → rowW m y C = false) : loneV m (C : Int) = (0, false) := by
  have : aloneS m C = none := List.find?_eq_none.2 fun y hy => by rw [h0 y (List.mem_range.1 hy)]; simp
  unfold loneV
  rw [if_pos h, Int.toNat_natCast, this]
theorem lone_true {m : M} {c x : Int} (h : loneV m c = (x, true)) : rightS m c = true ∧ ∃ X : Nat, x = X ∧ (X : Int) < c ∧ ∀ y : Nat, (y : Int) < c → y ≠ X → m y X < m X y := by
  unfold loneV at h
  split at h
  · rename_i hr
    refine ⟨hr, ?_⟩
    cases ha : aloneS m c.toNat with
    | none => rw [ha] at h; simp at h
    | some X =>
      rw [ha] at h
      obtain ⟨h1, h2, _⟩ := List.find?_range_eq_some.1 ha
      have h2 := List.mem_range.1 h2
      refine ⟨X, by have := congrArg Prod.fst h; exact this.symm, by omega, fun y hy hne => ?_⟩
      have := List.all_eq_true.1 h1 y (List.mem_range.2 (by omega))
      simp [Ne.symm hne] at this
      exact this
  · simp at h
theorem ret_pair {a : Int} {p : Bool} {v : Int × Bool} (h : v = (a, p)) : Ending.returned (.tuple #[.int .i64 a, .bool p]) = .returned (.tuple #[.int .i64 v.1, .bool v.2]) := by rw [h]

end Go.Proofs.YtkmcgpaoekphmaaGreat
