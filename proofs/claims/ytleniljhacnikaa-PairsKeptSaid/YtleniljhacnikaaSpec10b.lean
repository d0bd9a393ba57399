/-
  The sum of two matrices, renaming, wins: in plain terms. No program is named here.
-/
import Derived.Test.YtleniljhacnikaaSpec10
namespace Go.Proofs.Ytleniljhacnikaa

/-- A matrix that is changed from h to g, row by row: changed before (X, Y). -/
def upFrom (h g : M) (X Y : Nat) : M := fun a b => if a < X ∨ (a = X ∧ b < Y) then g a b else h a b

theorem upFrom_zero (h g : M) (a b : Nat) : h a b = upFrom h g 0 0 a b := by unfold upFrom; rw [if_neg (by omega)]
theorem upFrom_put {h g : M} {X Y : Nat} (a b : Nat) : (if a = X ∧ b = Y then g X Y else upFrom h g X Y a b) = upFrom h g X (Y + 1) a b := by
  unfold upFrom
  by_cases e : a = X ∧ b = Y
  · obtain ⟨rfl, rfl⟩ := e; rw [if_pos ⟨rfl, rfl⟩, if_pos (by omega)]
  · rw [if_neg e]
    by_cases e2 : a < X ∨ (a = X ∧ b < Y)
    · rw [if_pos e2, if_pos (by omega)]
    · rw [if_neg e2, if_neg (by omega)]
theorem upFrom_row {h g : M} {X : Nat} (a b : Nat) (hb : b < 10) : upFrom h g X 10 a b = upFrom h g (X + 1) 0 a b := by
  unfold upFrom
  by_cases e2 : a < X ∨ (a = X ∧ b < 10)
  · rw [if_pos e2, if_pos (by omega)]
  · rw [if_neg e2, if_neg (by omega)]
theorem upFrom_all {h g : M} (a b : Nat) (ha : a < 10) : upFrom h g 10 0 a b = g a b := by unfold upFrom; rw [if_pos (by omega)]
theorem upFrom_here {h g : M} (X Y : Nat) : upFrom h g X Y X Y = h X Y := by unfold upFrom; rw [if_neg (by omega)]

def sumA (a b : M) : M := fun x y => a x y + b x y
def sumErr (a b : M) : Int := if rightS a 10 = true ∧ rightS b 10 = true then (if rightS (sumA a b) 10 = true then 0 else 4) else 8
def sumM (a b : M) : M := if sumErr a b = 0 then sumA a b else fun _ _ => 0

theorem rightS_ten {m : M} (h : rightS m 10 = true) {x y : Nat} (hx : x < 10) (hy : y < 10) : 0 ≤ m x y ∧ m x y ≤ 1000000 := by
  have h1 := (rightS_iff.1 h).2.2 x y hx hy
  have h2 := (rightS_iff.1 h).2.2 y x hy hx
  exact ⟨h1.1, by omega⟩
end Go.Proofs.Ytleniljhacnikaa
