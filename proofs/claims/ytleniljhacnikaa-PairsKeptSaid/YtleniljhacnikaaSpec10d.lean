/-
  How many candidates one beats, in plain terms. No program is named here.
-/
import Derived.Test.YtleniljhacnikaaSpec10c
namespace Go.Proofs.Ytleniljhacnikaa

/-- How many of the first Y candidates x beats. -/
def cntS (m : M) (x : Nat) : Nat → Nat
  | 0 => 0
  | Y + 1 => cntS m x Y + if m Y x < m x Y then 1 else 0

theorem cntS_yes {m : M} {x Y : Nat} (h : m Y x < m x Y) : cntS m x (Y + 1) = cntS m x Y + 1 := by rw [cntS, if_pos h]
theorem cntS_no {m : M} {x Y : Nat} (h : ¬ m Y x < m x Y) : cntS m x (Y + 1) = cntS m x Y := by rw [cntS, if_neg h]; omega
theorem cntS_le (m : M) (x : Nat) : ∀ Y, cntS m x Y ≤ Y
  | 0 => Nat.le_refl _
  | Y + 1 => by have := cntS_le m x Y; unfold cntS; split <;> omega

theorem cntS_right {m : M} {c : Nat} (h : rightS m c = true) {x : Nat} (hx : x < 10) : ∀ Y, c ≤ Y → Y ≤ 10 → cntS m x Y = cntS m x c
  | 0, h1, _ => by rw [show c = 0 by omega]
  | Y + 1, h1, h2 => by
    by_cases e : c = Y + 1
    · rw [e]
    · have hr := (rightS_iff.1 h).2.2
      have a1 := (hr x Y hx (by omega)).2.2 (.inr (.inr (by omega)))
      have a2 := (hr Y x (by omega) hx).2.2 (.inr (.inl (by omega)))
      rw [cntS_no (by omega), cntS_right h hx Y (by omega) (by omega)]

def winsL (m : M) (c : Nat) : List Int := (List.range c).map fun x => (cntS m x c : Int)
def winErr (m : M) (c : Int) : Int := if 1 ≤ c ∧ c ≤ 10 then (if rightS m c = true then 0 else 8) else 2
def winM (m : M) (c : Int) : List Int := if winErr m c = 0 then winsL m c.toNat else []

/-- The wins as they are being counted: all of the rows before X, and of row X the columns before Y. -/
def winT (m : M) (X Y : Nat) : Nat → Int := fun i => if i < X then (cntS m i 10 : Int) else if i = X then (cntS m X Y : Int) else 0

theorem winT_zero (m : M) (i : Nat) : 0 = winT m 0 0 i := by unfold winT; rw [if_neg (by omega)]; split <;> simp [cntS]
theorem winT_here (m : M) (X Y : Nat) : winT m X Y X = (cntS m X Y : Int) := by unfold winT; rw [if_neg (by omega), if_pos rfl]
theorem winT_put {m : M} {X Y : Nat} (h : m Y X < m X Y) (i : Nat) : (if i = X then (cntS m X Y : Int) + 1 else winT m X Y i) = winT m X (Y + 1) i := by
  unfold winT
  by_cases e : i = X
  · subst e; rw [if_pos rfl, if_neg (by omega), if_pos rfl, cntS_yes h]; omega
  · rw [if_neg e, if_neg e, if_neg e]
theorem winT_no {m : M} {X Y : Nat} (h : ¬ m Y X < m X Y) (i : Nat) : winT m X Y i = winT m X (Y + 1) i := by
  unfold winT; rw [cntS_no h]
theorem winT_row {m : M} {X : Nat} (i : Nat) : winT m X 10 i = winT m (X + 1) 0 i := by
  unfold winT
  by_cases e : i < X
  · rw [if_pos e, if_pos (by omega)]
  · rw [if_neg e]
    by_cases e2 : i = X
    · subst e2; rw [if_pos rfl, if_pos (by omega)]
    · rw [if_neg e2, if_neg (by omega)]; split <;> simp [cntS]
theorem winT_all {m : M} {c : Nat} (h : rightS m c = true) (i : Nat) (hi : i < c) : winT m c 0 i = (cntS m i c : Int) := by
  have hc := rightS_iff.1 h
  unfold winT; rw [if_pos hi, cntS_right h (by omega) 10 (by omega) (Nat.le_refl _)]
end Go.Proofs.Ytleniljhacnikaa
