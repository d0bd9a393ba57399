/-
  Renaming a matrix; wins: in plain terms. No program is named here.
-/
import Derived.Test.YtleniljhacnikaaSpec10b
import Derived.Test.YtleniljhacnikaaPerm
namespace Go.Proofs.Ytleniljhacnikaa

def idx (p : List Int) (a : Nat) : Nat := p.idxOf (a : Int)

theorem idx_eq {p : List Int} (hn : p.Nodup) {X v : Nat} (h : p[X]? = some (v : Int)) (a : Nat) : idx p a = X ↔ a = v := by
  obtain ⟨hX, hv⟩ := List.getElem?_eq_some_iff.1 h
  unfold idx
  constructor
  · intro e
    have h1 : p.idxOf (a : Int) < p.length := by omega
    have h2 := List.getElem_idxOf h1
    simp only [e] at h2
    omega
  · rintro rfl
    rw [← hv]
    exact hn.idxOf_getElem X hX

/-- The renamed matrix as it is being made. -/
def renT (m : M) (p : List Int) (X Y : Nat) : M := fun a b =>
  if idx p a < p.length ∧ idx p b < p.length ∧ (idx p a < X ∨ (idx p a = X ∧ idx p b < Y)) then m (idx p a) (idx p b) else 0
def renA (m : M) (p : List Int) : M := fun a b => if idx p a < p.length ∧ idx p b < p.length then m (idx p a) (idx p b) else 0
def renErr (m : M) (p : List Int) : Int := if turnedS p = true then (if rightS m p.length = true then 0 else 8) else 2
def renM (m : M) (p : List Int) : M := if renErr m p = 0 then renA m p else fun _ _ => 0

theorem renT_zero (m : M) (p : List Int) (a b : Nat) : 0 = renT m p 0 0 a b := by unfold renT; rw [if_neg (by omega)]
theorem renT_put {m : M} {p : List Int} (hn : p.Nodup) {X Y u v : Nat} (hu : p[X]? = some (u : Int)) (hv : p[Y]? = some (v : Int)) (a b : Nat) :
    (if a = u ∧ b = v then m X Y else renT m p X Y a b) = renT m p X (Y + 1) a b := by
  have h1 := idx_eq hn hu a
  have h2 := idx_eq hn hv b
  have hX := (List.getElem?_eq_some_iff.1 hu).1
  have hY := (List.getElem?_eq_some_iff.1 hv).1
  unfold renT
  by_cases e : a = u ∧ b = v
  · have e1 := h1.2 e.1
    have e2 := h2.2 e.2
    rw [if_pos e, if_pos (by omega), e1, e2]
  · rw [if_neg e]
    by_cases e2 : idx p a < p.length ∧ idx p b < p.length ∧ (idx p a < X ∨ (idx p a = X ∧ idx p b < Y))
    · rw [if_pos e2, if_pos (by omega)]
    · rw [if_neg e2, if_neg (by omega)]
theorem renT_row {m : M} {p : List Int} {X : Nat} (a b : Nat) : renT m p X p.length a b = renT m p (X + 1) 0 a b := by
  unfold renT
  by_cases e2 : idx p a < p.length ∧ idx p b < p.length ∧ (idx p a < X ∨ (idx p a = X ∧ idx p b < p.length))
  · rw [if_pos e2, if_pos (by omega)]
  · rw [if_neg e2, if_neg (by omega)]
theorem renT_all {m : M} {p : List Int} (a b : Nat) : renT m p p.length 0 a b = renA m p a b := by
  unfold renT renA
  by_cases e2 : idx p a < p.length ∧ idx p b < p.length
  · rw [if_pos e2, if_pos (by omega)]
  · rw [if_neg e2, if_neg (by omega)]

/-- How many candidates one beats. -/
def winsOf (m : M) (c x : Nat) : Nat := ((List.range c).filter fun y => decide (m y x < m x y)).length
def winsS (m : M) (c : Int) : List Int := (List.range c.toNat).map fun x => (winsOf m c.toNat x : Int)
def winsErr (m : M) (c : Int) : Int := if 1 ≤ c ∧ c ≤ 10 then (if rightS m c = true then 0 else 8) else 2
end Go.Proofs.Ytleniljhacnikaa
