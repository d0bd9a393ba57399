/-
  The layer pairs: Turn.
  The layer pairs: Right.
  The reference's matrices: Right.
  The reference's Turn; Margin, twice; Beats.
  The reference's Margin; Beats; Sum.
-/
import Derived.Test.YtiebfalodelclaaGreatW9a
import Derived.Test.YtiebfalodelclaaGreatMat
import Derived.Test.YtiebfalodelclaaGreatSpecA
namespace Go.Proofs.YtiebfalodelclaaGreat
open Go.RowKit Go.Proofs
attribute [local go_sem] cell?_more cell?_alloc_some cell?_setCell_far frozen?_alloc_some frozen?_more
/-- The transpose as it is being made: rows of the source before X, and of row X the columns before Y. -/
def trS (m : M) (X Y : Nat) : M := fun a b => if b < X ∨ (b = X ∧ a < Y) then m b a else 0

end Go.Proofs.YtiebfalodelclaaGreat

namespace Go.Proofs.YtiebfalodelclaaGreat
open Go.RowKit Go.Proofs
attribute [local go_sem] cell?_more cell?_alloc_some cell?_setCell_far frozen?_alloc_some frozen?_more
/-- (a, b) comes before (X, Y) in the order of the rows. -/
def bef (X Y a b : Nat) : Prop := a < X ∨ (a = X ∧ b < Y)
instance (X Y a b : Nat) : Decidable (bef X Y a b) := by unfold bef; infer_instance

/-- 'only' as it is being made. -/
def onlyT (m : M) (c : Int) (X Y : Nat) : M := fun a b => if bef X Y a b ∧ offP c a b then 0 else m a b

theorem onlyT_off {m : M} {c : Int} {X Y : Nat} (h : offP c X Y) (a b : Nat) : (if a = X ∧ b = Y then 0 else onlyT m c X Y a b) = onlyT m c X (Y + 1) a b := by
  unfold onlyT bef
  by_cases e : a = X ∧ b = Y
  · obtain ⟨rfl, rfl⟩ := e
    rw [if_pos ⟨rfl, rfl⟩, if_pos ⟨by omega, h⟩]
  · rw [if_neg e]
    by_cases e2 : (a < X ∨ (a = X ∧ b < Y)) ∧ offP c a b
    · rw [if_pos e2, if_pos ⟨by omega, e2.2⟩]
    · rw [if_neg e2, if_neg (fun hh => e2 ⟨by omega, hh.2⟩)]
theorem onlyT_on {m : M} {c : Int} {X Y : Nat} (h : ¬ offP c X Y) (a b : Nat) : onlyT m c X Y a b = onlyT m c X (Y + 1) a b := by
  unfold onlyT bef
  by_cases e : a = X ∧ b = Y
  · obtain ⟨rfl, rfl⟩ := e
    rw [if_neg (fun hh => h hh.2), if_neg (fun hh => h hh.2)]
  · by_cases e2 : (a < X ∨ (a = X ∧ b < Y)) ∧ offP c a b
    · rw [if_pos e2, if_pos ⟨by omega, e2.2⟩]
    · rw [if_neg e2, if_neg (fun hh => e2 ⟨by omega, hh.2⟩)]

theorem bef_succ {m : M} {X Y : Nat} (h : Hid (∀ a b, a < 10 → b < 10 → bef X Y a b → posP m a b)) (hp : Hid (posP m X Y)) : Hid (∀ a b, a < 10 → b < 10 → bef X (Y + 1) a b → posP m a b) :=
  fun a b ha hb hh => by
    by_cases e : a = X ∧ b = Y
    · obtain ⟨rfl, rfl⟩ := e; exact hp.out
    · exact h.out a b ha hb (by unfold bef at *; omega)
theorem bef_row {m : M} {X : Nat} (h : Hid (∀ a b, a < 10 → b < 10 → bef X 10 a b → posP m a b)) : Hid (∀ a b, a < 10 → b < 10 → bef (X + 1) 0 a b → posP m a b) :=
  fun a b ha hb hh => h.out a b ha hb (by unfold bef at *; omega)
theorem onlyT_row {m : M} {c : Int} {X : Nat} (a b : Nat) (hb : b < 10) : onlyT m c X 10 a b = onlyT m c (X + 1) 0 a b := by
  unfold onlyT bef
  by_cases e : (a < X ∨ (a = X ∧ b < 10)) ∧ offP c a b
  · rw [if_pos e, if_pos ⟨by omega, e.2⟩]
  · rw [if_neg e, if_neg (fun hh => e ⟨by omega, hh.2⟩)]

end Go.Proofs.YtiebfalodelclaaGreat

namespace Go.Proofs.YtiebfalodelclaaGreat
open Go.RowKit Go.Proofs
attribute [local go_sem] cell?_more cell?_alloc_some cell?_setCell_far frozen?_alloc_some frozen?_more
end Go.Proofs.YtiebfalodelclaaGreat

namespace Go.Proofs.YtiebfalodelclaaGreat
open Go.RowKit Go.Proofs
attribute [local go_sem] cell?_more cell?_alloc_some cell?_setCell_far frozen?_alloc_some frozen?_more
/-- A matrix g as it is being made, row by row: 0 from (X, Y) on. -/
def upTo (g : M) (X Y : Nat) : M := fun a b => if a < X ∨ (a = X ∧ b < Y) then g a b else 0

theorem upTo_zero (g : M) (a b : Nat) : 0 = upTo g 0 0 a b := by unfold upTo; rw [if_neg (by omega)]
theorem upTo_put {g : M} {X Y : Nat} (a b : Nat) : (if a = X ∧ b = Y then g X Y else upTo g X Y a b) = upTo g X (Y + 1) a b := by
  unfold upTo
  by_cases e : a = X ∧ b = Y
  · obtain ⟨rfl, rfl⟩ := e; rw [if_pos ⟨rfl, rfl⟩, if_pos (by omega)]
  · rw [if_neg e]
    by_cases e2 : a < X ∨ (a = X ∧ b < Y)
    · rw [if_pos e2, if_pos (by omega)]
    · rw [if_neg e2, if_neg (by omega)]
theorem upTo_row {g : M} {X : Nat} (a b : Nat) (hb : b < 10) : upTo g X 10 a b = upTo g (X + 1) 0 a b := by
  unfold upTo
  by_cases e2 : a < X ∨ (a = X ∧ b < 10)
  · rw [if_pos e2, if_pos (by omega)]
  · rw [if_neg e2, if_neg (by omega)]
theorem upTo_all {g : M} (a b : Nat) (ha : a < 10) : upTo g 10 0 a b = g a b := by unfold upTo; rw [if_pos (by omega)]

end Go.Proofs.YtiebfalodelclaaGreat

namespace Go.Proofs.YtiebfalodelclaaGreat
open Go.RowKit Go.Proofs
attribute [local go_sem] cell?_more cell?_alloc_some cell?_setCell_far frozen?_alloc_some frozen?_more
end Go.Proofs.YtiebfalodelclaaGreat
