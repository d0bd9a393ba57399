/-
  The arguments of a count: Lot, Check, May.
  Outcomes that are equal are told equal: Same, rounds, Ties, All.
-/
import Derived.Test.YtkmcgpaoekphmaaGreatW11d
import Derived.Test.YtkmcgpaoekphmaaGreatW9a
import Derived.Test.YtkmcgpaoekphmaaGreatW8e
import Derived.Test.YtkmcgpaoekphmaaGreatApp2
import Derived.Test.YtkmcgpaoekphmaaGreatW8a
namespace Go.Proofs.YtkmcgpaoekphmaaGreat
open Go.RowKit Go.Proofs Go.Shelf
attribute [local go_sem] cell?_more cell?_alloc_some cell?_setCell_far frozen?_alloc_some frozen?_more
/-- Is the lot one of c candidates? -/
def lotS (lot : List Int) (c : Int) : Bool := decide ((lot.length : Int) = c) && turnedS lot
/-- The error of a count. -/
def mayS (c k : Int) (l : List Row) (kind seats most : Int) (lot : List Int) : Int :=
  if checkS c k l ≠ 0 ∨ k ≠ kind then 8 else if seats < 1 ∨ most < seats ∨ 10 < seats ∨ lotS lot c = false then 2 else 0

theorem may_bad {c k : Int} {l : List Row} {kind seats most : Int} {lot : List Int} (h : checkS c k l ≠ 0 ∨ k ≠ kind) : mayS c k l kind seats most lot = 8 := by unfold mayS; rw [if_pos h]
theorem may_arg {c k : Int} {l : List Row} {kind seats most : Int} {lot : List Int} (h : checkS c k l = 0) (hk : k = kind) (h2 : seats < 1 ∨ most < seats ∨ 10 < seats ∨ lotS lot c = false) : mayS c k l kind seats most lot = 2 := by unfold mayS; rw [if_neg (fun h' => h'.elim (fun h'' => h'' h) (fun h'' => h'' hk)), if_pos h2]
theorem may_ok {c k : Int} {l : List Row} {kind seats most : Int} {lot : List Int} (h : checkS c k l = 0) (hk : k = kind) (h2 : ¬ (seats < 1 ∨ most < seats ∨ 10 < seats ∨ lotS lot c = false)) : mayS c k l kind seats most lot = 0 := by unfold mayS; rw [if_neg (fun h' => h'.elim (fun h'' => h'' h) (fun h'' => h'' hk)), if_neg h2]

end Go.Proofs.YtkmcgpaoekphmaaGreat

namespace Go.Proofs.YtkmcgpaoekphmaaGreat
open Go.RowKit Go.Proofs Go.Shelf
attribute [local go_sem] cell?_more cell?_alloc_some cell?_setCell_far frozen?_alloc_some frozen?_more
theorem ints_eq (A A' : Option Addr) (n c n' c' : Nat) (xs : List Int) (w : World) (h : RInts w A n c xs) (h' : RInts w A' n' c' xs) :
    Calls Tryz.prog 23 #[.slice A n c, .slice A' n' c'] w fun e w' => e = .returned (.bool true) ∧ Below w.heap.size w w' := by
  have := ints_any A A' n c n' c' xs xs w h h'
  rwa [beq_self_eq_true] at this
theorem below_allocN {w : World} {o : Obj} : Below w.heap.size w (w.alloc o) := (Below.refl _ _).alloc (Nat.le_refl _) _

end Go.Proofs.YtkmcgpaoekphmaaGreat
