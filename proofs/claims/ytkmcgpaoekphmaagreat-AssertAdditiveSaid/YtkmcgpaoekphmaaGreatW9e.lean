/-
  The arguments of a count: Lot, Check, May.
  Outcomes that are equal are told equal: Same, rounds, Ties, All.
-/
import Derived.Test.YtkmcgpaoekphmaaGreatW11d
import Derived.Test.YtkmcgpaoekphmaaGreatW9a
import Derived.Test.YtkmcgpaoekphmaaGreatW8a
import Derived.Test.YtkmcgpaoekphmaaGreatSpecA
import Derived.Test.YtkmcgpaoekphmaaGreatApp2
namespace Go.Proofs.YtkmcgpaoekphmaaGreat
open Go.RowKit Go.Proofs Go.Shelf
attribute [local go_sem] cell?_more cell?_alloc_some cell?_setCell_far frozen?_alloc_some frozen?_more
end Go.Proofs.YtkmcgpaoekphmaaGreat

namespace Go.Proofs.YtkmcgpaoekphmaaGreat
open Go.RowKit Go.Proofs Go.Shelf
attribute [local go_sem] cell?_more cell?_alloc_some cell?_setCell_far frozen?_alloc_some frozen?_more
theorem ints_eq (A A' : Option Addr) (n c n' c' : Nat) (xs : List Int) (w : World) (h : RInts w A n c xs) (h' : RInts w A' n' c' xs) :
    Calls Tryz.prog 23 #[.slice A n c, .slice A' n' c'] w fun e w' => e = .returned (.bool true) ∧ Below w.heap.size w w' := by
  have := ints_any A A' n c n' c' xs xs w h h'
  rwa [beq_self_eq_true] at this
theorem below_allocN {w : World} {o : Obj} : Below w.heap.size w (w.alloc o) := (Below.refl _ _).alloc (Nat.le_refl _) _

end Go.Proofs.YtkmcgpaoekphmaaGreat

/-
  The number of ballots, and of those with marks: the program's count, Many, Marked; the reference's Many, Marked.
-/
namespace Go.Proofs.YtkmcgpaoekphmaaGreat
open Go.RowKit Go.Proofs
attribute [local go_sem] cell?_more cell?_alloc_some cell?_setCell_far frozen?_alloc_some frozen?_more
theorem ret_ii {a b a' b' : Int} (h1 : a = a') (h2 : b = b') : Ending.returned (.tuple #[.int .i64 a, .int .i64 b]) = .returned (.tuple #[.int .i64 a', .int .i64 b']) := by rw [h1, h2]

end Go.Proofs.YtkmcgpaoekphmaaGreat
