/-
  The arguments of a count: Lot, Check, May.
  Outcomes that are equal are told equal: Same, rounds, Ties, All.
-/
import Derived.Test.YtoeajgjpakilgaaGreatW11d
import Derived.Test.YtoeajgjpakilgaaGreatW9a
import Derived.Test.YtoeajgjpakilgaaGreatW8a
import Derived.Test.YtoeajgjpakilgaaGreatSpecA
import Derived.Test.YtoeajgjpakilgaaGreatApp2
namespace Go.Proofs.YtoeajgjpakilgaaGreat
open Go.RowKit Go.Proofs Go.Shelf
attribute [local go_sem] cell?_more cell?_alloc_some cell?_setCell_far frozen?_alloc_some frozen?_more
end Go.Proofs.YtoeajgjpakilgaaGreat

namespace Go.Proofs.YtoeajgjpakilgaaGreat
open Go.RowKit Go.Proofs Go.Shelf
attribute [local go_sem] cell?_more cell?_alloc_some cell?_setCell_far frozen?_alloc_some frozen?_more
theorem ints_eq (A A' : Option Addr) (n c n' c' : Nat) (xs : List Int) (w : World) (h : RInts w A n c xs) (h' : RInts w A' n' c' xs) :
    Calls Tryz.prog 15 #[.slice A n c, .slice A' n' c'] w fun e w' => e = .returned (.bool true) ∧ Below w.heap.size w w' := by
  have := ints_any A A' n c n' c' xs xs w h h'
  rwa [beq_self_eq_true] at this
theorem below_allocN {w : World} {o : Obj} : Below w.heap.size w (w.alloc o) := (Below.refl _ _).alloc (Nat.le_refl _) _

end Go.Proofs.YtoeajgjpakilgaaGreat
