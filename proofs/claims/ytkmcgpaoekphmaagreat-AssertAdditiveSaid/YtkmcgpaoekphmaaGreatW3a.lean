/-
  The reference's naturals: words of 32 bits; numbers of one word.
-/
import Derived.Test.YtkmcgpaoekphmaaGreatOwn
import Derived.Test.YtkmcgpaoekphmaaGreatW8a
import Derived.Deep.Cut
namespace Go.Proofs.YtkmcgpaoekphmaaGreat
open Go.RowKit Go.Proofs
attribute [local go_sem] cell?_more cell?_alloc_some cell?_setCell_far frozen?_alloc_some frozen?_more
/-- A number of one word. -/
def lm (a : Int) : List Int := if a = 0 then [] else [a]
theorem lm_zero : lm 0 = [] := rfl
end Go.Proofs.YtkmcgpaoekphmaaGreat
