/-
  The reference's In, All, Alike, Least, Last, Without: of numbers.
  The reference's Alike, Least and Tied.
  Whole numbers as ratios: slices of them; a tie more.
-/
import Derived.Test.YtkmcgpaoekphmaaGreatAgg
import Derived.Test.YtkmcgpaoekphmaaGreatMem3
import Derived.Test.YtkmcgpaoekphmaaGreatW8i
import Derived.Test.YtkmcgpaoekphmaaGreatW3b
namespace Go.Proofs.YtkmcgpaoekphmaaGreat
open Go.RowKit Go.Proofs
attribute [local go_sem] cell?_more cell?_alloc_some cell?_setCell_far frozen?_alloc_some frozen?_more
theorem inL_nil (x : Int) : inL [] x = false := by unfold inL; simp

end Go.Proofs.YtkmcgpaoekphmaaGreat

namespace Go.Proofs.YtkmcgpaoekphmaaGreat
open Go.RowKit Go.Proofs
attribute [local go_sem] cell?_more cell?_alloc_some cell?_setCell_far frozen?_alloc_some frozen?_more
end Go.Proofs.YtkmcgpaoekphmaaGreat

namespace Go.Proofs.YtkmcgpaoekphmaaGreat
open Go.RowKit Go.Proofs
attribute [local go_sem] cell?_more cell?_alloc_some cell?_setCell_far frozen?_alloc_some frozen?_more
end Go.Proofs.YtkmcgpaoekphmaaGreat
