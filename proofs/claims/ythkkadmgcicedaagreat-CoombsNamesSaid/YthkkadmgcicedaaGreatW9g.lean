/-
  The program's Twin.
-/
import Derived.Test.YthkkadmgcicedaaGreatW9f
import Derived.Deep.RegionHeld3
namespace Go.Proofs.YthkkadmgcicedaaGreat
open Go.RowKit Go.Proofs
attribute [local go_sem] cell?_more cell?_alloc_some cell?_setCell_far frozen?_alloc_some frozen?_more

/-- What Twin leaves: a profile whose rows are its own. -/
def TwinPost (w : World) (c k : Int) (l : List Row) (e : Ending) (w' : World) : Prop :=
  ∃ v, e = .returned (.agg #[.int .i64 c, .int .u8 k, v]) ∧ ORows w' w.heap.size v l ∧ Below w.heap.size w w'

end Go.Proofs.YthkkadmgcicedaaGreat
