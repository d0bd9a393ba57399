/-
  The program's Rename, of a profile, where nothing is wrong.
-/
import Derived.Test.YtiebfalodelclaaW8k
namespace Go.Proofs.Ytiebfalodelclaa
open Go.RowKit Go.Proofs Go.Shelf
attribute [local go_sem] cell?_more cell?_alloc_some cell?_setCell_far frozen?_alloc_some frozen?_more
end Go.Proofs.Ytiebfalodelclaa
