/-
  Permutations: turned in pairs, Turned in the reference.
-/
import Derived.Test.YtkmcgpaoekphmaaW8a
import Derived.Test.YtkmcgpaoekphmaaSpecA
namespace Go.Proofs.Ytkmcgpaoekphmaa
open Go.RowKit Go.Proofs
attribute [local go_sem] cell?_more cell?_alloc_some
end Go.Proofs.Ytkmcgpaoekphmaa
