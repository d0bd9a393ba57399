/-
  Permutations: turned in pairs, Turned in the reference.
-/
import Derived.Test.YtkhclcdmehjfkaaW8a
import Derived.Test.YtkhclcdmehjfkaaSpecA
namespace Go.Proofs.Ytkhclcdmehjfkaa
open Go.RowKit Go.Proofs
attribute [local go_sem] cell?_more cell?_alloc_some
end Go.Proofs.Ytkhclcdmehjfkaa
