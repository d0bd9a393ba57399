/-
  Permutations: turned in pairs, Turned in the reference.
-/
import Derived.Test.YtkmcgpaoekphmaaGreatW8a
import Derived.Test.YtkmcgpaoekphmaaGreatSpecA
namespace Go.Proofs.YtkmcgpaoekphmaaGreat
open Go.RowKit Go.Proofs
attribute [local go_sem] cell?_more cell?_alloc_some

end Go.Proofs.YtkmcgpaoekphmaaGreat
