/-
  The library's IndexFunc, DeleteFunc and MinFunc at any closure.
-/
import Derived.Test.YtkmcgpaoekphmaaGreatW8f
namespace Go.Proofs.YtkmcgpaoekphmaaGreat
open Go.RowKit Go.Proofs Go.Shelf
attribute [local go_sem] cell?_more cell?_alloc_some cell?_setCell_far frozen?_alloc_some frozen?_more
end Go.Proofs.YtkmcgpaoekphmaaGreat
