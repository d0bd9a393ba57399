/-
  The program's whole, both, Sum.
-/
import Derived.Test.YthkkadmgcicedaaGreatW9j
import Derived.Test.YthkkadmgcicedaaGreatSpecA
namespace Go.Proofs.YthkkadmgcicedaaGreat
open Go.RowKit Go.Proofs
attribute [local go_sem] cell?_more cell?_alloc_some cell?_setCell_far frozen?_alloc_some frozen?_more

/-- A profile and an error are handed back. -/
def PPost (w : World) (r : PR) (e : Ending) (w' : World) : Prop :=
  ∃ A n cp, e = .returned (.tuple #[.agg #[.int .i64 r.c, .int .u8 r.k, .slice A n cp], .int .i64 r.err]) ∧ RRows w' A n cp r.l ∧ Below w.heap.size w w'


/-- What whole hands back: its argument, or an error. -/
def WholePost (w : World) (c k : Int) (A : Option Addr) (n cp : Nat) (l : List Row) (e : Ending) (w' : World) : Prop :=
  (if checkS c k l = 0 then e = .returned (.tuple #[.agg #[.int .i64 c, .int .u8 k, .slice A n cp], .int .i64 0]) else e = .returned (.tuple #[.agg #[.int .i64 0, .int .u8 0, .slice none 0 0], .int .i64 (checkS c k l)])) ∧ Below w.heap.size w w'

end Go.Proofs.YthkkadmgcicedaaGreat
