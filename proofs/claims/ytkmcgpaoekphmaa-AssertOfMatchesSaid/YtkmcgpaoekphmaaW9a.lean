/-
  The layer profile: all (a predicate over the rows), of, New, Check.
  The layer profile: of, New, Check.
  The layer profile: Check; the reference: Sums, Check.
  The reference's profiles: Sums, Check.
-/
import Derived.Test.YtkmcgpaoekphmaaW8e
import Derived.Test.YtkmcgpaoekphmaaSpecA
import Derived.StillTailTactics
import Derived.Deep.Cut
namespace Go.Proofs.Ytkmcgpaoekphmaa
open Go.RowKit Go.Proofs
attribute [local go_sem] cell?_more cell?_alloc_some
/-- What 'all' leaves: its answer; if it is yes, the invariant at the end; if it is no, what the predicate left. -/
def AllPost (n : Nat) (p : Nat → Bool) (Inv : Nat → World → Prop) (Fin : World → Prop) (e : Ending) (w' : World) : Prop :=
  e = .returned (.bool (allN n p)) ∧ (allN n p = true → Inv n w') ∧ (allN n p = false → Fin w')

/-- What the predicate number i leaves. -/
def OnePost (i : Nat) (p : Nat → Bool) (Inv : Nat → World → Prop) (Fin : World → Prop) (e : Ending) (w' : World) : Prop :=
  e = .returned (.bool (p i)) ∧ (p i = true → Inv (i + 1) w') ∧ (p i = false → Fin w')

end Go.Proofs.Ytkmcgpaoekphmaa

namespace Go.Proofs.Ytkmcgpaoekphmaa
open Go.RowKit Go.Proofs
attribute [local go_sem] cell?_more cell?_alloc_some cell?_setCell_far frozen?_alloc_some frozen?_more
/-- What New hands back. -/
def newV (c k : Int) : Value := if newErr c k = 0 then .agg #[.int .i64 c, .int .u8 k, .slice none 0 0] else .agg #[.int .i64 0, .int .u8 0, .slice none 0 0]

end Go.Proofs.Ytkmcgpaoekphmaa

namespace Go.Proofs.Ytkmcgpaoekphmaa
open Go.RowKit Go.Proofs
attribute [local go_sem] cell?_more cell?_alloc_some cell?_setCell_far frozen?_alloc_some frozen?_more
theorem capS_end {l : List Row} : 1000000 < capS l l.length ↔ 1000000 < totS l := by
  unfold capS
  rw [List.take_length]
  split <;> omega

end Go.Proofs.Ytkmcgpaoekphmaa

namespace Go.Proofs.Ytkmcgpaoekphmaa
open Go.RowKit Go.Proofs
attribute [local go_sem] cell?_more cell?_alloc_some cell?_setCell_far frozen?_alloc_some frozen?_more
end Go.Proofs.Ytkmcgpaoekphmaa
