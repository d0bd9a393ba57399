/-
  No cell of these rows narrows 'for every input' (looked for: loops, veiled, ifaces, maps, wideKeys, modest, calm, conditions, laid).
  DERIVED. THE GIVEN ROWS OF THIS SEAT. 3 by the template 'for every input the law returns true; each argument reads behind the call as it read before'; 0 by the template 'total and deterministic' (their statements: YtkmcgpaoekphmaaTotals.lean).
  GIVEN WITH THE SEED: the statements are not yours to turn. If you find one false, say at which input.
  Laid BY PROGRAM, IN A SANDBOX (cutbox-rows.mjs): the forced cells as the released guide's own fill.sh prints them over the translation 11cd930566a0a927… (all of the seat's roots in one cut). By AI agents, Wed Nov 11 2026. No macro, syntax, notation, axiom, sorry.
-/
import Derived.Test.YtkmcgpaoekphmaaChecked
import GoSem.Claim
import GoSem.ClaimJoined
import GoSem.ClaimMapViews
import Derived.JoinedTies
import Derived.KernelRfl
namespace Go.Proofs.Ytkmcgpaoekphmaa
/- THE CELL 'sum', in the pinned program and in every row, IS THE sha256 OF THE DUMP (.gsa) THAT YtkmcgpaoekphmaaProg.lean LOADS. Nothing in Lean hashes anything: it is a label: what it is worth is what the hold of that sum in a sandbox is worth. -/
noncomputable def Try.pinned : Pinned := { name := "ytkmcgpaoekphmaa", sum := "11cd930566a0a9270e94b9dda78139b43a98a727fe52427fc3ad2d660bc37f43", checked := Try.checked }
namespace Rows
def none {H : Type} : Left H := { results := [], args := [] }

/-- 'suffragelaw41.AssertExamples': WHATEVER THE INPUT: true; the input reads as it did. -/
def assertExamplesSpec : ChangeSpec := { name := "assertExamples", fn := fun _ => fun
  | [] => { results := [.lit (.bool true)], args := [] }
  | _ => none }
def assertExamplesRow : OpenClaim := { program := "ytkmcgpaoekphmaa", sum := "11cd930566a0a9270e94b9dda78139b43a98a727fe52427fc3ad2d660bc37f43", func := "suffrage/suffragelaw41.AssertExamples", spec := "assertExamples", unfollowed := true, recurses := true, apart := false }
def AssertExamplesSaid : Prop := assertExamplesRow.holds Try.pinned (OpenSpec.ofChange assertExamplesSpec)

/-- ITS FALSE NEIGHBOUR: 'it returns false'. Refute it at one input. -/
def assertExamplesWrong : ChangeSpec := { name := "assertExamples", fn := fun _ => fun
  | [] => { results := [.lit (.bool false)], args := [] }
  | _ => none }
def AssertExamplesWrongFalsely : Prop := assertExamplesRow.holds Try.pinned (OpenSpec.ofChange assertExamplesWrong)

/-- 'suffragelaw41.AssertOfMatches': WHATEVER THE INPUT: true; the input reads as it did. -/
def assertOfMatchesSpec : ChangeSpec := { name := "assertOfMatches", fn := fun _ => fun
  | [d1, d2] => { results := [.lit (.bool true)], args := [d1, d2] }
  | _ => none }
def assertOfMatchesRow : OpenClaim := { program := "ytkmcgpaoekphmaa", sum := "11cd930566a0a9270e94b9dda78139b43a98a727fe52427fc3ad2d660bc37f43", func := "suffrage/suffragelaw41.AssertOfMatches", spec := "assertOfMatches", unfollowed := true, recurses := true, apart := false }
def AssertOfMatchesSaid : Prop := assertOfMatchesRow.holds Try.pinned (OpenSpec.ofChange assertOfMatchesSpec)

/-- ITS FALSE NEIGHBOUR: 'it returns false'. Refute it at one input. -/
def assertOfMatchesWrong : ChangeSpec := { name := "assertOfMatches", fn := fun _ => fun
  | [d1, d2] => { results := [.lit (.bool false)], args := [d1, d2] }
  | _ => none }
def AssertOfMatchesWrongFalsely : Prop := assertOfMatchesRow.holds Try.pinned (OpenSpec.ofChange assertOfMatchesWrong)

/-- 'suffragelaw41.AssertSwap': WHATEVER THE INPUT: true; the input reads as it did. -/
def assertSwapSpec : ChangeSpec := { name := "assertSwap", fn := fun _ => fun
  | [d1, d2, d3] => { results := [.lit (.bool true)], args := [d1, d2, d3] }
  | _ => none }
def assertSwapRow : OpenClaim := { program := "ytkmcgpaoekphmaa", sum := "11cd930566a0a9270e94b9dda78139b43a98a727fe52427fc3ad2d660bc37f43", func := "suffrage/suffragelaw41.AssertSwap", spec := "assertSwap", unfollowed := true, recurses := true, apart := false }
def AssertSwapSaid : Prop := assertSwapRow.holds Try.pinned (OpenSpec.ofChange assertSwapSpec)

/-- ITS FALSE NEIGHBOUR: 'it returns false'. Refute it at one input. -/
def assertSwapWrong : ChangeSpec := { name := "assertSwap", fn := fun _ => fun
  | [d1, d2, d3] => { results := [.lit (.bool false)], args := [d1, d2, d3] }
  | _ => none }
def AssertSwapWrongFalsely : Prop := assertSwapRow.holds Try.pinned (OpenSpec.ofChange assertSwapWrong)

/- THE SECOND FORM. 'bulk': how many values and letters a reading holds, each counted each time it is reached (what is shared counts as often as it is met; a slice's spare places count too). A statement '..UptoSaid' is the law's where the arguments, and the package variables that the reading takes, are together of bulk at most 1048576: NARROWER than '..Said'. Prove '..Said' where nothing that the law and all that it calls make is longer than what came in: it says more and counts as full. Else prove '..UptoSaid'. A law counts once. -/
mutual
def uptoBulk {H : Type} : DataW H → Nat
  | .lit (.string bytes) => bytes.length + 1
  | .lit _ => 1
  | .nil => 1
  | .ptr d => uptoBulk d + 1
  | .slice elems spare => uptoBulkAll elems + uptoBulkAll spare + 1
  | .agg parts => uptoBulkAll parts + 1
  | .iface _ d => uptoBulk d + 1
  | .map entries => uptoBulkEntries entries + 1
  | .held _ => 1
def uptoBulkAll {H : Type} : List (DataW H) → Nat
  | [] => 0
  | d :: r => uptoBulk d + uptoBulkAll r
def uptoBulkEntries {H : Type} : List (Lit × DataW H) → Nat
  | [] => 0
  | x :: r => uptoBulkEntry x + uptoBulkEntries r
def uptoBulkEntry {H : Type} : Lit × DataW H → Nat
  | (.string bytes, d) => bytes.length + uptoBulk d + 1
  | (_, d) => uptoBulk d + 1
 end
def uptoSmall : (H : Type) → List (DataW H) → Bool := fun _ ds => decide (uptoBulkAll ds ≤ 1048576)
def OpenSpec.upto (s : _root_.Go.ChangeSpec) : _root_.Go.OpenSpec := { _root_.Go.OpenSpec.ofChange s with cond := some uptoSmall }

/-- 'suffragelaw41.AssertExamples', WHERE WHAT IT READS IS OF BULK AT MOST 1048576: true; the input reads as it did. -/
def assertExamplesUptoRow : OpenClaim := { program := "ytkmcgpaoekphmaa", sum := "11cd930566a0a9270e94b9dda78139b43a98a727fe52427fc3ad2d660bc37f43", func := "suffrage/suffragelaw41.AssertExamples", spec := "assertExamples", unfollowed := true, recurses := true, apart := false, narrowed := true }
def AssertExamplesUptoSaid : Prop := assertExamplesUptoRow.holds Try.pinned (OpenSpec.upto assertExamplesSpec)

/-- 'suffragelaw41.AssertOfMatches', WHERE WHAT IT READS IS OF BULK AT MOST 1048576: true; the input reads as it did. -/
def assertOfMatchesUptoRow : OpenClaim := { program := "ytkmcgpaoekphmaa", sum := "11cd930566a0a9270e94b9dda78139b43a98a727fe52427fc3ad2d660bc37f43", func := "suffrage/suffragelaw41.AssertOfMatches", spec := "assertOfMatches", unfollowed := true, recurses := true, apart := false, narrowed := true }
def AssertOfMatchesUptoSaid : Prop := assertOfMatchesUptoRow.holds Try.pinned (OpenSpec.upto assertOfMatchesSpec)

/-- 'suffragelaw41.AssertSwap', WHERE WHAT IT READS IS OF BULK AT MOST 1048576: true; the input reads as it did. -/
def assertSwapUptoRow : OpenClaim := { program := "ytkmcgpaoekphmaa", sum := "11cd930566a0a9270e94b9dda78139b43a98a727fe52427fc3ad2d660bc37f43", func := "suffrage/suffragelaw41.AssertSwap", spec := "assertSwap", unfollowed := true, recurses := true, apart := false, narrowed := true }
def AssertSwapUptoSaid : Prop := assertSwapUptoRow.holds Try.pinned (OpenSpec.upto assertSwapSpec)

end Rows
end Go.Proofs.Ytkmcgpaoekphmaa
