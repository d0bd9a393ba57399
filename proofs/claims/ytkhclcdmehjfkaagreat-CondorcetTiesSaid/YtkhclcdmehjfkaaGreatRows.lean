/-
  No cell of these rows narrows 'for every input' (looked for: loops, veiled, ifaces, maps, wideKeys, modest, calm, conditions, laid).
  DERIVED. THE GIVEN ROWS OF THIS SEAT. 11 by the template 'for every input the law returns true; each argument reads behind the call as it read before'; 0 by the template 'total and deterministic' (their statements: YtkhclcdmehjfkaaGreatTotals.lean).
  GIVEN WITH THE SEED: the statements are not yours to turn. If you find one false, say at which input.
  Laid BY PROGRAM, IN A SANDBOX (cutbox-rows.mjs): the forced cells as the released guide's own fill.sh prints them over the translation 0cb0d85f48dc0110… (all of the seat's roots in one cut). By AI agents, Wed Nov 11 2026. No macro, syntax, notation, axiom, sorry.
-/
import Derived.Test.YtkhclcdmehjfkaaGreatChecked
import GoSem.Claim
import GoSem.ClaimJoined
import GoSem.ClaimMapViews
import Derived.JoinedTies
import Derived.KernelRfl
namespace Go.Proofs.YtkhclcdmehjfkaaGreat
/- THE CELL 'sum', in the pinned program and in every row, IS THE sha256 OF THE DUMP (.gsa) THAT YtkhclcdmehjfkaaGreatProg.lean LOADS. Nothing in Lean hashes anything: it is a label: what it is worth is what the hold of that sum in a sandbox is worth. -/
noncomputable def Tryz.pinned : Pinned := { name := "ytkhclcdmehjfkaagreat", sum := "0cb0d85f48dc011093bb4878eba5ac86b9eef1af9387a86a1d7ae3ec7872e732", checked := Tryz.checked }
namespace Rows
def none {H : Type} : Left H := { results := [], args := [] }

/-- 'suffragelaw13.PathsTell': WHATEVER THE INPUT: true; the input reads as it did. -/
def pathsTellSpec : ChangeSpec := { name := "pathsTell", fn := fun _ => fun
  | [d1, d2, d3, d4, d5, d6] => { results := [.lit (.bool true)], args := [d1, d2, d3, d4, d5, d6] }
  | _ => none }
def pathsTellRow : OpenClaim := { program := "ytkhclcdmehjfkaagreat", sum := "0cb0d85f48dc011093bb4878eba5ac86b9eef1af9387a86a1d7ae3ec7872e732", func := "suffrage/suffragelaw13.PathsTell", spec := "pathsTell", unfollowed := true, recurses := true, apart := false }
def PathsTellSaid : Prop := pathsTellRow.holds Tryz.pinned (OpenSpec.ofChange pathsTellSpec)

/-- ITS FALSE NEIGHBOUR: 'it returns false'. Refute it at one input. -/
def pathsTellWrong : ChangeSpec := { name := "pathsTell", fn := fun _ => fun
  | [d1, d2, d3, d4, d5, d6] => { results := [.lit (.bool false)], args := [d1, d2, d3, d4, d5, d6] }
  | _ => none }
def PathsTellWrongFalsely : Prop := pathsTellRow.holds Tryz.pinned (OpenSpec.ofChange pathsTellWrong)

/-- 'suffragelaw13.PathsTies': WHATEVER THE INPUT: true; the input reads as it did. -/
def pathsTiesSpec : ChangeSpec := { name := "pathsTies", fn := fun _ => fun
  | [d1, d2] => { results := [.lit (.bool true)], args := [d1, d2] }
  | _ => none }
def pathsTiesRow : OpenClaim := { program := "ytkhclcdmehjfkaagreat", sum := "0cb0d85f48dc011093bb4878eba5ac86b9eef1af9387a86a1d7ae3ec7872e732", func := "suffrage/suffragelaw13.PathsTies", spec := "pathsTies", unfollowed := true, recurses := true, apart := false }
def PathsTiesSaid : Prop := pathsTiesRow.holds Tryz.pinned (OpenSpec.ofChange pathsTiesSpec)

/-- ITS FALSE NEIGHBOUR: 'it returns false'. Refute it at one input. -/
def pathsTiesWrong : ChangeSpec := { name := "pathsTies", fn := fun _ => fun
  | [d1, d2] => { results := [.lit (.bool false)], args := [d1, d2] }
  | _ => none }
def PathsTiesWrongFalsely : Prop := pathsTiesRow.holds Tryz.pinned (OpenSpec.ofChange pathsTiesWrong)

/-- 'suffragelaw13.PathsWinner': WHATEVER THE INPUT: true; the input reads as it did. -/
def pathsWinnerSpec : ChangeSpec := { name := "pathsWinner", fn := fun _ => fun
  | [d1, d2] => { results := [.lit (.bool true)], args := [d1, d2] }
  | _ => none }
def pathsWinnerRow : OpenClaim := { program := "ytkhclcdmehjfkaagreat", sum := "0cb0d85f48dc011093bb4878eba5ac86b9eef1af9387a86a1d7ae3ec7872e732", func := "suffrage/suffragelaw13.PathsWinner", spec := "pathsWinner", unfollowed := true, recurses := true, apart := false }
def PathsWinnerSaid : Prop := pathsWinnerRow.holds Tryz.pinned (OpenSpec.ofChange pathsWinnerSpec)

/-- ITS FALSE NEIGHBOUR: 'it returns false'. Refute it at one input. -/
def pathsWinnerWrong : ChangeSpec := { name := "pathsWinner", fn := fun _ => fun
  | [d1, d2] => { results := [.lit (.bool false)], args := [d1, d2] }
  | _ => none }
def PathsWinnerWrongFalsely : Prop := pathsWinnerRow.holds Tryz.pinned (OpenSpec.ofChange pathsWinnerWrong)

/-- 'suffragelaw13.PathsNames': WHATEVER THE INPUT: true; the input reads as it did. -/
def pathsNamesSpec : ChangeSpec := { name := "pathsNames", fn := fun _ => fun
  | [d1, d2, d3] => { results := [.lit (.bool true)], args := [d1, d2, d3] }
  | _ => none }
def pathsNamesRow : OpenClaim := { program := "ytkhclcdmehjfkaagreat", sum := "0cb0d85f48dc011093bb4878eba5ac86b9eef1af9387a86a1d7ae3ec7872e732", func := "suffrage/suffragelaw13.PathsNames", spec := "pathsNames", inPlace := ["slices.overlaps[suffrage/api.Row]"], unfollowed := true, recurses := true, apart := false }
def PathsNamesSaid : Prop := pathsNamesRow.holds Tryz.pinned (OpenSpec.ofChange pathsNamesSpec)

/-- ITS FALSE NEIGHBOUR: 'it returns false'. Refute it at one input. -/
def pathsNamesWrong : ChangeSpec := { name := "pathsNames", fn := fun _ => fun
  | [d1, d2, d3] => { results := [.lit (.bool false)], args := [d1, d2, d3] }
  | _ => none }
def PathsNamesWrongFalsely : Prop := pathsNamesRow.holds Tryz.pinned (OpenSpec.ofChange pathsNamesWrong)

/-- 'suffragelaw12.CondorcetTells': WHATEVER THE INPUT: true; the input reads as it did. -/
def condorcetTellsSpec : ChangeSpec := { name := "condorcetTells", fn := fun _ => fun
  | [d1, d2, d3] => { results := [.lit (.bool true)], args := [d1, d2, d3] }
  | _ => none }
def condorcetTellsRow : OpenClaim := { program := "ytkhclcdmehjfkaagreat", sum := "0cb0d85f48dc011093bb4878eba5ac86b9eef1af9387a86a1d7ae3ec7872e732", func := "suffrage/suffragelaw12.CondorcetTells", spec := "condorcetTells", unfollowed := true, recurses := true, named := ["math/bits.overflowError"], apart := false }
def CondorcetTellsSaid : Prop := condorcetTellsRow.holds Tryz.pinned (OpenSpec.ofChange condorcetTellsSpec)

/-- ITS FALSE NEIGHBOUR: 'it returns false'. Refute it at one input. -/
def condorcetTellsWrong : ChangeSpec := { name := "condorcetTells", fn := fun _ => fun
  | [d1, d2, d3] => { results := [.lit (.bool false)], args := [d1, d2, d3] }
  | _ => none }
def CondorcetTellsWrongFalsely : Prop := condorcetTellsRow.holds Tryz.pinned (OpenSpec.ofChange condorcetTellsWrong)

/-- 'suffragelaw12.CondorcetSets': WHATEVER THE INPUT: true; the input reads as it did. -/
def condorcetSetsSpec : ChangeSpec := { name := "condorcetSets", fn := fun _ => fun
  | [d1, d2] => { results := [.lit (.bool true)], args := [d1, d2] }
  | _ => none }
def condorcetSetsRow : OpenClaim := { program := "ytkhclcdmehjfkaagreat", sum := "0cb0d85f48dc011093bb4878eba5ac86b9eef1af9387a86a1d7ae3ec7872e732", func := "suffrage/suffragelaw12.CondorcetSets", spec := "condorcetSets", unfollowed := true, recurses := true, named := ["math/bits.overflowError"], apart := false }
def CondorcetSetsSaid : Prop := condorcetSetsRow.holds Tryz.pinned (OpenSpec.ofChange condorcetSetsSpec)

/-- ITS FALSE NEIGHBOUR: 'it returns false'. Refute it at one input. -/
def condorcetSetsWrong : ChangeSpec := { name := "condorcetSets", fn := fun _ => fun
  | [d1, d2] => { results := [.lit (.bool false)], args := [d1, d2] }
  | _ => none }
def CondorcetSetsWrongFalsely : Prop := condorcetSetsRow.holds Tryz.pinned (OpenSpec.ofChange condorcetSetsWrong)

/-- 'suffragelaw12.CondorcetWinner': WHATEVER THE INPUT: true; the input reads as it did. -/
def condorcetWinnerSpec : ChangeSpec := { name := "condorcetWinner", fn := fun _ => fun
  | [d1, d2] => { results := [.lit (.bool true)], args := [d1, d2] }
  | _ => none }
def condorcetWinnerRow : OpenClaim := { program := "ytkhclcdmehjfkaagreat", sum := "0cb0d85f48dc011093bb4878eba5ac86b9eef1af9387a86a1d7ae3ec7872e732", func := "suffrage/suffragelaw12.CondorcetWinner", spec := "condorcetWinner", unfollowed := true, recurses := true, named := ["math/bits.overflowError"], apart := false }
def CondorcetWinnerSaid : Prop := condorcetWinnerRow.holds Tryz.pinned (OpenSpec.ofChange condorcetWinnerSpec)

/-- ITS FALSE NEIGHBOUR: 'it returns false'. Refute it at one input. -/
def condorcetWinnerWrong : ChangeSpec := { name := "condorcetWinner", fn := fun _ => fun
  | [d1, d2] => { results := [.lit (.bool false)], args := [d1, d2] }
  | _ => none }
def CondorcetWinnerWrongFalsely : Prop := condorcetWinnerRow.holds Tryz.pinned (OpenSpec.ofChange condorcetWinnerWrong)

/-- 'suffragelaw12.CondorcetTies': WHATEVER THE INPUT: true; the input reads as it did. -/
def condorcetTiesSpec : ChangeSpec := { name := "condorcetTies", fn := fun _ => fun
  | [d1, d2] => { results := [.lit (.bool true)], args := [d1, d2] }
  | _ => none }
def condorcetTiesRow : OpenClaim := { program := "ytkhclcdmehjfkaagreat", sum := "0cb0d85f48dc011093bb4878eba5ac86b9eef1af9387a86a1d7ae3ec7872e732", func := "suffrage/suffragelaw12.CondorcetTies", spec := "condorcetTies", unfollowed := true, recurses := true, named := ["math/bits.overflowError"], apart := false }
def CondorcetTiesSaid : Prop := condorcetTiesRow.holds Tryz.pinned (OpenSpec.ofChange condorcetTiesSpec)

/-- ITS FALSE NEIGHBOUR: 'it returns false'. Refute it at one input. -/
def condorcetTiesWrong : ChangeSpec := { name := "condorcetTies", fn := fun _ => fun
  | [d1, d2] => { results := [.lit (.bool false)], args := [d1, d2] }
  | _ => none }
def CondorcetTiesWrongFalsely : Prop := condorcetTiesRow.holds Tryz.pinned (OpenSpec.ofChange condorcetTiesWrong)

/-- 'suffragelaw12.CondorcetSmith': WHATEVER THE INPUT: true; the input reads as it did. -/
def condorcetSmithSpec : ChangeSpec := { name := "condorcetSmith", fn := fun _ => fun
  | [d1, d2] => { results := [.lit (.bool true)], args := [d1, d2] }
  | _ => none }
def condorcetSmithRow : OpenClaim := { program := "ytkhclcdmehjfkaagreat", sum := "0cb0d85f48dc011093bb4878eba5ac86b9eef1af9387a86a1d7ae3ec7872e732", func := "suffrage/suffragelaw12.CondorcetSmith", spec := "condorcetSmith", unfollowed := true, recurses := true, named := ["math/bits.overflowError"], apart := false }
def CondorcetSmithSaid : Prop := condorcetSmithRow.holds Tryz.pinned (OpenSpec.ofChange condorcetSmithSpec)

/-- ITS FALSE NEIGHBOUR: 'it returns false'. Refute it at one input. -/
def condorcetSmithWrong : ChangeSpec := { name := "condorcetSmith", fn := fun _ => fun
  | [d1, d2] => { results := [.lit (.bool false)], args := [d1, d2] }
  | _ => none }
def CondorcetSmithWrongFalsely : Prop := condorcetSmithRow.holds Tryz.pinned (OpenSpec.ofChange condorcetSmithWrong)

/-- 'suffragelaw12.CondorcetLoser': WHATEVER THE INPUT: true; the input reads as it did. -/
def condorcetLoserSpec : ChangeSpec := { name := "condorcetLoser", fn := fun _ => fun
  | [d1, d2] => { results := [.lit (.bool true)], args := [d1, d2] }
  | _ => none }
def condorcetLoserRow : OpenClaim := { program := "ytkhclcdmehjfkaagreat", sum := "0cb0d85f48dc011093bb4878eba5ac86b9eef1af9387a86a1d7ae3ec7872e732", func := "suffrage/suffragelaw12.CondorcetLoser", spec := "condorcetLoser", unfollowed := true, recurses := true, named := ["math/bits.overflowError"], apart := false }
def CondorcetLoserSaid : Prop := condorcetLoserRow.holds Tryz.pinned (OpenSpec.ofChange condorcetLoserSpec)

/-- ITS FALSE NEIGHBOUR: 'it returns false'. Refute it at one input. -/
def condorcetLoserWrong : ChangeSpec := { name := "condorcetLoser", fn := fun _ => fun
  | [d1, d2] => { results := [.lit (.bool false)], args := [d1, d2] }
  | _ => none }
def CondorcetLoserWrongFalsely : Prop := condorcetLoserRow.holds Tryz.pinned (OpenSpec.ofChange condorcetLoserWrong)

/-- 'suffragelaw12.CondorcetNames': WHATEVER THE INPUT: true; the input reads as it did. -/
def condorcetNamesSpec : ChangeSpec := { name := "condorcetNames", fn := fun _ => fun
  | [d1, d2, d3] => { results := [.lit (.bool true)], args := [d1, d2, d3] }
  | _ => none }
def condorcetNamesRow : OpenClaim := { program := "ytkhclcdmehjfkaagreat", sum := "0cb0d85f48dc011093bb4878eba5ac86b9eef1af9387a86a1d7ae3ec7872e732", func := "suffrage/suffragelaw12.CondorcetNames", spec := "condorcetNames", inPlace := ["slices.overlaps[suffrage/api.Row]"], unfollowed := true, recurses := true, named := ["math/bits.overflowError"], apart := false }
def CondorcetNamesSaid : Prop := condorcetNamesRow.holds Tryz.pinned (OpenSpec.ofChange condorcetNamesSpec)

/-- ITS FALSE NEIGHBOUR: 'it returns false'. Refute it at one input. -/
def condorcetNamesWrong : ChangeSpec := { name := "condorcetNames", fn := fun _ => fun
  | [d1, d2, d3] => { results := [.lit (.bool false)], args := [d1, d2, d3] }
  | _ => none }
def CondorcetNamesWrongFalsely : Prop := condorcetNamesRow.holds Tryz.pinned (OpenSpec.ofChange condorcetNamesWrong)

/- THE SECOND FORM. 'bulk': how many values and letters a reading holds, each counted each time it is reached (what is shared counts as often as it is met; a slice's spare places count too). A statement '..UptoSaid' is the law's where the arguments, and the package variables that the reading takes, are together of bulk at most 1048576: NARROWER than '..Said'. Prove '..Said' where nothing that the law and all that it calls make is longer than what came in: it says more and counts as full. Else prove '..UptoSaid'. A law counts once. -/
mutual
def uptoBulk {H : Type} : DataW H → Nat
  | .lit (.string bytes) => bytes.length + 1
  | .lit _ => 1
  | .nil => 1
  | .ptr d => uptoBulk d + 1
  | .slice elems spare => uptoBulkAll elems + uptoBulkAll spare + 1
  | .agg parts => uptoBulkAll parts + 1
  | .iface _ d => uptoBulk d + 1
  | .map entries => uptoBulkEntries entries + 1
  | .held _ => 1
def uptoBulkAll {H : Type} : List (DataW H) → Nat
  | [] => 0
  | d :: r => uptoBulk d + uptoBulkAll r
def uptoBulkEntries {H : Type} : List (Lit × DataW H) → Nat
  | [] => 0
  | x :: r => uptoBulkEntry x + uptoBulkEntries r
def uptoBulkEntry {H : Type} : Lit × DataW H → Nat
  | (.string bytes, d) => bytes.length + uptoBulk d + 1
  | (_, d) => uptoBulk d + 1
 end
def uptoSmall : (H : Type) → List (DataW H) → Bool := fun _ ds => decide (uptoBulkAll ds ≤ 1048576)
def OpenSpec.upto (s : _root_.Go.ChangeSpec) : _root_.Go.OpenSpec := { _root_.Go.OpenSpec.ofChange s with cond := some uptoSmall }

/-- 'suffragelaw13.PathsTell', WHERE WHAT IT READS IS OF BULK AT MOST 1048576: true; the input reads as it did. -/
def pathsTellUptoRow : OpenClaim := { program := "ytkhclcdmehjfkaagreat", sum := "0cb0d85f48dc011093bb4878eba5ac86b9eef1af9387a86a1d7ae3ec7872e732", func := "suffrage/suffragelaw13.PathsTell", spec := "pathsTell", unfollowed := true, recurses := true, apart := false, narrowed := true }
def PathsTellUptoSaid : Prop := pathsTellUptoRow.holds Tryz.pinned (OpenSpec.upto pathsTellSpec)

/-- 'suffragelaw13.PathsTies', WHERE WHAT IT READS IS OF BULK AT MOST 1048576: true; the input reads as it did. -/
def pathsTiesUptoRow : OpenClaim := { program := "ytkhclcdmehjfkaagreat", sum := "0cb0d85f48dc011093bb4878eba5ac86b9eef1af9387a86a1d7ae3ec7872e732", func := "suffrage/suffragelaw13.PathsTies", spec := "pathsTies", unfollowed := true, recurses := true, apart := false, narrowed := true }
def PathsTiesUptoSaid : Prop := pathsTiesUptoRow.holds Tryz.pinned (OpenSpec.upto pathsTiesSpec)

/-- 'suffragelaw13.PathsWinner', WHERE WHAT IT READS IS OF BULK AT MOST 1048576: true; the input reads as it did. -/
def pathsWinnerUptoRow : OpenClaim := { program := "ytkhclcdmehjfkaagreat", sum := "0cb0d85f48dc011093bb4878eba5ac86b9eef1af9387a86a1d7ae3ec7872e732", func := "suffrage/suffragelaw13.PathsWinner", spec := "pathsWinner", unfollowed := true, recurses := true, apart := false, narrowed := true }
def PathsWinnerUptoSaid : Prop := pathsWinnerUptoRow.holds Tryz.pinned (OpenSpec.upto pathsWinnerSpec)

/-- 'suffragelaw13.PathsNames', WHERE WHAT IT READS IS OF BULK AT MOST 1048576: true; the input reads as it did. -/
def pathsNamesUptoRow : OpenClaim := { program := "ytkhclcdmehjfkaagreat", sum := "0cb0d85f48dc011093bb4878eba5ac86b9eef1af9387a86a1d7ae3ec7872e732", func := "suffrage/suffragelaw13.PathsNames", spec := "pathsNames", inPlace := ["slices.overlaps[suffrage/api.Row]"], unfollowed := true, recurses := true, apart := false, narrowed := true }
def PathsNamesUptoSaid : Prop := pathsNamesUptoRow.holds Tryz.pinned (OpenSpec.upto pathsNamesSpec)

/-- 'suffragelaw12.CondorcetTells', WHERE WHAT IT READS IS OF BULK AT MOST 1048576: true; the input reads as it did. -/
def condorcetTellsUptoRow : OpenClaim := { program := "ytkhclcdmehjfkaagreat", sum := "0cb0d85f48dc011093bb4878eba5ac86b9eef1af9387a86a1d7ae3ec7872e732", func := "suffrage/suffragelaw12.CondorcetTells", spec := "condorcetTells", unfollowed := true, recurses := true, named := ["math/bits.overflowError"], apart := false, narrowed := true }
def CondorcetTellsUptoSaid : Prop := condorcetTellsUptoRow.holds Tryz.pinned (OpenSpec.upto condorcetTellsSpec)

/-- 'suffragelaw12.CondorcetSets', WHERE WHAT IT READS IS OF BULK AT MOST 1048576: true; the input reads as it did. -/
def condorcetSetsUptoRow : OpenClaim := { program := "ytkhclcdmehjfkaagreat", sum := "0cb0d85f48dc011093bb4878eba5ac86b9eef1af9387a86a1d7ae3ec7872e732", func := "suffrage/suffragelaw12.CondorcetSets", spec := "condorcetSets", unfollowed := true, recurses := true, named := ["math/bits.overflowError"], apart := false, narrowed := true }
def CondorcetSetsUptoSaid : Prop := condorcetSetsUptoRow.holds Tryz.pinned (OpenSpec.upto condorcetSetsSpec)

/-- 'suffragelaw12.CondorcetWinner', WHERE WHAT IT READS IS OF BULK AT MOST 1048576: true; the input reads as it did. -/
def condorcetWinnerUptoRow : OpenClaim := { program := "ytkhclcdmehjfkaagreat", sum := "0cb0d85f48dc011093bb4878eba5ac86b9eef1af9387a86a1d7ae3ec7872e732", func := "suffrage/suffragelaw12.CondorcetWinner", spec := "condorcetWinner", unfollowed := true, recurses := true, named := ["math/bits.overflowError"], apart := false, narrowed := true }
def CondorcetWinnerUptoSaid : Prop := condorcetWinnerUptoRow.holds Tryz.pinned (OpenSpec.upto condorcetWinnerSpec)

/-- 'suffragelaw12.CondorcetTies', WHERE WHAT IT READS IS OF BULK AT MOST 1048576: true; the input reads as it did. -/
def condorcetTiesUptoRow : OpenClaim := { program := "ytkhclcdmehjfkaagreat", sum := "0cb0d85f48dc011093bb4878eba5ac86b9eef1af9387a86a1d7ae3ec7872e732", func := "suffrage/suffragelaw12.CondorcetTies", spec := "condorcetTies", unfollowed := true, recurses := true, named := ["math/bits.overflowError"], apart := false, narrowed := true }
def CondorcetTiesUptoSaid : Prop := condorcetTiesUptoRow.holds Tryz.pinned (OpenSpec.upto condorcetTiesSpec)

/-- 'suffragelaw12.CondorcetSmith', WHERE WHAT IT READS IS OF BULK AT MOST 1048576: true; the input reads as it did. -/
def condorcetSmithUptoRow : OpenClaim := { program := "ytkhclcdmehjfkaagreat", sum := "0cb0d85f48dc011093bb4878eba5ac86b9eef1af9387a86a1d7ae3ec7872e732", func := "suffrage/suffragelaw12.CondorcetSmith", spec := "condorcetSmith", unfollowed := true, recurses := true, named := ["math/bits.overflowError"], apart := false, narrowed := true }
def CondorcetSmithUptoSaid : Prop := condorcetSmithUptoRow.holds Tryz.pinned (OpenSpec.upto condorcetSmithSpec)

/-- 'suffragelaw12.CondorcetLoser', WHERE WHAT IT READS IS OF BULK AT MOST 1048576: true; the input reads as it did. -/
def condorcetLoserUptoRow : OpenClaim := { program := "ytkhclcdmehjfkaagreat", sum := "0cb0d85f48dc011093bb4878eba5ac86b9eef1af9387a86a1d7ae3ec7872e732", func := "suffrage/suffragelaw12.CondorcetLoser", spec := "condorcetLoser", unfollowed := true, recurses := true, named := ["math/bits.overflowError"], apart := false, narrowed := true }
def CondorcetLoserUptoSaid : Prop := condorcetLoserUptoRow.holds Tryz.pinned (OpenSpec.upto condorcetLoserSpec)

/-- 'suffragelaw12.CondorcetNames', WHERE WHAT IT READS IS OF BULK AT MOST 1048576: true; the input reads as it did. -/
def condorcetNamesUptoRow : OpenClaim := { program := "ytkhclcdmehjfkaagreat", sum := "0cb0d85f48dc011093bb4878eba5ac86b9eef1af9387a86a1d7ae3ec7872e732", func := "suffrage/suffragelaw12.CondorcetNames", spec := "condorcetNames", inPlace := ["slices.overlaps[suffrage/api.Row]"], unfollowed := true, recurses := true, named := ["math/bits.overflowError"], apart := false, narrowed := true }
def CondorcetNamesUptoSaid : Prop := condorcetNamesUptoRow.holds Tryz.pinned (OpenSpec.upto condorcetNamesSpec)

end Rows
end Go.Proofs.YtkhclcdmehjfkaaGreat
