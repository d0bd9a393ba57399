/-
  No cell of these rows narrows 'for every input' (looked for: loops, veiled, ifaces, maps, wideKeys, modest, calm, conditions, laid).
  DERIVED. THE GIVEN ROWS OF THIS SEAT. 12 by the template 'for every input the law returns true; each argument reads behind the call as it read before'; 0 by the template 'total and deterministic' (their statements: YtcmoekkaakkpjaaGreatTotals.lean).
  GIVEN WITH THE SEED: the statements are not yours to turn. If you find one false, say at which input.
  Laid BY PROGRAM, IN A SANDBOX (cutbox-rows.mjs): the forced cells as the released guide's own fill.sh prints them over the translation cbc74d246866f06f… (all of the seat's roots in one cut). By AI agents, Wed Nov 11 2026. No macro, syntax, notation, axiom, sorry.
-/
import Derived.Test.YtcmoekkaakkpjaaGreatChecked
import GoSem.Claim
import GoSem.ClaimJoined
import GoSem.ClaimMapViews
import Derived.JoinedTies
import Derived.KernelRfl
namespace Go.Proofs.YtcmoekkaakkpjaaGreat
/- THE CELL 'sum', in the pinned program and in every row, IS THE sha256 OF THE DUMP (.gsa) THAT YtcmoekkaakkpjaaGreatProg.lean LOADS. Nothing in Lean hashes anything: it is a label: what it is worth is what the hold of that sum in a sandbox is worth. -/
noncomputable def Tryz.pinned : Pinned := { name := "ytcmoekkaakkpjaagreat", sum := "cbc74d246866f06f9144770c78cd91489ea43420bb07c99d459202ee70b7596e", checked := Tryz.checked }
namespace Rows
def none {H : Type} : Left H := { results := [], args := [] }

/-- 'suffragelaw15.RunoffTells': WHATEVER THE INPUT: true; the input reads as it did. -/
def runoffTellsSpec : ChangeSpec := { name := "runoffTells", fn := fun _ => fun
  | [d1, d2, d3, d4] => { results := [.lit (.bool true)], args := [d1, d2, d3, d4] }
  | _ => none }
def runoffTellsRow : OpenClaim := { program := "ytcmoekkaakkpjaagreat", sum := "cbc74d246866f06f9144770c78cd91489ea43420bb07c99d459202ee70b7596e", func := "suffrage/suffragelaw15.RunoffTells", spec := "runoffTells", unfollowed := true, recurses := true, apart := false }
def RunoffTellsSaid : Prop := runoffTellsRow.holds Tryz.pinned (OpenSpec.ofChange runoffTellsSpec)

/-- ITS FALSE NEIGHBOUR: 'it returns false'. Refute it at one input. -/
def runoffTellsWrong : ChangeSpec := { name := "runoffTells", fn := fun _ => fun
  | [d1, d2, d3, d4] => { results := [.lit (.bool false)], args := [d1, d2, d3, d4] }
  | _ => none }
def RunoffTellsWrongFalsely : Prop := runoffTellsRow.holds Tryz.pinned (OpenSpec.ofChange runoffTellsWrong)

/-- 'suffragelaw15.RunoffMajority': WHATEVER THE INPUT: true; the input reads as it did. -/
def runoffMajoritySpec : ChangeSpec := { name := "runoffMajority", fn := fun _ => fun
  | [d1, d2, d3] => { results := [.lit (.bool true)], args := [d1, d2, d3] }
  | _ => none }
def runoffMajorityRow : OpenClaim := { program := "ytcmoekkaakkpjaagreat", sum := "cbc74d246866f06f9144770c78cd91489ea43420bb07c99d459202ee70b7596e", func := "suffrage/suffragelaw15.RunoffMajority", spec := "runoffMajority", unfollowed := true, recurses := true, apart := false }
def RunoffMajoritySaid : Prop := runoffMajorityRow.holds Tryz.pinned (OpenSpec.ofChange runoffMajoritySpec)

/-- ITS FALSE NEIGHBOUR: 'it returns false'. Refute it at one input. -/
def runoffMajorityWrong : ChangeSpec := { name := "runoffMajority", fn := fun _ => fun
  | [d1, d2, d3] => { results := [.lit (.bool false)], args := [d1, d2, d3] }
  | _ => none }
def RunoffMajorityWrongFalsely : Prop := runoffMajorityRow.holds Tryz.pinned (OpenSpec.ofChange runoffMajorityWrong)

/-- 'suffragelaw15.RunoffSum': WHATEVER THE INPUT: true; the input reads as it did. -/
def runoffSumSpec : ChangeSpec := { name := "runoffSum", fn := fun _ => fun
  | [d1, d2] => { results := [.lit (.bool true)], args := [d1, d2] }
  | _ => none }
def runoffSumRow : OpenClaim := { program := "ytcmoekkaakkpjaagreat", sum := "cbc74d246866f06f9144770c78cd91489ea43420bb07c99d459202ee70b7596e", func := "suffrage/suffragelaw15.RunoffSum", spec := "runoffSum", unfollowed := true, recurses := true, apart := false }
def RunoffSumSaid : Prop := runoffSumRow.holds Tryz.pinned (OpenSpec.ofChange runoffSumSpec)

/-- ITS FALSE NEIGHBOUR: 'it returns false'. Refute it at one input. -/
def runoffSumWrong : ChangeSpec := { name := "runoffSum", fn := fun _ => fun
  | [d1, d2] => { results := [.lit (.bool false)], args := [d1, d2] }
  | _ => none }
def RunoffSumWrongFalsely : Prop := runoffSumRow.holds Tryz.pinned (OpenSpec.ofChange runoffSumWrong)

/-- 'suffragelaw15.RunoffFirsts': WHATEVER THE INPUT: true; the input reads as it did. -/
def runoffFirstsSpec : ChangeSpec := { name := "runoffFirsts", fn := fun _ => fun
  | [d1, d2, d3] => { results := [.lit (.bool true)], args := [d1, d2, d3] }
  | _ => none }
def runoffFirstsRow : OpenClaim := { program := "ytcmoekkaakkpjaagreat", sum := "cbc74d246866f06f9144770c78cd91489ea43420bb07c99d459202ee70b7596e", func := "suffrage/suffragelaw15.RunoffFirsts", spec := "runoffFirsts", unfollowed := true, recurses := true, apart := false }
def RunoffFirstsSaid : Prop := runoffFirstsRow.holds Tryz.pinned (OpenSpec.ofChange runoffFirstsSpec)

/-- ITS FALSE NEIGHBOUR: 'it returns false'. Refute it at one input. -/
def runoffFirstsWrong : ChangeSpec := { name := "runoffFirsts", fn := fun _ => fun
  | [d1, d2, d3] => { results := [.lit (.bool false)], args := [d1, d2, d3] }
  | _ => none }
def RunoffFirstsWrongFalsely : Prop := runoffFirstsRow.holds Tryz.pinned (OpenSpec.ofChange runoffFirstsWrong)

/-- 'suffragelaw16.CoombsTells': WHATEVER THE INPUT: true; the input reads as it did. -/
def coombsTellsSpec : ChangeSpec := { name := "coombsTells", fn := fun _ => fun
  | [d1, d2, d3, d4] => { results := [.lit (.bool true)], args := [d1, d2, d3, d4] }
  | _ => none }
def coombsTellsRow : OpenClaim := { program := "ytcmoekkaakkpjaagreat", sum := "cbc74d246866f06f9144770c78cd91489ea43420bb07c99d459202ee70b7596e", func := "suffrage/suffragelaw16.CoombsTells", spec := "coombsTells", unfollowed := true, recurses := true, apart := false }
def CoombsTellsSaid : Prop := coombsTellsRow.holds Tryz.pinned (OpenSpec.ofChange coombsTellsSpec)

/-- ITS FALSE NEIGHBOUR: 'it returns false'. Refute it at one input. -/
def coombsTellsWrong : ChangeSpec := { name := "coombsTells", fn := fun _ => fun
  | [d1, d2, d3, d4] => { results := [.lit (.bool false)], args := [d1, d2, d3, d4] }
  | _ => none }
def CoombsTellsWrongFalsely : Prop := coombsTellsRow.holds Tryz.pinned (OpenSpec.ofChange coombsTellsWrong)

/-- 'suffragelaw16.CoombsRounds': WHATEVER THE INPUT: true; the input reads as it did. -/
def coombsRoundsSpec : ChangeSpec := { name := "coombsRounds", fn := fun _ => fun
  | [d1, d2] => { results := [.lit (.bool true)], args := [d1, d2] }
  | _ => none }
def coombsRoundsRow : OpenClaim := { program := "ytcmoekkaakkpjaagreat", sum := "cbc74d246866f06f9144770c78cd91489ea43420bb07c99d459202ee70b7596e", func := "suffrage/suffragelaw16.CoombsRounds", spec := "coombsRounds", unfollowed := true, recurses := true, apart := false }
def CoombsRoundsSaid : Prop := coombsRoundsRow.holds Tryz.pinned (OpenSpec.ofChange coombsRoundsSpec)

/-- ITS FALSE NEIGHBOUR: 'it returns false'. Refute it at one input. -/
def coombsRoundsWrong : ChangeSpec := { name := "coombsRounds", fn := fun _ => fun
  | [d1, d2] => { results := [.lit (.bool false)], args := [d1, d2] }
  | _ => none }
def CoombsRoundsWrongFalsely : Prop := coombsRoundsRow.holds Tryz.pinned (OpenSpec.ofChange coombsRoundsWrong)

/-- 'suffragelaw16.CoombsMajority': WHATEVER THE INPUT: true; the input reads as it did. -/
def coombsMajoritySpec : ChangeSpec := { name := "coombsMajority", fn := fun _ => fun
  | [d1, d2] => { results := [.lit (.bool true)], args := [d1, d2] }
  | _ => none }
def coombsMajorityRow : OpenClaim := { program := "ytcmoekkaakkpjaagreat", sum := "cbc74d246866f06f9144770c78cd91489ea43420bb07c99d459202ee70b7596e", func := "suffrage/suffragelaw16.CoombsMajority", spec := "coombsMajority", unfollowed := true, recurses := true, apart := false }
def CoombsMajoritySaid : Prop := coombsMajorityRow.holds Tryz.pinned (OpenSpec.ofChange coombsMajoritySpec)

/-- ITS FALSE NEIGHBOUR: 'it returns false'. Refute it at one input. -/
def coombsMajorityWrong : ChangeSpec := { name := "coombsMajority", fn := fun _ => fun
  | [d1, d2] => { results := [.lit (.bool false)], args := [d1, d2] }
  | _ => none }
def CoombsMajorityWrongFalsely : Prop := coombsMajorityRow.holds Tryz.pinned (OpenSpec.ofChange coombsMajorityWrong)

/-- 'suffragelaw16.CoombsLasts': WHATEVER THE INPUT: true; the input reads as it did. -/
def coombsLastsSpec : ChangeSpec := { name := "coombsLasts", fn := fun _ => fun
  | [d1, d2] => { results := [.lit (.bool true)], args := [d1, d2] }
  | _ => none }
def coombsLastsRow : OpenClaim := { program := "ytcmoekkaakkpjaagreat", sum := "cbc74d246866f06f9144770c78cd91489ea43420bb07c99d459202ee70b7596e", func := "suffrage/suffragelaw16.CoombsLasts", spec := "coombsLasts", unfollowed := true, recurses := true, apart := false }
def CoombsLastsSaid : Prop := coombsLastsRow.holds Tryz.pinned (OpenSpec.ofChange coombsLastsSpec)

/-- ITS FALSE NEIGHBOUR: 'it returns false'. Refute it at one input. -/
def coombsLastsWrong : ChangeSpec := { name := "coombsLasts", fn := fun _ => fun
  | [d1, d2] => { results := [.lit (.bool false)], args := [d1, d2] }
  | _ => none }
def CoombsLastsWrongFalsely : Prop := coombsLastsRow.holds Tryz.pinned (OpenSpec.ofChange coombsLastsWrong)

/-- 'suffragelaw16.CoombsSum': WHATEVER THE INPUT: true; the input reads as it did. -/
def coombsSumSpec : ChangeSpec := { name := "coombsSum", fn := fun _ => fun
  | [d1, d2] => { results := [.lit (.bool true)], args := [d1, d2] }
  | _ => none }
def coombsSumRow : OpenClaim := { program := "ytcmoekkaakkpjaagreat", sum := "cbc74d246866f06f9144770c78cd91489ea43420bb07c99d459202ee70b7596e", func := "suffrage/suffragelaw16.CoombsSum", spec := "coombsSum", unfollowed := true, recurses := true, apart := false }
def CoombsSumSaid : Prop := coombsSumRow.holds Tryz.pinned (OpenSpec.ofChange coombsSumSpec)

/-- ITS FALSE NEIGHBOUR: 'it returns false'. Refute it at one input. -/
def coombsSumWrong : ChangeSpec := { name := "coombsSum", fn := fun _ => fun
  | [d1, d2] => { results := [.lit (.bool false)], args := [d1, d2] }
  | _ => none }
def CoombsSumWrongFalsely : Prop := coombsSumRow.holds Tryz.pinned (OpenSpec.ofChange coombsSumWrong)

/-- 'suffragelaw15.RunoffLoser': WHATEVER THE INPUT: true; the input reads as it did. -/
def runoffLoserSpec : ChangeSpec := { name := "runoffLoser", fn := fun _ => fun
  | [d1, d2] => { results := [.lit (.bool true)], args := [d1, d2] }
  | _ => none }
def runoffLoserRow : OpenClaim := { program := "ytcmoekkaakkpjaagreat", sum := "cbc74d246866f06f9144770c78cd91489ea43420bb07c99d459202ee70b7596e", func := "suffrage/suffragelaw15.RunoffLoser", spec := "runoffLoser", unfollowed := true, recurses := true, apart := false }
def RunoffLoserSaid : Prop := runoffLoserRow.holds Tryz.pinned (OpenSpec.ofChange runoffLoserSpec)

/-- ITS FALSE NEIGHBOUR: 'it returns false'. Refute it at one input. -/
def runoffLoserWrong : ChangeSpec := { name := "runoffLoser", fn := fun _ => fun
  | [d1, d2] => { results := [.lit (.bool false)], args := [d1, d2] }
  | _ => none }
def RunoffLoserWrongFalsely : Prop := runoffLoserRow.holds Tryz.pinned (OpenSpec.ofChange runoffLoserWrong)

/-- 'suffragelaw15.RunoffRounds': WHATEVER THE INPUT: true; the input reads as it did. -/
def runoffRoundsSpec : ChangeSpec := { name := "runoffRounds", fn := fun _ => fun
  | [d1, d2] => { results := [.lit (.bool true)], args := [d1, d2] }
  | _ => none }
def runoffRoundsRow : OpenClaim := { program := "ytcmoekkaakkpjaagreat", sum := "cbc74d246866f06f9144770c78cd91489ea43420bb07c99d459202ee70b7596e", func := "suffrage/suffragelaw15.RunoffRounds", spec := "runoffRounds", inPlace := ["slices.overlaps[suffrage/api.Row]"], unfollowed := true, recurses := true, apart := false }
def RunoffRoundsSaid : Prop := runoffRoundsRow.holds Tryz.pinned (OpenSpec.ofChange runoffRoundsSpec)

/-- ITS FALSE NEIGHBOUR: 'it returns false'. Refute it at one input. -/
def runoffRoundsWrong : ChangeSpec := { name := "runoffRounds", fn := fun _ => fun
  | [d1, d2] => { results := [.lit (.bool false)], args := [d1, d2] }
  | _ => none }
def RunoffRoundsWrongFalsely : Prop := runoffRoundsRow.holds Tryz.pinned (OpenSpec.ofChange runoffRoundsWrong)

/-- 'suffragelaw15.RunoffNames': WHATEVER THE INPUT: true; the input reads as it did. -/
def runoffNamesSpec : ChangeSpec := { name := "runoffNames", fn := fun _ => fun
  | [d1, d2, d3] => { results := [.lit (.bool true)], args := [d1, d2, d3] }
  | _ => none }
def runoffNamesRow : OpenClaim := { program := "ytcmoekkaakkpjaagreat", sum := "cbc74d246866f06f9144770c78cd91489ea43420bb07c99d459202ee70b7596e", func := "suffrage/suffragelaw15.RunoffNames", spec := "runoffNames", inPlace := ["slices.overlaps[suffrage/api.Row]"], unfollowed := true, recurses := true, apart := false }
def RunoffNamesSaid : Prop := runoffNamesRow.holds Tryz.pinned (OpenSpec.ofChange runoffNamesSpec)

/-- ITS FALSE NEIGHBOUR: 'it returns false'. Refute it at one input. -/
def runoffNamesWrong : ChangeSpec := { name := "runoffNames", fn := fun _ => fun
  | [d1, d2, d3] => { results := [.lit (.bool false)], args := [d1, d2, d3] }
  | _ => none }
def RunoffNamesWrongFalsely : Prop := runoffNamesRow.holds Tryz.pinned (OpenSpec.ofChange runoffNamesWrong)

/- THE SECOND FORM. 'bulk': how many values and letters a reading holds, each counted each time it is reached (what is shared counts as often as it is met; a slice's spare places count too). A statement '..UptoSaid' is the law's where the arguments, and the package variables that the reading takes, are together of bulk at most 1048576: NARROWER than '..Said'. Prove '..Said' where nothing that the law and all that it calls make is longer than what came in: it says more and counts as full. Else prove '..UptoSaid'. A law counts once. -/
mutual
def uptoBulk {H : Type} : DataW H → Nat
  | .lit (.string bytes) => bytes.length + 1
  | .lit _ => 1
  | .nil => 1
  | .ptr d => uptoBulk d + 1
  | .slice elems spare => uptoBulkAll elems + uptoBulkAll spare + 1
  | .agg parts => uptoBulkAll parts + 1
  | .iface _ d => uptoBulk d + 1
  | .map entries => uptoBulkEntries entries + 1
  | .held _ => 1
def uptoBulkAll {H : Type} : List (DataW H) → Nat
  | [] => 0
  | d :: r => uptoBulk d + uptoBulkAll r
def uptoBulkEntries {H : Type} : List (Lit × DataW H) → Nat
  | [] => 0
  | x :: r => uptoBulkEntry x + uptoBulkEntries r
def uptoBulkEntry {H : Type} : Lit × DataW H → Nat
  | (.string bytes, d) => bytes.length + uptoBulk d + 1
  | (_, d) => uptoBulk d + 1
 end
def uptoSmall : (H : Type) → List (DataW H) → Bool := fun _ ds => decide (uptoBulkAll ds ≤ 1048576)
def OpenSpec.upto (s : _root_.Go.ChangeSpec) : _root_.Go.OpenSpec := { _root_.Go.OpenSpec.ofChange s with cond := some uptoSmall }

/-- 'suffragelaw15.RunoffTells', WHERE WHAT IT READS IS OF BULK AT MOST 1048576: true; the input reads as it did. -/
def runoffTellsUptoRow : OpenClaim := { program := "ytcmoekkaakkpjaagreat", sum := "cbc74d246866f06f9144770c78cd91489ea43420bb07c99d459202ee70b7596e", func := "suffrage/suffragelaw15.RunoffTells", spec := "runoffTells", unfollowed := true, recurses := true, apart := false, narrowed := true }
def RunoffTellsUptoSaid : Prop := runoffTellsUptoRow.holds Tryz.pinned (OpenSpec.upto runoffTellsSpec)

/-- 'suffragelaw15.RunoffMajority', WHERE WHAT IT READS IS OF BULK AT MOST 1048576: true; the input reads as it did. -/
def runoffMajorityUptoRow : OpenClaim := { program := "ytcmoekkaakkpjaagreat", sum := "cbc74d246866f06f9144770c78cd91489ea43420bb07c99d459202ee70b7596e", func := "suffrage/suffragelaw15.RunoffMajority", spec := "runoffMajority", unfollowed := true, recurses := true, apart := false, narrowed := true }
def RunoffMajorityUptoSaid : Prop := runoffMajorityUptoRow.holds Tryz.pinned (OpenSpec.upto runoffMajoritySpec)

/-- 'suffragelaw15.RunoffSum', WHERE WHAT IT READS IS OF BULK AT MOST 1048576: true; the input reads as it did. -/
def runoffSumUptoRow : OpenClaim := { program := "ytcmoekkaakkpjaagreat", sum := "cbc74d246866f06f9144770c78cd91489ea43420bb07c99d459202ee70b7596e", func := "suffrage/suffragelaw15.RunoffSum", spec := "runoffSum", unfollowed := true, recurses := true, apart := false, narrowed := true }
def RunoffSumUptoSaid : Prop := runoffSumUptoRow.holds Tryz.pinned (OpenSpec.upto runoffSumSpec)

/-- 'suffragelaw15.RunoffFirsts', WHERE WHAT IT READS IS OF BULK AT MOST 1048576: true; the input reads as it did. -/
def runoffFirstsUptoRow : OpenClaim := { program := "ytcmoekkaakkpjaagreat", sum := "cbc74d246866f06f9144770c78cd91489ea43420bb07c99d459202ee70b7596e", func := "suffrage/suffragelaw15.RunoffFirsts", spec := "runoffFirsts", unfollowed := true, recurses := true, apart := false, narrowed := true }
def RunoffFirstsUptoSaid : Prop := runoffFirstsUptoRow.holds Tryz.pinned (OpenSpec.upto runoffFirstsSpec)

/-- 'suffragelaw16.CoombsTells', WHERE WHAT IT READS IS OF BULK AT MOST 1048576: true; the input reads as it did. -/
def coombsTellsUptoRow : OpenClaim := { program := "ytcmoekkaakkpjaagreat", sum := "cbc74d246866f06f9144770c78cd91489ea43420bb07c99d459202ee70b7596e", func := "suffrage/suffragelaw16.CoombsTells", spec := "coombsTells", unfollowed := true, recurses := true, apart := false, narrowed := true }
def CoombsTellsUptoSaid : Prop := coombsTellsUptoRow.holds Tryz.pinned (OpenSpec.upto coombsTellsSpec)

/-- 'suffragelaw16.CoombsRounds', WHERE WHAT IT READS IS OF BULK AT MOST 1048576: true; the input reads as it did. -/
def coombsRoundsUptoRow : OpenClaim := { program := "ytcmoekkaakkpjaagreat", sum := "cbc74d246866f06f9144770c78cd91489ea43420bb07c99d459202ee70b7596e", func := "suffrage/suffragelaw16.CoombsRounds", spec := "coombsRounds", unfollowed := true, recurses := true, apart := false, narrowed := true }
def CoombsRoundsUptoSaid : Prop := coombsRoundsUptoRow.holds Tryz.pinned (OpenSpec.upto coombsRoundsSpec)

/-- 'suffragelaw16.CoombsMajority', WHERE WHAT IT READS IS OF BULK AT MOST 1048576: true; the input reads as it did. -/
def coombsMajorityUptoRow : OpenClaim := { program := "ytcmoekkaakkpjaagreat", sum := "cbc74d246866f06f9144770c78cd91489ea43420bb07c99d459202ee70b7596e", func := "suffrage/suffragelaw16.CoombsMajority", spec := "coombsMajority", unfollowed := true, recurses := true, apart := false, narrowed := true }
def CoombsMajorityUptoSaid : Prop := coombsMajorityUptoRow.holds Tryz.pinned (OpenSpec.upto coombsMajoritySpec)

/-- 'suffragelaw16.CoombsLasts', WHERE WHAT IT READS IS OF BULK AT MOST 1048576: true; the input reads as it did. -/
def coombsLastsUptoRow : OpenClaim := { program := "ytcmoekkaakkpjaagreat", sum := "cbc74d246866f06f9144770c78cd91489ea43420bb07c99d459202ee70b7596e", func := "suffrage/suffragelaw16.CoombsLasts", spec := "coombsLasts", unfollowed := true, recurses := true, apart := false, narrowed := true }
def CoombsLastsUptoSaid : Prop := coombsLastsUptoRow.holds Tryz.pinned (OpenSpec.upto coombsLastsSpec)

/-- 'suffragelaw16.CoombsSum', WHERE WHAT IT READS IS OF BULK AT MOST 1048576: true; the input reads as it did. -/
def coombsSumUptoRow : OpenClaim := { program := "ytcmoekkaakkpjaagreat", sum := "cbc74d246866f06f9144770c78cd91489ea43420bb07c99d459202ee70b7596e", func := "suffrage/suffragelaw16.CoombsSum", spec := "coombsSum", unfollowed := true, recurses := true, apart := false, narrowed := true }
def CoombsSumUptoSaid : Prop := coombsSumUptoRow.holds Tryz.pinned (OpenSpec.upto coombsSumSpec)

/-- 'suffragelaw15.RunoffLoser', WHERE WHAT IT READS IS OF BULK AT MOST 1048576: true; the input reads as it did. -/
def runoffLoserUptoRow : OpenClaim := { program := "ytcmoekkaakkpjaagreat", sum := "cbc74d246866f06f9144770c78cd91489ea43420bb07c99d459202ee70b7596e", func := "suffrage/suffragelaw15.RunoffLoser", spec := "runoffLoser", unfollowed := true, recurses := true, apart := false, narrowed := true }
def RunoffLoserUptoSaid : Prop := runoffLoserUptoRow.holds Tryz.pinned (OpenSpec.upto runoffLoserSpec)

/-- 'suffragelaw15.RunoffRounds', WHERE WHAT IT READS IS OF BULK AT MOST 1048576: true; the input reads as it did. -/
def runoffRoundsUptoRow : OpenClaim := { program := "ytcmoekkaakkpjaagreat", sum := "cbc74d246866f06f9144770c78cd91489ea43420bb07c99d459202ee70b7596e", func := "suffrage/suffragelaw15.RunoffRounds", spec := "runoffRounds", inPlace := ["slices.overlaps[suffrage/api.Row]"], unfollowed := true, recurses := true, apart := false, narrowed := true }
def RunoffRoundsUptoSaid : Prop := runoffRoundsUptoRow.holds Tryz.pinned (OpenSpec.upto runoffRoundsSpec)

/-- 'suffragelaw15.RunoffNames', WHERE WHAT IT READS IS OF BULK AT MOST 1048576: true; the input reads as it did. -/
def runoffNamesUptoRow : OpenClaim := { program := "ytcmoekkaakkpjaagreat", sum := "cbc74d246866f06f9144770c78cd91489ea43420bb07c99d459202ee70b7596e", func := "suffrage/suffragelaw15.RunoffNames", spec := "runoffNames", inPlace := ["slices.overlaps[suffrage/api.Row]"], unfollowed := true, recurses := true, apart := false, narrowed := true }
def RunoffNamesUptoSaid : Prop := runoffNamesUptoRow.holds Tryz.pinned (OpenSpec.upto runoffNamesSpec)

end Rows
end Go.Proofs.YtcmoekkaakkpjaaGreat
