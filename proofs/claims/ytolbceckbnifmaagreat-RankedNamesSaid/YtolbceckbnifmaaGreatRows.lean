/-
  No cell of these rows narrows 'for every input' (looked for: loops, veiled, ifaces, maps, wideKeys, modest, calm, conditions, laid).
  DERIVED. THE GIVEN ROWS OF THIS SEAT. 6 by the template 'for every input the law returns true; each argument reads behind the call as it read before'; 0 by the template 'total and deterministic' (their statements: YtolbceckbnifmaaGreatTotals.lean).
  GIVEN WITH THE SEED: the statements are not yours to turn. If you find one false, say at which input.
  Laid BY PROGRAM, IN A SANDBOX (cutbox-rows.mjs): the forced cells as the released guide's own fill.sh prints them over the translation 5e0d296471da894b… (all of the seat's roots in one cut). By AI agents, Wed Nov 11 2026. No macro, syntax, notation, axiom, sorry.
-/
import Derived.Test.YtolbceckbnifmaaGreatChecked
import GoSem.Claim
import GoSem.ClaimJoined
import GoSem.ClaimMapViews
import Derived.JoinedTies
import Derived.KernelRfl
namespace Go.Proofs.YtolbceckbnifmaaGreat
/- THE CELL 'sum', in the pinned program and in every row, IS THE sha256 OF THE DUMP (.gsa) THAT YtolbceckbnifmaaGreatProg.lean LOADS. Nothing in Lean hashes anything: it is a label: what it is worth is what the hold of that sum in a sandbox is worth. -/
noncomputable def Tryz.pinned : Pinned := { name := "ytolbceckbnifmaagreat", sum := "5e0d296471da894b5257dd81aee5e3f598e51781f66e895d56baab6657b752ad", checked := Tryz.checked }
namespace Rows
def none {H : Type} : Left H := { results := [], args := [] }

/-- 'suffragelaw14.RankedTells': WHATEVER THE INPUT: true; the input reads as it did. -/
def rankedTellsSpec : ChangeSpec := { name := "rankedTells", fn := fun _ => fun
  | [d1, d2, d3, d4, d5] => { results := [.lit (.bool true)], args := [d1, d2, d3, d4, d5] }
  | _ => none }
def rankedTellsRow : OpenClaim := { program := "ytolbceckbnifmaagreat", sum := "5e0d296471da894b5257dd81aee5e3f598e51781f66e895d56baab6657b752ad", func := "suffrage/suffragelaw14.RankedTells", spec := "rankedTells", unfollowed := true, recurses := true, apart := false }
def RankedTellsSaid : Prop := rankedTellsRow.holds Tryz.pinned (OpenSpec.ofChange rankedTellsSpec)

/-- ITS FALSE NEIGHBOUR: 'it returns false'. Refute it at one input. -/
def rankedTellsWrong : ChangeSpec := { name := "rankedTells", fn := fun _ => fun
  | [d1, d2, d3, d4, d5] => { results := [.lit (.bool false)], args := [d1, d2, d3, d4, d5] }
  | _ => none }
def RankedTellsWrongFalsely : Prop := rankedTellsRow.holds Tryz.pinned (OpenSpec.ofChange rankedTellsWrong)

/-- 'suffragelaw14.RankedLeads': WHATEVER THE INPUT: true; the input reads as it did. -/
def rankedLeadsSpec : ChangeSpec := { name := "rankedLeads", fn := fun _ => fun
  | [d1, d2, d3, d4, d5] => { results := [.lit (.bool true)], args := [d1, d2, d3, d4, d5] }
  | _ => none }
def rankedLeadsRow : OpenClaim := { program := "ytolbceckbnifmaagreat", sum := "5e0d296471da894b5257dd81aee5e3f598e51781f66e895d56baab6657b752ad", func := "suffrage/suffragelaw14.RankedLeads", spec := "rankedLeads", unfollowed := true, recurses := true, apart := false }
def RankedLeadsSaid : Prop := rankedLeadsRow.holds Tryz.pinned (OpenSpec.ofChange rankedLeadsSpec)

/-- ITS FALSE NEIGHBOUR: 'it returns false'. Refute it at one input. -/
def rankedLeadsWrong : ChangeSpec := { name := "rankedLeads", fn := fun _ => fun
  | [d1, d2, d3, d4, d5] => { results := [.lit (.bool false)], args := [d1, d2, d3, d4, d5] }
  | _ => none }
def RankedLeadsWrongFalsely : Prop := rankedLeadsRow.holds Tryz.pinned (OpenSpec.ofChange rankedLeadsWrong)

/-- 'suffragelaw14.RankedLocks': WHATEVER THE INPUT: true; the input reads as it did. -/
def rankedLocksSpec : ChangeSpec := { name := "rankedLocks", fn := fun _ => fun
  | [d1, d2, d3] => { results := [.lit (.bool true)], args := [d1, d2, d3] }
  | _ => none }
def rankedLocksRow : OpenClaim := { program := "ytolbceckbnifmaagreat", sum := "5e0d296471da894b5257dd81aee5e3f598e51781f66e895d56baab6657b752ad", func := "suffrage/suffragelaw14.RankedLocks", spec := "rankedLocks", unfollowed := true, recurses := true, apart := false }
def RankedLocksSaid : Prop := rankedLocksRow.holds Tryz.pinned (OpenSpec.ofChange rankedLocksSpec)

/-- ITS FALSE NEIGHBOUR: 'it returns false'. Refute it at one input. -/
def rankedLocksWrong : ChangeSpec := { name := "rankedLocks", fn := fun _ => fun
  | [d1, d2, d3] => { results := [.lit (.bool false)], args := [d1, d2, d3] }
  | _ => none }
def RankedLocksWrongFalsely : Prop := rankedLocksRow.holds Tryz.pinned (OpenSpec.ofChange rankedLocksWrong)

/-- 'suffragelaw14.RankedOrder': WHATEVER THE INPUT: true; the input reads as it did. -/
def rankedOrderSpec : ChangeSpec := { name := "rankedOrder", fn := fun _ => fun
  | [d1, d2, d3] => { results := [.lit (.bool true)], args := [d1, d2, d3] }
  | _ => none }
def rankedOrderRow : OpenClaim := { program := "ytolbceckbnifmaagreat", sum := "5e0d296471da894b5257dd81aee5e3f598e51781f66e895d56baab6657b752ad", func := "suffrage/suffragelaw14.RankedOrder", spec := "rankedOrder", unfollowed := true, recurses := true, apart := false }
def RankedOrderSaid : Prop := rankedOrderRow.holds Tryz.pinned (OpenSpec.ofChange rankedOrderSpec)

/-- ITS FALSE NEIGHBOUR: 'it returns false'. Refute it at one input. -/
def rankedOrderWrong : ChangeSpec := { name := "rankedOrder", fn := fun _ => fun
  | [d1, d2, d3] => { results := [.lit (.bool false)], args := [d1, d2, d3] }
  | _ => none }
def RankedOrderWrongFalsely : Prop := rankedOrderRow.holds Tryz.pinned (OpenSpec.ofChange rankedOrderWrong)

/-- 'suffragelaw14.RankedWinner': WHATEVER THE INPUT: true; the input reads as it did. -/
def rankedWinnerSpec : ChangeSpec := { name := "rankedWinner", fn := fun _ => fun
  | [d1, d2] => { results := [.lit (.bool true)], args := [d1, d2] }
  | _ => none }
def rankedWinnerRow : OpenClaim := { program := "ytolbceckbnifmaagreat", sum := "5e0d296471da894b5257dd81aee5e3f598e51781f66e895d56baab6657b752ad", func := "suffrage/suffragelaw14.RankedWinner", spec := "rankedWinner", unfollowed := true, recurses := true, apart := false }
def RankedWinnerSaid : Prop := rankedWinnerRow.holds Tryz.pinned (OpenSpec.ofChange rankedWinnerSpec)

/-- ITS FALSE NEIGHBOUR: 'it returns false'. Refute it at one input. -/
def rankedWinnerWrong : ChangeSpec := { name := "rankedWinner", fn := fun _ => fun
  | [d1, d2] => { results := [.lit (.bool false)], args := [d1, d2] }
  | _ => none }
def RankedWinnerWrongFalsely : Prop := rankedWinnerRow.holds Tryz.pinned (OpenSpec.ofChange rankedWinnerWrong)

/-- 'suffragelaw14.RankedNames': WHATEVER THE INPUT: true; the input reads as it did. -/
def rankedNamesSpec : ChangeSpec := { name := "rankedNames", fn := fun _ => fun
  | [d1, d2, d3] => { results := [.lit (.bool true)], args := [d1, d2, d3] }
  | _ => none }
def rankedNamesRow : OpenClaim := { program := "ytolbceckbnifmaagreat", sum := "5e0d296471da894b5257dd81aee5e3f598e51781f66e895d56baab6657b752ad", func := "suffrage/suffragelaw14.RankedNames", spec := "rankedNames", inPlace := ["slices.overlaps[suffrage/api.Row]"], unfollowed := true, recurses := true, apart := false }
def RankedNamesSaid : Prop := rankedNamesRow.holds Tryz.pinned (OpenSpec.ofChange rankedNamesSpec)

/-- ITS FALSE NEIGHBOUR: 'it returns false'. Refute it at one input. -/
def rankedNamesWrong : ChangeSpec := { name := "rankedNames", fn := fun _ => fun
  | [d1, d2, d3] => { results := [.lit (.bool false)], args := [d1, d2, d3] }
  | _ => none }
def RankedNamesWrongFalsely : Prop := rankedNamesRow.holds Tryz.pinned (OpenSpec.ofChange rankedNamesWrong)

/- THE SECOND FORM. 'bulk': how many values and letters a reading holds, each counted each time it is reached (what is shared counts as often as it is met; a slice's spare places count too). A statement '..UptoSaid' is the law's where the arguments, and the package variables that the reading takes, are together of bulk at most 1048576: NARROWER than '..Said'. Prove '..Said' where nothing that the law and all that it calls make is longer than what came in: it says more and counts as full. Else prove '..UptoSaid'. A law counts once. -/
mutual
def uptoBulk {H : Type} : DataW H → Nat
  | .lit (.string bytes) => bytes.length + 1
  | .lit _ => 1
  | .nil => 1
  | .ptr d => uptoBulk d + 1
  | .slice elems spare => uptoBulkAll elems + uptoBulkAll spare + 1
  | .agg parts => uptoBulkAll parts + 1
  | .iface _ d => uptoBulk d + 1
  | .map entries => uptoBulkEntries entries + 1
  | .held _ => 1
def uptoBulkAll {H : Type} : List (DataW H) → Nat
  | [] => 0
  | d :: r => uptoBulk d + uptoBulkAll r
def uptoBulkEntries {H : Type} : List (Lit × DataW H) → Nat
  | [] => 0
  | x :: r => uptoBulkEntry x + uptoBulkEntries r
def uptoBulkEntry {H : Type} : Lit × DataW H → Nat
  | (.string bytes, d) => bytes.length + uptoBulk d + 1
  | (_, d) => uptoBulk d + 1
 end
def uptoSmall : (H : Type) → List (DataW H) → Bool := fun _ ds => decide (uptoBulkAll ds ≤ 1048576)
def OpenSpec.upto (s : _root_.Go.ChangeSpec) : _root_.Go.OpenSpec := { _root_.Go.OpenSpec.ofChange s with cond := some uptoSmall }

/-- 'suffragelaw14.RankedTells', WHERE WHAT IT READS IS OF BULK AT MOST 1048576: true; the input reads as it did. -/
def rankedTellsUptoRow : OpenClaim := { program := "ytolbceckbnifmaagreat", sum := "5e0d296471da894b5257dd81aee5e3f598e51781f66e895d56baab6657b752ad", func := "suffrage/suffragelaw14.RankedTells", spec := "rankedTells", unfollowed := true, recurses := true, apart := false, narrowed := true }
def RankedTellsUptoSaid : Prop := rankedTellsUptoRow.holds Tryz.pinned (OpenSpec.upto rankedTellsSpec)

/-- 'suffragelaw14.RankedLeads', WHERE WHAT IT READS IS OF BULK AT MOST 1048576: true; the input reads as it did. -/
def rankedLeadsUptoRow : OpenClaim := { program := "ytolbceckbnifmaagreat", sum := "5e0d296471da894b5257dd81aee5e3f598e51781f66e895d56baab6657b752ad", func := "suffrage/suffragelaw14.RankedLeads", spec := "rankedLeads", unfollowed := true, recurses := true, apart := false, narrowed := true }
def RankedLeadsUptoSaid : Prop := rankedLeadsUptoRow.holds Tryz.pinned (OpenSpec.upto rankedLeadsSpec)

/-- 'suffragelaw14.RankedLocks', WHERE WHAT IT READS IS OF BULK AT MOST 1048576: true; the input reads as it did. -/
def rankedLocksUptoRow : OpenClaim := { program := "ytolbceckbnifmaagreat", sum := "5e0d296471da894b5257dd81aee5e3f598e51781f66e895d56baab6657b752ad", func := "suffrage/suffragelaw14.RankedLocks", spec := "rankedLocks", unfollowed := true, recurses := true, apart := false, narrowed := true }
def RankedLocksUptoSaid : Prop := rankedLocksUptoRow.holds Tryz.pinned (OpenSpec.upto rankedLocksSpec)

/-- 'suffragelaw14.RankedOrder', WHERE WHAT IT READS IS OF BULK AT MOST 1048576: true; the input reads as it did. -/
def rankedOrderUptoRow : OpenClaim := { program := "ytolbceckbnifmaagreat", sum := "5e0d296471da894b5257dd81aee5e3f598e51781f66e895d56baab6657b752ad", func := "suffrage/suffragelaw14.RankedOrder", spec := "rankedOrder", unfollowed := true, recurses := true, apart := false, narrowed := true }
def RankedOrderUptoSaid : Prop := rankedOrderUptoRow.holds Tryz.pinned (OpenSpec.upto rankedOrderSpec)

/-- 'suffragelaw14.RankedWinner', WHERE WHAT IT READS IS OF BULK AT MOST 1048576: true; the input reads as it did. -/
def rankedWinnerUptoRow : OpenClaim := { program := "ytolbceckbnifmaagreat", sum := "5e0d296471da894b5257dd81aee5e3f598e51781f66e895d56baab6657b752ad", func := "suffrage/suffragelaw14.RankedWinner", spec := "rankedWinner", unfollowed := true, recurses := true, apart := false, narrowed := true }
def RankedWinnerUptoSaid : Prop := rankedWinnerUptoRow.holds Tryz.pinned (OpenSpec.upto rankedWinnerSpec)

/-- 'suffragelaw14.RankedNames', WHERE WHAT IT READS IS OF BULK AT MOST 1048576: true; the input reads as it did. -/
def rankedNamesUptoRow : OpenClaim := { program := "ytolbceckbnifmaagreat", sum := "5e0d296471da894b5257dd81aee5e3f598e51781f66e895d56baab6657b752ad", func := "suffrage/suffragelaw14.RankedNames", spec := "rankedNames", inPlace := ["slices.overlaps[suffrage/api.Row]"], unfollowed := true, recurses := true, apart := false, narrowed := true }
def RankedNamesUptoSaid : Prop := rankedNamesUptoRow.holds Tryz.pinned (OpenSpec.upto rankedNamesSpec)

end Rows
end Go.Proofs.YtolbceckbnifmaaGreat
