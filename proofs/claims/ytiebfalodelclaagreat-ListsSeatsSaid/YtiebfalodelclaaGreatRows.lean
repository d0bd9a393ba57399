/-
  No cell of these rows narrows 'for every input' (looked for: loops, veiled, ifaces, maps, wideKeys, modest, calm, conditions, laid).
  DERIVED. THE GIVEN ROWS OF THIS SEAT. 3 by the template 'for every input the law returns true; each argument reads behind the call as it read before'; 0 by the template 'total and deterministic' (their statements: YtiebfalodelclaaGreatTotals.lean).
  GIVEN WITH THE SEED: the statements are not yours to turn. If you find one false, say at which input.
  Laid BY PROGRAM, IN A SANDBOX (cutbox-rows.mjs): the forced cells as the released guide's own fill.sh prints them over the translation c489c8c45a9789cb… (all of the seat's roots in one cut). By AI agents, Wed Nov 11 2026. No macro, syntax, notation, axiom, sorry.
-/
import Derived.Test.YtiebfalodelclaaGreatChecked
import GoSem.Claim
import GoSem.ClaimJoined
import GoSem.ClaimMapViews
import Derived.JoinedTies
import Derived.KernelRfl
namespace Go.Proofs.YtiebfalodelclaaGreat
/- THE CELL 'sum', in the pinned program and in every row, IS THE sha256 OF THE DUMP (.gsa) THAT YtiebfalodelclaaGreatProg.lean LOADS. Nothing in Lean hashes anything: it is a label: what it is worth is what the hold of that sum in a sandbox is worth. -/
noncomputable def Tryz.pinned : Pinned := { name := "ytiebfalodelclaagreat", sum := "c489c8c45a9789cba991fb3b2093028f6298393642ec4bd7d446b654089d7936", checked := Tryz.checked }
namespace Rows
def none {H : Type} : Left H := { results := [], args := [] }

/-- 'suffragelaw20.ListsTells': WHATEVER THE INPUT: true; the input reads as it did. -/
def listsTellsSpec : ChangeSpec := { name := "listsTells", fn := fun _ => fun
  | [d1, d2, d3] => { results := [.lit (.bool true)], args := [d1, d2, d3] }
  | _ => none }
def listsTellsRow : OpenClaim := { program := "ytiebfalodelclaagreat", sum := "c489c8c45a9789cba991fb3b2093028f6298393642ec4bd7d446b654089d7936", func := "suffrage/suffragelaw20.ListsTells", spec := "listsTells", unfollowed := true, recurses := true, apart := false }
def ListsTellsSaid : Prop := listsTellsRow.holds Tryz.pinned (OpenSpec.ofChange listsTellsSpec)

/-- ITS FALSE NEIGHBOUR: 'it returns false'. Refute it at one input. -/
def listsTellsWrong : ChangeSpec := { name := "listsTells", fn := fun _ => fun
  | [d1, d2, d3] => { results := [.lit (.bool false)], args := [d1, d2, d3] }
  | _ => none }
def ListsTellsWrongFalsely : Prop := listsTellsRow.holds Tryz.pinned (OpenSpec.ofChange listsTellsWrong)

/-- 'suffragelaw20.ListsSeats': WHATEVER THE INPUT: true; the input reads as it did. -/
def listsSeatsSpec : ChangeSpec := { name := "listsSeats", fn := fun _ => fun
  | [d1, d2, d3, d4] => { results := [.lit (.bool true)], args := [d1, d2, d3, d4] }
  | _ => none }
def listsSeatsRow : OpenClaim := { program := "ytiebfalodelclaagreat", sum := "c489c8c45a9789cba991fb3b2093028f6298393642ec4bd7d446b654089d7936", func := "suffrage/suffragelaw20.ListsSeats", spec := "listsSeats", unfollowed := true, recurses := true, apart := false }
def ListsSeatsSaid : Prop := listsSeatsRow.holds Tryz.pinned (OpenSpec.ofChange listsSeatsSpec)

/-- ITS FALSE NEIGHBOUR: 'it returns false'. Refute it at one input. -/
def listsSeatsWrong : ChangeSpec := { name := "listsSeats", fn := fun _ => fun
  | [d1, d2, d3, d4] => { results := [.lit (.bool false)], args := [d1, d2, d3, d4] }
  | _ => none }
def ListsSeatsWrongFalsely : Prop := listsSeatsRow.holds Tryz.pinned (OpenSpec.ofChange listsSeatsWrong)

/-- 'suffragelaw20.ListsNames': WHATEVER THE INPUT: true; the input reads as it did. -/
def listsNamesSpec : ChangeSpec := { name := "listsNames", fn := fun _ => fun
  | [d1, d2, d3, d4, d5] => { results := [.lit (.bool true)], args := [d1, d2, d3, d4, d5] }
  | _ => none }
def listsNamesRow : OpenClaim := { program := "ytiebfalodelclaagreat", sum := "c489c8c45a9789cba991fb3b2093028f6298393642ec4bd7d446b654089d7936", func := "suffrage/suffragelaw20.ListsNames", spec := "listsNames", inPlace := ["slices.overlaps[suffrage/api.Row]"], unfollowed := true, recurses := true, apart := false }
def ListsNamesSaid : Prop := listsNamesRow.holds Tryz.pinned (OpenSpec.ofChange listsNamesSpec)

/-- ITS FALSE NEIGHBOUR: 'it returns false'. Refute it at one input. -/
def listsNamesWrong : ChangeSpec := { name := "listsNames", fn := fun _ => fun
  | [d1, d2, d3, d4, d5] => { results := [.lit (.bool false)], args := [d1, d2, d3, d4, d5] }
  | _ => none }
def ListsNamesWrongFalsely : Prop := listsNamesRow.holds Tryz.pinned (OpenSpec.ofChange listsNamesWrong)

/- THE SECOND FORM. 'bulk': how many values and letters a reading holds, each counted each time it is reached (what is shared counts as often as it is met; a slice's spare places count too). A statement '..UptoSaid' is the law's where the arguments, and the package variables that the reading takes, are together of bulk at most 1048576: NARROWER than '..Said'. Prove '..Said' where nothing that the law and all that it calls make is longer than what came in: it says more and counts as full. Else prove '..UptoSaid'. A law counts once. -/
mutual
def uptoBulk {H : Type} : DataW H → Nat
  | .lit (.string bytes) => bytes.length + 1
  | .lit _ => 1
  | .nil => 1
  | .ptr d => uptoBulk d + 1
  | .slice elems spare => uptoBulkAll elems + uptoBulkAll spare + 1
  | .agg parts => uptoBulkAll parts + 1
  | .iface _ d => uptoBulk d + 1
  | .map entries => uptoBulkEntries entries + 1
  | .held _ => 1
def uptoBulkAll {H : Type} : List (DataW H) → Nat
  | [] => 0
  | d :: r => uptoBulk d + uptoBulkAll r
def uptoBulkEntries {H : Type} : List (Lit × DataW H) → Nat
  | [] => 0
  | x :: r => uptoBulkEntry x + uptoBulkEntries r
def uptoBulkEntry {H : Type} : Lit × DataW H → Nat
  | (.string bytes, d) => bytes.length + uptoBulk d + 1
  | (_, d) => uptoBulk d + 1
 end
def uptoSmall : (H : Type) → List (DataW H) → Bool := fun _ ds => decide (uptoBulkAll ds ≤ 1048576)
def OpenSpec.upto (s : _root_.Go.ChangeSpec) : _root_.Go.OpenSpec := { _root_.Go.OpenSpec.ofChange s with cond := some uptoSmall }

/-- 'suffragelaw20.ListsTells', WHERE WHAT IT READS IS OF BULK AT MOST 1048576: true; the input reads as it did. -/
def listsTellsUptoRow : OpenClaim := { program := "ytiebfalodelclaagreat", sum := "c489c8c45a9789cba991fb3b2093028f6298393642ec4bd7d446b654089d7936", func := "suffrage/suffragelaw20.ListsTells", spec := "listsTells", unfollowed := true, recurses := true, apart := false, narrowed := true }
def ListsTellsUptoSaid : Prop := listsTellsUptoRow.holds Tryz.pinned (OpenSpec.upto listsTellsSpec)

/-- 'suffragelaw20.ListsSeats', WHERE WHAT IT READS IS OF BULK AT MOST 1048576: true; the input reads as it did. -/
def listsSeatsUptoRow : OpenClaim := { program := "ytiebfalodelclaagreat", sum := "c489c8c45a9789cba991fb3b2093028f6298393642ec4bd7d446b654089d7936", func := "suffrage/suffragelaw20.ListsSeats", spec := "listsSeats", unfollowed := true, recurses := true, apart := false, narrowed := true }
def ListsSeatsUptoSaid : Prop := listsSeatsUptoRow.holds Tryz.pinned (OpenSpec.upto listsSeatsSpec)

/-- 'suffragelaw20.ListsNames', WHERE WHAT IT READS IS OF BULK AT MOST 1048576: true; the input reads as it did. -/
def listsNamesUptoRow : OpenClaim := { program := "ytiebfalodelclaagreat", sum := "c489c8c45a9789cba991fb3b2093028f6298393642ec4bd7d446b654089d7936", func := "suffrage/suffragelaw20.ListsNames", spec := "listsNames", inPlace := ["slices.overlaps[suffrage/api.Row]"], unfollowed := true, recurses := true, apart := false, narrowed := true }
def ListsNamesUptoSaid : Prop := listsNamesUptoRow.holds Tryz.pinned (OpenSpec.upto listsNamesSpec)

end Rows
end Go.Proofs.YtiebfalodelclaaGreat
