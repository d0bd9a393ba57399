/-
  No cell of these rows narrows 'for every input' (looked for: loops, veiled, ifaces, maps, wideKeys, modest, calm, conditions, laid).
  DERIVED. THE GIVEN ROWS OF THIS SEAT. 11 by the template 'for every input the law returns true; each argument reads behind the call as it read before'; 0 by the template 'total and deterministic' (their statements: YtleniljhacnikaaTotals.lean).
  GIVEN WITH THE SEED: the statements are not yours to turn. If you find one false, say at which input.
  Laid BY PROGRAM, IN A SANDBOX (cutbox-rows.mjs): the forced cells as the released guide's own fill.sh prints them over the translation e973332527e0a90e… (all of the seat's roots in one cut). By AI agents, Wed Nov 11 2026. No macro, syntax, notation, axiom, sorry.
-/
import Derived.Test.YtleniljhacnikaaChecked
import GoSem.Claim
import GoSem.ClaimJoined
import GoSem.ClaimMapViews
import Derived.JoinedTies
import Derived.KernelRfl
namespace Go.Proofs.Ytleniljhacnikaa
/- THE CELL 'sum', in the pinned program and in every row, IS THE sha256 OF THE DUMP (.gsa) THAT YtleniljhacnikaaProg.lean LOADS. Nothing in Lean hashes anything: it is a label: what it is worth is what the hold of that sum in a sandbox is worth. -/
noncomputable def Try.pinned : Pinned := { name := "ytleniljhacnikaa", sum := "e973332527e0a90ef8e358973ca05d4c305e26782a353aa2f7b60a31f9a5172f", checked := Try.checked }
namespace Rows
def none {H : Type} : Left H := { results := [], args := [] }

/-- 'suffragelaw10.PairsTells': WHATEVER THE INPUT: true; the input reads as it did. -/
def pairsTellsSpec : ChangeSpec := { name := "pairsTells", fn := fun _ => fun
  | [d1, d2, d3, d4, d5, d6, d7] => { results := [.lit (.bool true)], args := [d1, d2, d3, d4, d5, d6, d7] }
  | _ => none }
def pairsTellsRow : OpenClaim := { program := "ytleniljhacnikaa", sum := "e973332527e0a90ef8e358973ca05d4c305e26782a353aa2f7b60a31f9a5172f", func := "suffrage/suffragelaw10.PairsTells", spec := "pairsTells", unfollowed := true, recurses := true, apart := false }
def PairsTellsSaid : Prop := pairsTellsRow.holds Try.pinned (OpenSpec.ofChange pairsTellsSpec)

/-- ITS FALSE NEIGHBOUR: 'it returns false'. Refute it at one input. -/
def pairsTellsWrong : ChangeSpec := { name := "pairsTells", fn := fun _ => fun
  | [d1, d2, d3, d4, d5, d6, d7] => { results := [.lit (.bool false)], args := [d1, d2, d3, d4, d5, d6, d7] }
  | _ => none }
def PairsTellsWrongFalsely : Prop := pairsTellsRow.holds Try.pinned (OpenSpec.ofChange pairsTellsWrong)

/-- 'suffragelaw10.PairsWhole': WHATEVER THE INPUT: true; the input reads as it did. -/
def pairsWholeSpec : ChangeSpec := { name := "pairsWhole", fn := fun _ => fun
  | [d] => { results := [.lit (.bool true)], args := [d] }
  | _ => none }
def pairsWholeRow : OpenClaim := { program := "ytleniljhacnikaa", sum := "e973332527e0a90ef8e358973ca05d4c305e26782a353aa2f7b60a31f9a5172f", func := "suffrage/suffragelaw10.PairsWhole", spec := "pairsWhole", unfollowed := true, recurses := true, apart := false }
def PairsWholeSaid : Prop := pairsWholeRow.holds Try.pinned (OpenSpec.ofChange pairsWholeSpec)

/-- ITS FALSE NEIGHBOUR: 'it returns false'. Refute it at one input. -/
def pairsWholeWrong : ChangeSpec := { name := "pairsWhole", fn := fun _ => fun
  | [d] => { results := [.lit (.bool false)], args := [d] }
  | _ => none }
def PairsWholeWrongFalsely : Prop := pairsWholeRow.holds Try.pinned (OpenSpec.ofChange pairsWholeWrong)

/-- 'suffragelaw10.PairsSum': WHATEVER THE INPUT: true; the input reads as it did. -/
def pairsSumSpec : ChangeSpec := { name := "pairsSum", fn := fun _ => fun
  | [d1, d2] => { results := [.lit (.bool true)], args := [d1, d2] }
  | _ => none }
def pairsSumRow : OpenClaim := { program := "ytleniljhacnikaa", sum := "e973332527e0a90ef8e358973ca05d4c305e26782a353aa2f7b60a31f9a5172f", func := "suffrage/suffragelaw10.PairsSum", spec := "pairsSum", inPlace := ["slices.overlaps[suffrage/api.Row]"], unfollowed := true, recurses := true, apart := false }
def PairsSumSaid : Prop := pairsSumRow.holds Try.pinned (OpenSpec.ofChange pairsSumSpec)

/-- ITS FALSE NEIGHBOUR: 'it returns false'. Refute it at one input. -/
def pairsSumWrong : ChangeSpec := { name := "pairsSum", fn := fun _ => fun
  | [d1, d2] => { results := [.lit (.bool false)], args := [d1, d2] }
  | _ => none }
def PairsSumWrongFalsely : Prop := pairsSumRow.holds Try.pinned (OpenSpec.ofChange pairsSumWrong)

/-- 'suffragelaw09.ProfileKept': WHATEVER THE INPUT: true; the input reads as it did. -/
def profileKeptSpec : ChangeSpec := { name := "profileKept", fn := fun _ => fun
  | [d1, d2, d3] => { results := [.lit (.bool true)], args := [d1, d2, d3] }
  | _ => none }
def profileKeptRow : OpenClaim := { program := "ytleniljhacnikaa", sum := "e973332527e0a90ef8e358973ca05d4c305e26782a353aa2f7b60a31f9a5172f", func := "suffrage/suffragelaw09.ProfileKept", spec := "profileKept", inPlace := ["slices.overlaps[suffrage/api.Row]"], unfollowed := true, recurses := true, apart := false }
def ProfileKeptSaid : Prop := profileKeptRow.holds Try.pinned (OpenSpec.ofChange profileKeptSpec)

/-- ITS FALSE NEIGHBOUR: 'it returns false'. Refute it at one input. -/
def profileKeptWrong : ChangeSpec := { name := "profileKept", fn := fun _ => fun
  | [d1, d2, d3] => { results := [.lit (.bool false)], args := [d1, d2, d3] }
  | _ => none }
def ProfileKeptWrongFalsely : Prop := profileKeptRow.holds Try.pinned (OpenSpec.ofChange profileKeptWrong)

/-- 'suffragelaw09.ProfileTells': WHATEVER THE INPUT: true; the input reads as it did. -/
def profileTellsSpec : ChangeSpec := { name := "profileTells", fn := fun _ => fun
  | [d1, d2, d3, d4] => { results := [.lit (.bool true)], args := [d1, d2, d3, d4] }
  | _ => none }
def profileTellsRow : OpenClaim := { program := "ytleniljhacnikaa", sum := "e973332527e0a90ef8e358973ca05d4c305e26782a353aa2f7b60a31f9a5172f", func := "suffrage/suffragelaw09.ProfileTells", spec := "profileTells", inPlace := ["slices.overlaps[suffrage/api.Row]"], unfollowed := true, recurses := true, apart := false }
def ProfileTellsSaid : Prop := profileTellsRow.holds Try.pinned (OpenSpec.ofChange profileTellsSpec)

/-- ITS FALSE NEIGHBOUR: 'it returns false'. Refute it at one input. -/
def profileTellsWrong : ChangeSpec := { name := "profileTells", fn := fun _ => fun
  | [d1, d2, d3, d4] => { results := [.lit (.bool false)], args := [d1, d2, d3, d4] }
  | _ => none }
def ProfileTellsWrongFalsely : Prop := profileTellsRow.holds Try.pinned (OpenSpec.ofChange profileTellsWrong)

/-- 'suffragelaw10.PairsKept': WHATEVER THE INPUT: true; the input reads as it did. -/
def pairsKeptSpec : ChangeSpec := { name := "pairsKept", fn := fun _ => fun
  | [d1, d2, d3, d4] => { results := [.lit (.bool true)], args := [d1, d2, d3, d4] }
  | _ => none }
def pairsKeptRow : OpenClaim := { program := "ytleniljhacnikaa", sum := "e973332527e0a90ef8e358973ca05d4c305e26782a353aa2f7b60a31f9a5172f", func := "suffrage/suffragelaw10.PairsKept", spec := "pairsKept", inPlace := ["slices.overlaps[suffrage/api.Row]"], unfollowed := true, recurses := true, apart := false }
def PairsKeptSaid : Prop := pairsKeptRow.holds Try.pinned (OpenSpec.ofChange pairsKeptSpec)

/-- ITS FALSE NEIGHBOUR: 'it returns false'. Refute it at one input. -/
def pairsKeptWrong : ChangeSpec := { name := "pairsKept", fn := fun _ => fun
  | [d1, d2, d3, d4] => { results := [.lit (.bool false)], args := [d1, d2, d3, d4] }
  | _ => none }
def PairsKeptWrongFalsely : Prop := pairsKeptRow.holds Try.pinned (OpenSpec.ofChange pairsKeptWrong)

/-- 'suffragelaw09.ProfileOrder': WHATEVER THE INPUT: true; the input reads as it did. -/
def profileOrderSpec : ChangeSpec := { name := "profileOrder", fn := fun _ => fun
  | [d1, d2, d3, d4, d5, d6] => { results := [.lit (.bool true)], args := [d1, d2, d3, d4, d5, d6] }
  | _ => none }
def profileOrderRow : OpenClaim := { program := "ytleniljhacnikaa", sum := "e973332527e0a90ef8e358973ca05d4c305e26782a353aa2f7b60a31f9a5172f", func := "suffrage/suffragelaw09.ProfileOrder", spec := "profileOrder", inPlace := ["slices.overlaps[suffrage/api.Row]"], unfollowed := true, recurses := true, apart := false }
def ProfileOrderSaid : Prop := profileOrderRow.holds Try.pinned (OpenSpec.ofChange profileOrderSpec)

/-- ITS FALSE NEIGHBOUR: 'it returns false'. Refute it at one input. -/
def profileOrderWrong : ChangeSpec := { name := "profileOrder", fn := fun _ => fun
  | [d1, d2, d3, d4, d5, d6] => { results := [.lit (.bool false)], args := [d1, d2, d3, d4, d5, d6] }
  | _ => none }
def ProfileOrderWrongFalsely : Prop := profileOrderRow.holds Try.pinned (OpenSpec.ofChange profileOrderWrong)

/-- 'suffragelaw09.ProfileDoes': WHATEVER THE INPUT: true; the input reads as it did. -/
def profileDoesSpec : ChangeSpec := { name := "profileDoes", fn := fun _ => fun
  | [d1, d2, d3, d4] => { results := [.lit (.bool true)], args := [d1, d2, d3, d4] }
  | _ => none }
def profileDoesRow : OpenClaim := { program := "ytleniljhacnikaa", sum := "e973332527e0a90ef8e358973ca05d4c305e26782a353aa2f7b60a31f9a5172f", func := "suffrage/suffragelaw09.ProfileDoes", spec := "profileDoes", inPlace := ["slices.overlaps[suffrage/api.Row]"], unfollowed := true, recurses := true, apart := false }
def ProfileDoesSaid : Prop := profileDoesRow.holds Try.pinned (OpenSpec.ofChange profileDoesSpec)

/-- ITS FALSE NEIGHBOUR: 'it returns false'. Refute it at one input. -/
def profileDoesWrong : ChangeSpec := { name := "profileDoes", fn := fun _ => fun
  | [d1, d2, d3, d4] => { results := [.lit (.bool false)], args := [d1, d2, d3, d4] }
  | _ => none }
def ProfileDoesWrongFalsely : Prop := profileDoesRow.holds Try.pinned (OpenSpec.ofChange profileDoesWrong)

/-- 'suffragelaw09.ProfileBack': WHATEVER THE INPUT: true; the input reads as it did. -/
def profileBackSpec : ChangeSpec := { name := "profileBack", fn := fun _ => fun
  | [d1, d2, d3, d4, d5] => { results := [.lit (.bool true)], args := [d1, d2, d3, d4, d5] }
  | _ => none }
def profileBackRow : OpenClaim := { program := "ytleniljhacnikaa", sum := "e973332527e0a90ef8e358973ca05d4c305e26782a353aa2f7b60a31f9a5172f", func := "suffrage/suffragelaw09.ProfileBack", spec := "profileBack", inPlace := ["slices.overlaps[suffrage/api.Row]"], unfollowed := true, recurses := true, apart := false }
def ProfileBackSaid : Prop := profileBackRow.holds Try.pinned (OpenSpec.ofChange profileBackSpec)

/-- ITS FALSE NEIGHBOUR: 'it returns false'. Refute it at one input. -/
def profileBackWrong : ChangeSpec := { name := "profileBack", fn := fun _ => fun
  | [d1, d2, d3, d4, d5] => { results := [.lit (.bool false)], args := [d1, d2, d3, d4, d5] }
  | _ => none }
def ProfileBackWrongFalsely : Prop := profileBackRow.holds Try.pinned (OpenSpec.ofChange profileBackWrong)

/-- 'suffragelaw10.PairsNames': WHATEVER THE INPUT: true; the input reads as it did. -/
def pairsNamesSpec : ChangeSpec := { name := "pairsNames", fn := fun _ => fun
  | [d1, d2] => { results := [.lit (.bool true)], args := [d1, d2] }
  | _ => none }
def pairsNamesRow : OpenClaim := { program := "ytleniljhacnikaa", sum := "e973332527e0a90ef8e358973ca05d4c305e26782a353aa2f7b60a31f9a5172f", func := "suffrage/suffragelaw10.PairsNames", spec := "pairsNames", inPlace := ["slices.overlaps[suffrage/api.Row]"], unfollowed := true, recurses := true, apart := false }
def PairsNamesSaid : Prop := pairsNamesRow.holds Try.pinned (OpenSpec.ofChange pairsNamesSpec)

/-- ITS FALSE NEIGHBOUR: 'it returns false'. Refute it at one input. -/
def pairsNamesWrong : ChangeSpec := { name := "pairsNames", fn := fun _ => fun
  | [d1, d2] => { results := [.lit (.bool false)], args := [d1, d2] }
  | _ => none }
def PairsNamesWrongFalsely : Prop := pairsNamesRow.holds Try.pinned (OpenSpec.ofChange pairsNamesWrong)

/-- 'suffragelaw09.ProfileNames': WHATEVER THE INPUT: true; the input reads as it did. -/
def profileNamesSpec : ChangeSpec := { name := "profileNames", fn := fun _ => fun
  | [d1, d2, d3] => { results := [.lit (.bool true)], args := [d1, d2, d3] }
  | _ => none }
def profileNamesRow : OpenClaim := { program := "ytleniljhacnikaa", sum := "e973332527e0a90ef8e358973ca05d4c305e26782a353aa2f7b60a31f9a5172f", func := "suffrage/suffragelaw09.ProfileNames", spec := "profileNames", inPlace := ["slices.overlaps[suffrage/api.Row]"], unfollowed := true, recurses := true, apart := false }
def ProfileNamesSaid : Prop := profileNamesRow.holds Try.pinned (OpenSpec.ofChange profileNamesSpec)

/-- ITS FALSE NEIGHBOUR: 'it returns false'. Refute it at one input. -/
def profileNamesWrong : ChangeSpec := { name := "profileNames", fn := fun _ => fun
  | [d1, d2, d3] => { results := [.lit (.bool false)], args := [d1, d2, d3] }
  | _ => none }
def ProfileNamesWrongFalsely : Prop := profileNamesRow.holds Try.pinned (OpenSpec.ofChange profileNamesWrong)

/- THE SECOND FORM. 'bulk': how many values and letters a reading holds, each counted each time it is reached (what is shared counts as often as it is met; a slice's spare places count too). A statement '..UptoSaid' is the law's where the arguments, and the package variables that the reading takes, are together of bulk at most 1048576: NARROWER than '..Said'. Prove '..Said' where nothing that the law and all that it calls make is longer than what came in: it says more and counts as full. Else prove '..UptoSaid'. A law counts once. -/
mutual
def uptoBulk {H : Type} : DataW H → Nat
  | .lit (.string bytes) => bytes.length + 1
  | .lit _ => 1
  | .nil => 1
  | .ptr d => uptoBulk d + 1
  | .slice elems spare => uptoBulkAll elems + uptoBulkAll spare + 1
  | .agg parts => uptoBulkAll parts + 1
  | .iface _ d => uptoBulk d + 1
  | .map entries => uptoBulkEntries entries + 1
  | .held _ => 1
def uptoBulkAll {H : Type} : List (DataW H) → Nat
  | [] => 0
  | d :: r => uptoBulk d + uptoBulkAll r
def uptoBulkEntries {H : Type} : List (Lit × DataW H) → Nat
  | [] => 0
  | x :: r => uptoBulkEntry x + uptoBulkEntries r
def uptoBulkEntry {H : Type} : Lit × DataW H → Nat
  | (.string bytes, d) => bytes.length + uptoBulk d + 1
  | (_, d) => uptoBulk d + 1
 end
def uptoSmall : (H : Type) → List (DataW H) → Bool := fun _ ds => decide (uptoBulkAll ds ≤ 1048576)
def OpenSpec.upto (s : _root_.Go.ChangeSpec) : _root_.Go.OpenSpec := { _root_.Go.OpenSpec.ofChange s with cond := some uptoSmall }

/-- 'suffragelaw10.PairsTells', WHERE WHAT IT READS IS OF BULK AT MOST 1048576: true; the input reads as it did. -/
def pairsTellsUptoRow : OpenClaim := { program := "ytleniljhacnikaa", sum := "e973332527e0a90ef8e358973ca05d4c305e26782a353aa2f7b60a31f9a5172f", func := "suffrage/suffragelaw10.PairsTells", spec := "pairsTells", unfollowed := true, recurses := true, apart := false, narrowed := true }
def PairsTellsUptoSaid : Prop := pairsTellsUptoRow.holds Try.pinned (OpenSpec.upto pairsTellsSpec)

/-- 'suffragelaw10.PairsWhole', WHERE WHAT IT READS IS OF BULK AT MOST 1048576: true; the input reads as it did. -/
def pairsWholeUptoRow : OpenClaim := { program := "ytleniljhacnikaa", sum := "e973332527e0a90ef8e358973ca05d4c305e26782a353aa2f7b60a31f9a5172f", func := "suffrage/suffragelaw10.PairsWhole", spec := "pairsWhole", unfollowed := true, recurses := true, apart := false, narrowed := true }
def PairsWholeUptoSaid : Prop := pairsWholeUptoRow.holds Try.pinned (OpenSpec.upto pairsWholeSpec)

/-- 'suffragelaw10.PairsSum', WHERE WHAT IT READS IS OF BULK AT MOST 1048576: true; the input reads as it did. -/
def pairsSumUptoRow : OpenClaim := { program := "ytleniljhacnikaa", sum := "e973332527e0a90ef8e358973ca05d4c305e26782a353aa2f7b60a31f9a5172f", func := "suffrage/suffragelaw10.PairsSum", spec := "pairsSum", inPlace := ["slices.overlaps[suffrage/api.Row]"], unfollowed := true, recurses := true, apart := false, narrowed := true }
def PairsSumUptoSaid : Prop := pairsSumUptoRow.holds Try.pinned (OpenSpec.upto pairsSumSpec)

/-- 'suffragelaw09.ProfileKept', WHERE WHAT IT READS IS OF BULK AT MOST 1048576: true; the input reads as it did. -/
def profileKeptUptoRow : OpenClaim := { program := "ytleniljhacnikaa", sum := "e973332527e0a90ef8e358973ca05d4c305e26782a353aa2f7b60a31f9a5172f", func := "suffrage/suffragelaw09.ProfileKept", spec := "profileKept", inPlace := ["slices.overlaps[suffrage/api.Row]"], unfollowed := true, recurses := true, apart := false, narrowed := true }
def ProfileKeptUptoSaid : Prop := profileKeptUptoRow.holds Try.pinned (OpenSpec.upto profileKeptSpec)

/-- 'suffragelaw09.ProfileTells', WHERE WHAT IT READS IS OF BULK AT MOST 1048576: true; the input reads as it did. -/
def profileTellsUptoRow : OpenClaim := { program := "ytleniljhacnikaa", sum := "e973332527e0a90ef8e358973ca05d4c305e26782a353aa2f7b60a31f9a5172f", func := "suffrage/suffragelaw09.ProfileTells", spec := "profileTells", inPlace := ["slices.overlaps[suffrage/api.Row]"], unfollowed := true, recurses := true, apart := false, narrowed := true }
def ProfileTellsUptoSaid : Prop := profileTellsUptoRow.holds Try.pinned (OpenSpec.upto profileTellsSpec)

/-- 'suffragelaw10.PairsKept', WHERE WHAT IT READS IS OF BULK AT MOST 1048576: true; the input reads as it did. -/
def pairsKeptUptoRow : OpenClaim := { program := "ytleniljhacnikaa", sum := "e973332527e0a90ef8e358973ca05d4c305e26782a353aa2f7b60a31f9a5172f", func := "suffrage/suffragelaw10.PairsKept", spec := "pairsKept", inPlace := ["slices.overlaps[suffrage/api.Row]"], unfollowed := true, recurses := true, apart := false, narrowed := true }
def PairsKeptUptoSaid : Prop := pairsKeptUptoRow.holds Try.pinned (OpenSpec.upto pairsKeptSpec)

/-- 'suffragelaw09.ProfileOrder', WHERE WHAT IT READS IS OF BULK AT MOST 1048576: true; the input reads as it did. -/
def profileOrderUptoRow : OpenClaim := { program := "ytleniljhacnikaa", sum := "e973332527e0a90ef8e358973ca05d4c305e26782a353aa2f7b60a31f9a5172f", func := "suffrage/suffragelaw09.ProfileOrder", spec := "profileOrder", inPlace := ["slices.overlaps[suffrage/api.Row]"], unfollowed := true, recurses := true, apart := false, narrowed := true }
def ProfileOrderUptoSaid : Prop := profileOrderUptoRow.holds Try.pinned (OpenSpec.upto profileOrderSpec)

/-- 'suffragelaw09.ProfileDoes', WHERE WHAT IT READS IS OF BULK AT MOST 1048576: true; the input reads as it did. -/
def profileDoesUptoRow : OpenClaim := { program := "ytleniljhacnikaa", sum := "e973332527e0a90ef8e358973ca05d4c305e26782a353aa2f7b60a31f9a5172f", func := "suffrage/suffragelaw09.ProfileDoes", spec := "profileDoes", inPlace := ["slices.overlaps[suffrage/api.Row]"], unfollowed := true, recurses := true, apart := false, narrowed := true }
def ProfileDoesUptoSaid : Prop := profileDoesUptoRow.holds Try.pinned (OpenSpec.upto profileDoesSpec)

/-- 'suffragelaw09.ProfileBack', WHERE WHAT IT READS IS OF BULK AT MOST 1048576: true; the input reads as it did. -/
def profileBackUptoRow : OpenClaim := { program := "ytleniljhacnikaa", sum := "e973332527e0a90ef8e358973ca05d4c305e26782a353aa2f7b60a31f9a5172f", func := "suffrage/suffragelaw09.ProfileBack", spec := "profileBack", inPlace := ["slices.overlaps[suffrage/api.Row]"], unfollowed := true, recurses := true, apart := false, narrowed := true }
def ProfileBackUptoSaid : Prop := profileBackUptoRow.holds Try.pinned (OpenSpec.upto profileBackSpec)

/-- 'suffragelaw10.PairsNames', WHERE WHAT IT READS IS OF BULK AT MOST 1048576: true; the input reads as it did. -/
def pairsNamesUptoRow : OpenClaim := { program := "ytleniljhacnikaa", sum := "e973332527e0a90ef8e358973ca05d4c305e26782a353aa2f7b60a31f9a5172f", func := "suffrage/suffragelaw10.PairsNames", spec := "pairsNames", inPlace := ["slices.overlaps[suffrage/api.Row]"], unfollowed := true, recurses := true, apart := false, narrowed := true }
def PairsNamesUptoSaid : Prop := pairsNamesUptoRow.holds Try.pinned (OpenSpec.upto pairsNamesSpec)

/-- 'suffragelaw09.ProfileNames', WHERE WHAT IT READS IS OF BULK AT MOST 1048576: true; the input reads as it did. -/
def profileNamesUptoRow : OpenClaim := { program := "ytleniljhacnikaa", sum := "e973332527e0a90ef8e358973ca05d4c305e26782a353aa2f7b60a31f9a5172f", func := "suffrage/suffragelaw09.ProfileNames", spec := "profileNames", inPlace := ["slices.overlaps[suffrage/api.Row]"], unfollowed := true, recurses := true, apart := false, narrowed := true }
def ProfileNamesUptoSaid : Prop := profileNamesUptoRow.holds Try.pinned (OpenSpec.upto profileNamesSpec)

end Rows
end Go.Proofs.Ytleniljhacnikaa
