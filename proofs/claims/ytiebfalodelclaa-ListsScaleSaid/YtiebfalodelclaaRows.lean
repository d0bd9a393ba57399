/-
  No cell of these rows narrows 'for every input' (looked for: loops, veiled, ifaces, maps, wideKeys, modest, calm, conditions, laid).
  DERIVED. THE GIVEN ROWS OF THIS SEAT. 5 by the template 'for every input the law returns true; each argument reads behind the call as it read before'; 0 by the template 'total and deterministic' (their statements: YtiebfalodelclaaTotals.lean).
  GIVEN WITH THE SEED: the statements are not yours to turn. If you find one false, say at which input.
  Laid BY PROGRAM, IN A SANDBOX (cutbox-rows.mjs): the forced cells as the released guide's own fill.sh prints them over the translation 2fc2192e98e78263… (all of the seat's roots in one cut). By AI agents, Wed Nov 11 2026. No macro, syntax, notation, axiom, sorry.
-/
import Derived.Test.YtiebfalodelclaaChecked
import GoSem.Claim
import GoSem.ClaimJoined
import GoSem.ClaimMapViews
import Derived.JoinedTies
import Derived.KernelRfl
namespace Go.Proofs.Ytiebfalodelclaa
/- THE CELL 'sum', in the pinned program and in every row, IS THE sha256 OF THE DUMP (.gsa) THAT YtiebfalodelclaaProg.lean LOADS. Nothing in Lean hashes anything: it is a label: what it is worth is what the hold of that sum in a sandbox is worth. -/
noncomputable def Try.pinned : Pinned := { name := "ytiebfalodelclaa", sum := "2fc2192e98e782631b31d55b2083723f0387c2b65d72f3083ab7bd63da558618", checked := Try.checked }
namespace Rows
def none {H : Type} : Left H := { results := [], args := [] }

/-- 'suffragelaw20.ListsStable': WHATEVER THE INPUT: true; the input reads as it did. -/
def listsStableSpec : ChangeSpec := { name := "listsStable", fn := fun _ => fun
  | [d1, d2, d3, d4] => { results := [.lit (.bool true)], args := [d1, d2, d3, d4] }
  | _ => none }
def listsStableRow : OpenClaim := { program := "ytiebfalodelclaa", sum := "2fc2192e98e782631b31d55b2083723f0387c2b65d72f3083ab7bd63da558618", func := "suffrage/suffragelaw20.ListsStable", spec := "listsStable", unfollowed := true, recurses := true, apart := false }
def ListsStableSaid : Prop := listsStableRow.holds Try.pinned (OpenSpec.ofChange listsStableSpec)

/-- ITS FALSE NEIGHBOUR: 'it returns false'. Refute it at one input. -/
def listsStableWrong : ChangeSpec := { name := "listsStable", fn := fun _ => fun
  | [d1, d2, d3, d4] => { results := [.lit (.bool false)], args := [d1, d2, d3, d4] }
  | _ => none }
def ListsStableWrongFalsely : Prop := listsStableRow.holds Try.pinned (OpenSpec.ofChange listsStableWrong)

/-- 'suffragelaw20.ListsMonotone': WHATEVER THE INPUT: true; the input reads as it did. -/
def listsMonotoneSpec : ChangeSpec := { name := "listsMonotone", fn := fun _ => fun
  | [d1, d2, d3, d4] => { results := [.lit (.bool true)], args := [d1, d2, d3, d4] }
  | _ => none }
def listsMonotoneRow : OpenClaim := { program := "ytiebfalodelclaa", sum := "2fc2192e98e782631b31d55b2083723f0387c2b65d72f3083ab7bd63da558618", func := "suffrage/suffragelaw20.ListsMonotone", spec := "listsMonotone", unfollowed := true, recurses := true, apart := false }
def ListsMonotoneSaid : Prop := listsMonotoneRow.holds Try.pinned (OpenSpec.ofChange listsMonotoneSpec)

/-- ITS FALSE NEIGHBOUR: 'it returns false'. Refute it at one input. -/
def listsMonotoneWrong : ChangeSpec := { name := "listsMonotone", fn := fun _ => fun
  | [d1, d2, d3, d4] => { results := [.lit (.bool false)], args := [d1, d2, d3, d4] }
  | _ => none }
def ListsMonotoneWrongFalsely : Prop := listsMonotoneRow.holds Try.pinned (OpenSpec.ofChange listsMonotoneWrong)

/-- 'suffragelaw20.ListsQuota': WHATEVER THE INPUT: true; the input reads as it did. -/
def listsQuotaSpec : ChangeSpec := { name := "listsQuota", fn := fun _ => fun
  | [d1, d2, d3] => { results := [.lit (.bool true)], args := [d1, d2, d3] }
  | _ => none }
def listsQuotaRow : OpenClaim := { program := "ytiebfalodelclaa", sum := "2fc2192e98e782631b31d55b2083723f0387c2b65d72f3083ab7bd63da558618", func := "suffrage/suffragelaw20.ListsQuota", spec := "listsQuota", unfollowed := true, recurses := true, apart := false }
def ListsQuotaSaid : Prop := listsQuotaRow.holds Try.pinned (OpenSpec.ofChange listsQuotaSpec)

/-- ITS FALSE NEIGHBOUR: 'it returns false'. Refute it at one input. -/
def listsQuotaWrong : ChangeSpec := { name := "listsQuota", fn := fun _ => fun
  | [d1, d2, d3] => { results := [.lit (.bool false)], args := [d1, d2, d3] }
  | _ => none }
def ListsQuotaWrongFalsely : Prop := listsQuotaRow.holds Try.pinned (OpenSpec.ofChange listsQuotaWrong)

/-- 'suffragelaw20.ListsLarger': WHATEVER THE INPUT: true; the input reads as it did. -/
def listsLargerSpec : ChangeSpec := { name := "listsLarger", fn := fun _ => fun
  | [d1, d2, d3, d4] => { results := [.lit (.bool true)], args := [d1, d2, d3, d4] }
  | _ => none }
def listsLargerRow : OpenClaim := { program := "ytiebfalodelclaa", sum := "2fc2192e98e782631b31d55b2083723f0387c2b65d72f3083ab7bd63da558618", func := "suffrage/suffragelaw20.ListsLarger", spec := "listsLarger", unfollowed := true, recurses := true, apart := false }
def ListsLargerSaid : Prop := listsLargerRow.holds Try.pinned (OpenSpec.ofChange listsLargerSpec)

/-- ITS FALSE NEIGHBOUR: 'it returns false'. Refute it at one input. -/
def listsLargerWrong : ChangeSpec := { name := "listsLarger", fn := fun _ => fun
  | [d1, d2, d3, d4] => { results := [.lit (.bool false)], args := [d1, d2, d3, d4] }
  | _ => none }
def ListsLargerWrongFalsely : Prop := listsLargerRow.holds Try.pinned (OpenSpec.ofChange listsLargerWrong)

/-- 'suffragelaw20.ListsScale': WHATEVER THE INPUT: true; the input reads as it did. -/
def listsScaleSpec : ChangeSpec := { name := "listsScale", fn := fun _ => fun
  | [d1, d2, d3, d4, d5] => { results := [.lit (.bool true)], args := [d1, d2, d3, d4, d5] }
  | _ => none }
def listsScaleRow : OpenClaim := { program := "ytiebfalodelclaa", sum := "2fc2192e98e782631b31d55b2083723f0387c2b65d72f3083ab7bd63da558618", func := "suffrage/suffragelaw20.ListsScale", spec := "listsScale", unfollowed := true, recurses := true, apart := false }
def ListsScaleSaid : Prop := listsScaleRow.holds Try.pinned (OpenSpec.ofChange listsScaleSpec)

/-- ITS FALSE NEIGHBOUR: 'it returns false'. Refute it at one input. -/
def listsScaleWrong : ChangeSpec := { name := "listsScale", fn := fun _ => fun
  | [d1, d2, d3, d4, d5] => { results := [.lit (.bool false)], args := [d1, d2, d3, d4, d5] }
  | _ => none }
def ListsScaleWrongFalsely : Prop := listsScaleRow.holds Try.pinned (OpenSpec.ofChange listsScaleWrong)

/- THE SECOND FORM. 'bulk': how many values and letters a reading holds, each counted each time it is reached (what is shared counts as often as it is met; a slice's spare places count too). A statement '..UptoSaid' is the law's where the arguments, and the package variables that the reading takes, are together of bulk at most 1048576: NARROWER than '..Said'. Prove '..Said' where nothing that the law and all that it calls make is longer than what came in: it says more and counts as full. Else prove '..UptoSaid'. A law counts once. -/
mutual
def uptoBulk {H : Type} : DataW H → Nat
  | .lit (.string bytes) => bytes.length + 1
  | .lit _ => 1
  | .nil => 1
  | .ptr d => uptoBulk d + 1
  | .slice elems spare => uptoBulkAll elems + uptoBulkAll spare + 1
  | .agg parts => uptoBulkAll parts + 1
  | .iface _ d => uptoBulk d + 1
  | .map entries => uptoBulkEntries entries + 1
  | .held _ => 1
def uptoBulkAll {H : Type} : List (DataW H) → Nat
  | [] => 0
  | d :: r => uptoBulk d + uptoBulkAll r
def uptoBulkEntries {H : Type} : List (Lit × DataW H) → Nat
  | [] => 0
  | x :: r => uptoBulkEntry x + uptoBulkEntries r
def uptoBulkEntry {H : Type} : Lit × DataW H → Nat
  | (.string bytes, d) => bytes.length + uptoBulk d + 1
  | (_, d) => uptoBulk d + 1
 end
def uptoSmall : (H : Type) → List (DataW H) → Bool := fun _ ds => decide (uptoBulkAll ds ≤ 1048576)
def OpenSpec.upto (s : _root_.Go.ChangeSpec) : _root_.Go.OpenSpec := { _root_.Go.OpenSpec.ofChange s with cond := some uptoSmall }

/-- 'suffragelaw20.ListsStable', WHERE WHAT IT READS IS OF BULK AT MOST 1048576: true; the input reads as it did. -/
def listsStableUptoRow : OpenClaim := { program := "ytiebfalodelclaa", sum := "2fc2192e98e782631b31d55b2083723f0387c2b65d72f3083ab7bd63da558618", func := "suffrage/suffragelaw20.ListsStable", spec := "listsStable", unfollowed := true, recurses := true, apart := false, narrowed := true }
def ListsStableUptoSaid : Prop := listsStableUptoRow.holds Try.pinned (OpenSpec.upto listsStableSpec)

/-- 'suffragelaw20.ListsMonotone', WHERE WHAT IT READS IS OF BULK AT MOST 1048576: true; the input reads as it did. -/
def listsMonotoneUptoRow : OpenClaim := { program := "ytiebfalodelclaa", sum := "2fc2192e98e782631b31d55b2083723f0387c2b65d72f3083ab7bd63da558618", func := "suffrage/suffragelaw20.ListsMonotone", spec := "listsMonotone", unfollowed := true, recurses := true, apart := false, narrowed := true }
def ListsMonotoneUptoSaid : Prop := listsMonotoneUptoRow.holds Try.pinned (OpenSpec.upto listsMonotoneSpec)

/-- 'suffragelaw20.ListsQuota', WHERE WHAT IT READS IS OF BULK AT MOST 1048576: true; the input reads as it did. -/
def listsQuotaUptoRow : OpenClaim := { program := "ytiebfalodelclaa", sum := "2fc2192e98e782631b31d55b2083723f0387c2b65d72f3083ab7bd63da558618", func := "suffrage/suffragelaw20.ListsQuota", spec := "listsQuota", unfollowed := true, recurses := true, apart := false, narrowed := true }
def ListsQuotaUptoSaid : Prop := listsQuotaUptoRow.holds Try.pinned (OpenSpec.upto listsQuotaSpec)

/-- 'suffragelaw20.ListsLarger', WHERE WHAT IT READS IS OF BULK AT MOST 1048576: true; the input reads as it did. -/
def listsLargerUptoRow : OpenClaim := { program := "ytiebfalodelclaa", sum := "2fc2192e98e782631b31d55b2083723f0387c2b65d72f3083ab7bd63da558618", func := "suffrage/suffragelaw20.ListsLarger", spec := "listsLarger", unfollowed := true, recurses := true, apart := false, narrowed := true }
def ListsLargerUptoSaid : Prop := listsLargerUptoRow.holds Try.pinned (OpenSpec.upto listsLargerSpec)

/-- 'suffragelaw20.ListsScale', WHERE WHAT IT READS IS OF BULK AT MOST 1048576: true; the input reads as it did. -/
def listsScaleUptoRow : OpenClaim := { program := "ytiebfalodelclaa", sum := "2fc2192e98e782631b31d55b2083723f0387c2b65d72f3083ab7bd63da558618", func := "suffrage/suffragelaw20.ListsScale", spec := "listsScale", unfollowed := true, recurses := true, apart := false, narrowed := true }
def ListsScaleUptoSaid : Prop := listsScaleUptoRow.holds Try.pinned (OpenSpec.upto listsScaleSpec)

end Rows
end Go.Proofs.Ytiebfalodelclaa
