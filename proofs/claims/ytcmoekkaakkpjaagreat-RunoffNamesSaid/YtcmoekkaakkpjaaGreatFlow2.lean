/-
  Regions that draw their order: what only yields values comes as soon as it is ready, behind effects too. No program is named here.
-/
import Derived.Test.YtcmoekkaakkpjaaGreatFlow
namespace Go.Proofs.YtcmoekkaakkpjaaGreat
open Go.RowKit

section
variable {P : Program} {md : Region.Mode} {Q : Exit → Act → World → Prop} {C : World → Prop}
/-- What is listed is closed under waiting: a test. -/
def shutB (md : Region.Mode) (ops : Array Oper) (listed : Array Bool) : Bool :=
  decide (listed.size = ops.size) && (List.range ops.size).all fun j => !listed.getD j false || (match ops[j]? with | some o => o.after.all fun e => !Region.binds md e || listed.getD e.on false | none => true)
theorem shut_of {ops : Array Oper} {listed : Array Bool} (h : shutB md ops listed = true) : Shut md ops listed := by
  unfold shutB at h
  rw [Bool.and_eq_true, decide_eq_true_eq, List.all_eq_true] at h
  refine ⟨h.1, fun j oj hj hl e he hb => ?_⟩
  have h1 := h.2 j (List.mem_range.2 (Array.getElem?_eq_some_iff.1 hj).1)
  rw [hl, hj] at h1
  simp only [Bool.not_true, Bool.false_or] at h1
  have h2 := Array.all_eq_true'.1 h1 e he
  rw [hb] at h2
  simpa using h2
theorem wp_region_flowz {id : Nat} {l : List Oper} {a : Act} {w : World} (ks kz : List Nat) (C : World → Prop) (hm : P.follows .mixedOrders = true)
    (hB : (Region.noSelect l.toArray && lexF .any l.toArray ks (Array.replicate l.length false) && decide (ks.length ≤ l.length) && ks.all kz.contains) = true) (hC : C { w with drawn := w.drawn + 1 })
    (h : wpQuiet P l.toArray C (fun a' => anyF P .any l.toArray (Calm Q) C kz (l.length - ks.length) (listedOf l.length ks) a' { w with drawn := w.drawn + 1 }) (pickOps l ks) a) : (Code.region id l.toArray true).wp P Q a w := by
  refine Code.wp_mono Calm.imp ?_
  refine wp_region_any hm ?_
  simp only [Bool.and_eq_true, decide_eq_true_eq, List.all_eq_true] at hB
  have inv0 : Shut .any l.toArray (Array.replicate l.length false) := ⟨by simp, fun j oj _ hl => (by rw [getD_replicate_false] at hl; cases hl)⟩
  have := flow_lex (P := P) (md := .any) (Q := Calm Q) (g := l.length - ks.length) (kz := kz) hB.1.1.1 (fun c a a' w h => (h : False).elim) _ hC ks _ a (fun k h => by simpa using hB.2 k h) inv0 hB.1.1.2 (fun a' h' => h') h
  rw [show ks.length + (l.length - ks.length) = l.toArray.size by simp; omega] at this
  have h2 := any_of_flow _ _ _ _ this
  simpa using h2
/-- What yields values alone, now. -/
theorem flow_pure {l : List Oper} {kz : List Nat} (ks : List Nat) {f : Nat} {listed : Array Bool} {a : Act} {w : World}
    (hB : (Region.noSelect l.toArray && shutB md l.toArray listed && lexF md l.toArray ks listed && decide (ks.length ≤ f) && ks.all kz.contains) = true) (hC : C w)
    (h : wpQuiet P l.toArray C (fun a' => anyF P md l.toArray (Calm Q) C kz (f - ks.length) (ks.foldl (fun l k => l.setIfInBounds k true) listed) a' w) (pickOps l ks) a) : anyF P md l.toArray (Calm Q) C kz f listed a w := by
  simp only [Bool.and_eq_true, decide_eq_true_eq, List.all_eq_true] at hB
  have := flow_lex (P := P) (md := md) (Q := Calm Q) (g := f - ks.length) (kz := kz) hB.1.1.1.1 (fun c a a' w h => (h : False).elim) w hC ks listed a (fun k h => by simpa using hB.2 k h) (shut_of hB.1.1.1.2) hB.1.1.2 (fun a' h' => h') h
  rwa [show ks.length + (f - ks.length) = f by omega] at this
end
end Go.Proofs.YtcmoekkaakkpjaaGreat
