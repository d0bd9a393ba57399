/-
  Sum, in the program and in the reference.
  Sum in the reference.
  Rename, in the program.
  Rename in the reference.
  Wins, in the program.
  Wins, in the reference.
  Of, in the program.
-/
import Derived.Test.YtiebfalodelclaaGreatW10a
import Derived.Test.YtiebfalodelclaaGreatSpecA
import Derived.Test.YtiebfalodelclaaGreatOwn
import Derived.Deep.OwnRows
namespace Go.Proofs.YtiebfalodelclaaGreat
open Go.RowKit Go.Proofs
attribute [local go_sem] cell?_more cell?_alloc_some cell?_setCell_far frozen?_alloc_some frozen?_more
theorem Has.new3 (w : World) (o o' : Obj) (t : Nat) (cs : Array Value) : Has (((w.alloc o).alloc o').alloc (.cells cs t)) (w.heap.size + 2) t cs := by
  have := Has.new2 (w.alloc o) o' t cs
  simpa using this
theorem Has.new4 (w : World) (o o' o'' : Obj) (t : Nat) (cs : Array Value) : Has ((((w.alloc o).alloc o').alloc o'').alloc (.cells cs t)) (w.heap.size + 3) t cs := by
  have := Has.new3 (w.alloc o) o' o'' t cs
  simpa using this

section
variable {ops : Array Oper} {rest : List Oper} {o : Oper} {a : Act} {w : World} {Q : Exit → Act → World → Prop}
end

end Go.Proofs.YtiebfalodelclaaGreat

namespace Go.Proofs.YtiebfalodelclaaGreat
open Go.RowKit Go.Proofs
attribute [local go_sem] cell?_more cell?_alloc_some cell?_setCell_far frozen?_alloc_some frozen?_more
end Go.Proofs.YtiebfalodelclaaGreat

namespace Go.Proofs.YtiebfalodelclaaGreat
open Go.RowKit Go.Proofs
attribute [local go_sem] cell?_more cell?_alloc_some cell?_setCell_far frozen?_alloc_some frozen?_more
/-- An element of a permutation: a number below ten. -/
theorem turned_elem {p : List Int} (ht : turnedS p = true) {X : Nat} {v : Int} (h : p[X]? = some v) : ∃ u : Nat, v = (u : Int) ∧ u < 10 := by
  have := (turned_iff.1 ht).2.2 v (List.mem_of_getElem? h)
  exact ⟨v.toNat, by omega, by omega⟩

end Go.Proofs.YtiebfalodelclaaGreat

namespace Go.Proofs.YtiebfalodelclaaGreat
open Go.RowKit Go.Proofs
attribute [local go_sem] cell?_more cell?_alloc_some cell?_setCell_far frozen?_alloc_some frozen?_more
end Go.Proofs.YtiebfalodelclaaGreat

namespace Go.Proofs.YtiebfalodelclaaGreat
open Go.RowKit Go.Proofs
attribute [local go_sem] cell?_more cell?_alloc_some cell?_setCell_far frozen?_alloc_some frozen?_more
/-- The n cells D are the numbers f 0, f 1, .. -/
structure Vec (D : Array Value) (n : Nat) (f : Nat → Int) : Prop where
  size : D.size = n
  at_ : ∀ i, i < n → D[i]? = some (.int .i64 (f i))

theorem Vec.congr {D : Array Value} {n : Nat} {f f' : Nat → Int} (h : Vec D n f) (e : ∀ i, i < n → f i = f' i) : Vec D n f' :=
  ⟨h.size, fun i hi => by rw [h.at_ i hi, e i hi]⟩
theorem Vec.put {D : Array Value} {n : Nat} {f : Nat → Int} (h : Vec D n f) {k : Nat} (hk : k < n) (v : Int) :
    Vec (D.setIfInBounds k (.int .i64 v)) n (fun i => if i = k then v else f i) := by
  refine ⟨by simp [h.size], fun i hi => ?_⟩
  by_cases e : i = k
  · subst e; rw [Array.getElem?_setIfInBounds_self_of_lt (by have := h.size; omega)]; simp
  · rw [Array.getElem?_setIfInBounds_ne (by omega), h.at_ i hi, if_neg e]
theorem Vec.made (n : Nat) : Vec (madeCells #[.int .i64 0] n) n (fun _ => 0) := by
  refine ⟨size_madeCells _ _, fun i hi => ?_⟩
  rw [← Array.getElem?_toList, toList_madeCells_one, List.getElem?_replicate, if_pos hi]
/-- A vector in memory is a slice of numbers. -/
theorem Vec.ints {D : Array Value} {n : Nat} {f : Nat → Int} (h : Vec D n f) {w : World} {g t : Nat} (hg : Has w g t D) (hn : n ≤ 9223372036854775807) (hf : ∀ i, i < n → -9223372036854775808 ≤ f i ∧ f i ≤ 9223372036854775807) :
    RInts w (some ⟨g, 0, none⟩) n n ((List.range n).map f) := by
  refine ⟨by simp, Nat.le_refl _, hn, fun x hx => ?_, fun _ => ⟨g, 0, rfl, fun i hi => ?_⟩⟩
  · obtain ⟨i, hi, rfl⟩ := List.mem_map.1 hx
    exact hf i (List.mem_range.1 hi)
  · rw [Nat.zero_add, hg.cell, h.at_ i hi]
    simp [List.getD, hi]

section
variable {ops : Array Oper} {rest : List Oper} {o : Oper} {a : Act} {w : World} {Q : Exit → Act → World → Prop}
end


/-- The hundred and more ways: the answer is a slice of the wins, and an error. -/
def WinsPost (w : World) (m : M) (c : Int) (e : Ending) (w' : World) : Prop :=
  ∃ A n k, e = .returned (.tuple #[.slice A n k, .int .i64 (winErr m c)]) ∧ RInts w' A n k (winM m c) ∧ Below w.heap.size w w'

end Go.Proofs.YtiebfalodelclaaGreat

namespace Go.Proofs.YtiebfalodelclaaGreat
open Go.RowKit Go.Proofs
attribute [local go_sem] cell?_more cell?_alloc_some cell?_setCell_far frozen?_alloc_some frozen?_more
end Go.Proofs.YtiebfalodelclaaGreat

namespace Go.Proofs.YtiebfalodelclaaGreat
open Go.RowKit Go.Proofs
attribute [local go_sem] cell?_more cell?_alloc_some cell?_setCell_far frozen?_alloc_some frozen?_more
/-- The answer of Of: a matrix and an error. -/
def POfPost (w : World) (c k : Int) (l : List Row) (e : Ending) (w' : World) : Prop :=
  ∃ R, e = .returned (.tuple #[.agg R, .int .i64 (checkS c k l)]) ∧ Mat R (ofR c k l) ∧ Below w.heap.size w w'

end Go.Proofs.YtiebfalodelclaaGreat
