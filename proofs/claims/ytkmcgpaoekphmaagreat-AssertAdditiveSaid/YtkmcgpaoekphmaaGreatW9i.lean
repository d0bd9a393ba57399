/-
  The program's Twin.
  The library's BinarySearchFunc over rows; the program's place.
  The library's Insert of one row.
  The program's put.
  The program's whole, both, Sum.
  The program's Sum.
-/
import Derived.Test.YtkmcgpaoekphmaaGreatW9f
import Derived.Test.YtkmcgpaoekphmaaGreatSpecA
import Derived.Deep.RegionHeld3
import Derived.Maps.AppendAt
import Derived.Laws.CopyOwn
import Derived.Laws.Externs
import Derived.Deep.RegionWith
namespace Go.Proofs.YtkmcgpaoekphmaaGreat
open Go.RowKit Go.Proofs
attribute [local go_sem] cell?_more cell?_alloc_some cell?_setCell_far frozen?_alloc_some frozen?_more
/-- What Twin leaves: a profile whose rows are its own. -/
def TwinPost (w : World) (c k : Int) (l : List Row) (e : Ending) (w' : World) : Prop :=
  ∃ v, e = .returned (.agg #[.int .i64 c, .int .u8 k, v]) ∧ ORows w' w.heap.size v l ∧ Below w.heap.size w w'

end Go.Proofs.YtkmcgpaoekphmaaGreat

namespace Go.Proofs.YtkmcgpaoekphmaaGreat
open Go.RowKit Go.Proofs
attribute [local go_sem] cell?_more cell?_alloc_some cell?_setCell_far frozen?_alloc_some frozen?_more
/-- Are there ballots of the marks m? -/
def foundS (l : List Row) (m : List Int) : Bool := match l[plS l m]? with | some r => decide (r.1 = m) | none => false

end Go.Proofs.YtkmcgpaoekphmaaGreat

namespace Go.Proofs.YtkmcgpaoekphmaaGreat
open Go.RowKit Go.Proofs
attribute [local go_sem] cell?_more cell?_alloc_some cell?_setCell_far frozen?_alloc_some frozen?_more
section
variable {ops : Array Oper} {rest : List Oper} {o : Oper} {a : Act} {w : World} {Q : Exit → Act → World → Prop}
end

theorem two_cells {w : World} {gx : Nat} {u z : Value} (h0 : w.cell? ⟨gx, 0, none⟩ = some u) (h1 : w.cell? ⟨gx, 1, none⟩ = some z) : ∀ j x, ([u, z] : List Value)[j]? = some x → w.cell? ((⟨gx, 0, none⟩ : Addr).add j) = some x := by
  intro j x hj
  match j, hj with
  | 0, hj => simp at hj; subst hj; exact h0
  | 1, hj => simp at hj; subst hj; exact h1
theorem two_one {u : Value} (hu : u.oneCell' = true) (y : Int) : ∀ x ∈ ([u, .int .i64 y] : List Value), x.oneCell' = true := by
  intro x hx
  simp only [List.mem_cons, List.not_mem_nil, or_false] at hx
  rcases hx with rfl | rfl
  · exact hu
  · rfl

end Go.Proofs.YtkmcgpaoekphmaaGreat

namespace Go.Proofs.YtkmcgpaoekphmaaGreat
open Go.RowKit Go.Proofs
attribute [local go_sem] cell?_more cell?_alloc_some cell?_setCell_far frozen?_alloc_some frozen?_more
theorem foundS_true {l : List Row} {m : List Int} (h : foundS l m = true) : ∃ z, l[plS l m]? = some (m, z) := by
  unfold foundS at h
  split at h
  · rename_i r e
    have := of_decide_eq_true h
    exact ⟨r.2, by rw [e, ← this]⟩
  · cases h
theorem foundS_false {l : List Row} {m : List Int} (h : foundS l m = false) : ∀ z, l[plS l m]? ≠ some (m, z) := by
  intro z hz
  unfold foundS at h
  rw [hz] at h
  simp at h

end Go.Proofs.YtkmcgpaoekphmaaGreat

namespace Go.Proofs.YtkmcgpaoekphmaaGreat
open Go.RowKit Go.Proofs
attribute [local go_sem] cell?_more cell?_alloc_some cell?_setCell_far frozen?_alloc_some frozen?_more
end Go.Proofs.YtkmcgpaoekphmaaGreat

namespace Go.Proofs.YtkmcgpaoekphmaaGreat
open Go.RowKit Go.Proofs
attribute [local go_sem] cell?_more cell?_alloc_some cell?_setCell_far frozen?_alloc_some frozen?_more
theorem row_small {c k : Int} {l : List Row} (h : checkS c k l = 0) {x : Row} (hx : x ∈ l) : x.1.length ≤ 10 ∧ 0 < x.2 ∧ x.2 ≤ 1000000 := by
  obtain ⟨h1, h2, h3, h4, h5, h6, h7, h8, h9⟩ := check_iff.1 h
  have hb := h9 x hx
  refine ⟨?_, h8 x hx, Int.le_trans (le_tot h8 hx) h6⟩
  unfold bcheckS at hb
  split at hb
  · cases hb
  split at hb
  · rename_i hf
    unfold fineS at hf
    split at hf
    · simp only [Bool.and_eq_true, decide_eq_true_eq] at hf; omega
    split at hf
    · simp only [Bool.and_eq_true, List.all_eq_true] at hf
      have hn : x.1.Nodup := of_decide_eq_true hf.2
      have := hn.length_le_of_subset (fun z hz => mem_rangeI.2 (show 0 ≤ z ∧ z < ((10 : Nat) : Int) from by have := inR_iff.1 (hf.1.1 z hz); omega))
      rwa [length_rangeI] at this
    split at hf
    · simp only [Bool.and_eq_true, List.all_eq_true] at hf
      have hn : x.1.Nodup := of_decide_eq_true hf.2
      have := hn.length_le_of_subset (fun z hz => mem_rangeI.2 (show 0 ≤ z ∧ z < ((10 : Nat) : Int) from by have := inR_iff.1 (hf.1 z hz); omega))
      rwa [length_rangeI] at this
    · cases hf
  · cases hb

/-- A profile of its own and an error are handed back. -/
def PPostO (w : World) (r : PR) (e : Ending) (w' : World) : Prop :=
  ∃ A n cp, e = .returned (.tuple #[.agg #[.int .i64 r.c, .int .u8 r.k, .slice A n cp], .int .i64 r.err]) ∧ ORows w' w.heap.size (.slice A n cp) r.l ∧ Below w.heap.size w w'

end Go.Proofs.YtkmcgpaoekphmaaGreat
