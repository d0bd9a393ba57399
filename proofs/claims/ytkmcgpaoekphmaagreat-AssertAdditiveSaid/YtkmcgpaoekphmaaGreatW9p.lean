/-
  The program's Add.
-/
import Derived.Test.YtkmcgpaoekphmaaGreatW9y
namespace Go.Proofs.YtkmcgpaoekphmaaGreat
open Go.RowKit Go.Proofs
attribute [local go_sem] cell?_more cell?_alloc_some cell?_setCell_far frozen?_alloc_some frozen?_more
def cutS (y : Int) : Int := if 1000001 < y then 1000001 else y
/-- y ballots more, of one kind of marks. -/
def addP (c k : Int) (l : List Row) (kb : Int) (mb : List Int) (y : Int) : PR :=
  if mayR c k l kb mb y = 0 then wholeP c k (putS l mb (cutS y)) else badP (mayR c k l kb mb y)

/-- A ballot's marks are ten at most. -/
theorem marks_small {c k : Int} {ms : List Int} (h : bcheckS k ms c = 0) : ms.length ≤ 10 := by
  by_cases hc : 1 ≤ c ∧ c ≤ 10
  · by_cases hk : 1 ≤ k ∧ k ≤ 3
    · exact (row_small (c := c) (k := k) (l := [(ms, 1)]) (check_iff.2 ⟨by simp, hc.1, hc.2, hk.1, hk.2, by simp [totS], List.pairwise_singleton _ _, by intro x hx; simp at hx; subst hx; show (0 : Int) < 1; omega, by intro x hx; simp at hx; subst hx; exact h⟩) (List.mem_singleton.2 rfl)).1
    · exfalso
      have hf : fineS k ms c = false := by unfold fineS; rw [if_neg (by omega), if_neg (by omega), if_neg (by omega)]
      unfold bcheckS at h
      rw [if_neg (by omega), hf] at h
      simp at h
  · unfold bcheckS at h
    rw [if_pos (by omega)] at h
    cases h



end Go.Proofs.YtkmcgpaoekphmaaGreat
