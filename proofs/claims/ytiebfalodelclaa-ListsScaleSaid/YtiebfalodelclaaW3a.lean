/-
  The reference's naturals: words of 32 bits; numbers of one word.
-/
import Derived.Test.YtiebfalodelclaaOwn
import Derived.Test.YtiebfalodelclaaW8a
import Derived.Deep.Cut
namespace Go.Proofs.Ytiebfalodelclaa
open Go.RowKit Go.Proofs
attribute [local go_sem] cell?_more cell?_alloc_some cell?_setCell_far frozen?_alloc_some frozen?_more

/-- A number of one word. -/
def lm (a : Int) : List Int := if a = 0 then [] else [a]
theorem lm_zero : lm 0 = [] := rfl
theorem lm_pos {a : Int} (h : a ≠ 0) : lm a = [a] := by unfold lm; rw [if_neg h]
theorem lm_len (a : Int) : (lm a).length ≤ 1 := by unfold lm; split <;> simp
/-- It is trimmed. -/
def okW (xs : List Int) : Prop := xs.length ≤ 96 ∧ ∀ x, xs.getLast? = some x → x ≠ 0
theorem lm_ok (a : Int) : okW (lm a) := by
  unfold lm okW
  split
  · exact ⟨by simp, fun x h => by simp at h⟩
  · rename_i h; exact ⟨by simp, fun x hx => by simp at hx; subst hx; exact h⟩
theorem one_ok : okW [1] := ⟨by simp, fun x hx => by simp at hx; subst hx; omega⟩

end Go.Proofs.Ytiebfalodelclaa
