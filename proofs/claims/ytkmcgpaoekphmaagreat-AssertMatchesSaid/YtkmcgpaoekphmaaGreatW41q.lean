/-
  The reference of contests: names, Check.
-/
import Derived.Test.YtkmcgpaoekphmaaGreatW41i
namespace Go.Proofs.YtkmcgpaoekphmaaGreat
open Go.RowKit Go.Proofs Go.Shelf
attribute [local go_sem] cell?_more cell?_alloc_some cell?_setCell_far frozen?_alloc_some frozen?_more
theorem seatsOf_is (r : Nat) : seatsOf r = if 5 ≤ r ∧ r ≤ 10 then 1 else if 14 ≤ r ∧ r ≤ 16 then 3 else if 1 ≤ r ∧ r ≤ 16 then 2 else 0 := by
  by_cases h : r < 17
  · have : r = 0 ∨ r = 1 ∨ r = 2 ∨ r = 3 ∨ r = 4 ∨ r = 5 ∨ r = 6 ∨ r = 7 ∨ r = 8 ∨ r = 9 ∨ r = 10 ∨ r = 11 ∨ r = 12 ∨ r = 13 ∨ r = 14 ∨ r = 15 ∨ r = 16 := by omega
    rcases this with rfl | rfl | rfl | rfl | rfl | rfl | rfl | rfl | rfl | rfl | rfl | rfl | rfl | rfl | rfl | rfl | rfl <;> rfl
  · rw [if_neg (by omega), if_neg (by omega), if_neg (by omega)]
    unfold seatsOf
    rw [List.getD_eq_getElem?_getD, List.getElem?_eq_none (by show 17 ≤ r; omega)]; rfl
/-- May there be such a contest? -/
def mayB (name : ByteArray) (cs : List ByteArray) (seats : Int) (rule : Nat) : Bool :=
  nmB name && decide (1 ≤ cs.length ∧ cs.length ≤ 10) && !oddB cs && !twS cs && fitsB rule seats cs.length
theorem contest_may {name : ByteArray} {cs : List ByteArray} {seats : Int} {rule : Nat} (h : cs.length ≤ 10) : contestE name cs seats rule = if mayB name cs seats rule = true then 0 else 8 := by
  unfold contestE mayB
  rw [if_neg (by omega)]
  by_cases h0 : cs.length = 0
  · rw [if_pos (.inl h0), decide_eq_false (by omega)]; simp
  · rw [decide_eq_true (by omega)]
    cases nmB name <;> cases oddB cs <;> cases twS cs <;> cases fitsB rule seats cs.length <;> simp [h0]
theorem may_seats {name : ByteArray} {cs : List ByteArray} {seats : Int} {rule : Nat} (h : seats < 1 ∨ 10 < seats) : mayB name cs seats rule = false := by
  unfold mayB fitsB; rw [if_pos h]; simp
theorem may_rule {name : ByteArray} {cs : List ByteArray} {seats : Int} {rule : Nat} (h : ¬ (1 ≤ rule ∧ rule ≤ 16)) : mayB name cs seats rule = false := by
  have hs : seatsOf rule = 0 := by rw [seatsOf_is, if_neg (by omega), if_neg (by omega), if_neg h]
  unfold mayB fitsB
  rw [hs]
  split <;> simp
theorem may_odd {name : ByteArray} {cs : List ByteArray} {seats : Int} {rule : Nat} (h : oddB cs = true) : mayB name cs seats rule = false := by unfold mayB; rw [h]; simp
theorem may_tw {name : ByteArray} {cs : List ByteArray} {seats : Int} {rule : Nat} (h : twS cs = true) : mayB name cs seats rule = false := by unfold mayB; rw [h]; simp

/-- How long the strings are. -/
def StrsLe (name : ByteArray) (cs : List ByteArray) : Prop := name.size ≤ 9223372036854775807 ∧ ∀ s ∈ cs, s.size ≤ 9223372036854775807
end Go.Proofs.YtkmcgpaoekphmaaGreat
