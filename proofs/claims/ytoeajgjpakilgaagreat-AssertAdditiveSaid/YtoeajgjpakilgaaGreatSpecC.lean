/-
  The reference's naturals: words of 32 bits; numbers of one word.
-/
import Derived.Test.YtoeajgjpakilgaaGreatOwn
import Derived.Test.YtoeajgjpakilgaaGreatW8a
import Derived.Test.YtoeajgjpakilgaaGreatSpecM
import Derived.Deep.Cut
namespace Go.Proofs.YtoeajgjpakilgaaGreat
open Go.RowKit Go.Proofs
attribute [local go_sem] cell?_more cell?_alloc_some cell?_setCell_far frozen?_alloc_some frozen?_more
/-- A number of one word. -/
def lm (a : Int) : List Int := if a = 0 then [] else [a]
theorem lm_zero : lm 0 = [] := rfl
end Go.Proofs.YtoeajgjpakilgaaGreat

/-
  Counts: who is best, who is last in the lot, the rounds of a runoff. No program is named here.
-/
namespace Go.Proofs.YtoeajgjpakilgaaGreat

/-- A ratio: its sign, the words of its numerator, those of its denominator. -/
abbrev Rat3 := Bool × List Int × List Int
/-- A number that is not negative, as a ratio. -/
def wholeS (n : Int) : Rat3 := (false, lm n, [1])
/-- A round: who had how many, how many were lost, who was elected, who is out. -/
abbrev Rnd := List Rat3 × Rat3 × List Int × List Int
/-- An outcome: who is elected, the rounds, the ties. -/
abbrev Outc := List Int × List Rnd × List Row

def inL (l : List Int) (x : Int) : Bool := decide (x ∈ l)
def getI (h : List Int) (c : Int) : Int := h.getD c.toNat 0
theorem inL_iff {l : List Int} {x : Int} : inL l x = true ↔ x ∈ l := by unfold inL; simp

/-- Who has the most, in the order of among. -/
def bestS (f : Int → Int) (among : List Int) : List Int := among.filter fun c => among.all fun k => decide (f k ≤ f c)
/-- The candidate of among that comes last in the lot. -/
def lastS (lot among : List Int) : Int := (lot.reverse.find? (inL among)).getD 0
/-- Who wins a round. -/
def winS (left had : List Int) : Option Int := left.find? fun c => decide (left.length = 1) || decide (had.sum < 2 * getI had c)
def tiedS (ts : List Row) (among : List Int) (x : Int) : List Row := if among.length < 2 then ts else ts ++ [(among, x)]
def rndS (had : List Int) (lost : Int) (el out : List Int) : Rnd := (had.map wholeS, wholeS lost, el, out)
def leastS (had left : List Int) : List Int := bestS (fun c => - getI had c) left
def outS (left : List Int) (x : Int) : List Int := left.filter fun y => !decide (y = x)
/-- The count from a state on. -/
def countS (l : List Row) (n : Nat) (lot : List Int) : Nat → List Int → List Rnd → List Row → Outc
  | 0, _, rs, ts => ([], rs, ts)
  | f + 1, left, rs, ts =>
    match winS left (hadL (inL left) l n) with
    | some x => ([x], rs ++ [rndS (hadL (inL left) l n) (lostS (inL left) l) [x] []], ts)
    | none => countS l n lot f (outS left (lastS lot (leastS (hadL (inL left) l n) left)))
        (rs ++ [rndS (hadL (inL left) l n) (lostS (inL left) l) [] [lastS lot (leastS (hadL (inL left) l n) left)]])
        (tiedS ts (leastS (hadL (inL left) l n) left) (lastS lot (leastS (hadL (inL left) l n) left)))

end Go.Proofs.YtoeajgjpakilgaaGreat
