/-
  Ballots in plain terms: places, order, validity, restriction. No program is named here.
-/
import Derived.Test.YtleniljhacnikaaMem
namespace Go.Proofs.Ytleniljhacnikaa

/-- The place of the first x in a list, counted from k; -1 if there is none. -/
def placeS : List Int → Int → Int → Int
  | [], _, _ => -1
  | y :: r, x, k => if y = x then k else placeS r x (k + 1)

def inR (lo hi x : Int) : Bool := decide (lo ≤ x) && decide (x < hi)

def sortedB : List Int → Bool
  | [] => true
  | [_] => true
  | a :: b :: r => decide (a ≤ b) && sortedB (b :: r)

def nodupB (l : List Int) : Bool := decide l.Nodup

/-- A ballot of kind k with the marks ms is valid among c candidates. -/
def fineS (k : Int) (ms : List Int) (c : Int) : Bool :=
  if k = 3 then ms.all (fun x => inR 0 11 x) && decide ((ms.length : Int) = c)
  else if k = 2 then ms.all (fun x => inR 0 c x) && sortedB ms && nodupB ms
  else if k = 1 then ms.all (fun x => inR 0 c x) && nodupB ms
  else false

/-- The error of a ballot among c candidates. -/
def bcheckS (k : Int) (ms : List Int) (c : Int) : Int :=
  if c < 1 ∨ 10 < c then 2 else if fineS k ms c = true then 0 else 8

def cmpI (x y : Int) : Int := if x < y then -1 else if y < x then 1 else 0

/-- Lists in lexicographic order: -1, 0 or 1. -/
def cmpL : List Int → List Int → Int
  | [], [] => 0
  | [], _ :: _ => -1
  | _ :: _, [] => 1
  | x :: r, y :: s => if cmpI x y = 0 then cmpL r s else cmpI x y

def prefersS (k : Int) (ms : List Int) (x y : Int) : Bool :=
  if x < 0 ∨ y < 0 then false
  else if k = 1 then decide (0 ≤ placeS ms x 0) && (decide (placeS ms y 0 < 0) || decide (placeS ms x 0 < placeS ms y 0))
  else if k = 2 then decide (0 ≤ placeS ms x 0) && decide (placeS ms y 0 < 0)
  else if k = 3 then decide (x < ms.length) && decide (y < ms.length) && decide (ms.getD y.toNat 0 < ms.getD x.toNat 0)
  else false

theorem placeS_neg {xs : List Int} {x k : Int} (hk : 0 ≤ k) : placeS xs x k < 0 ↔ x ∉ xs := by
  induction xs generalizing k with
  | nil => simp [placeS]
  | cons y r ih =>
    unfold placeS
    split
    · rename_i h; subst h; simp; omega
    · rename_i h
      rw [ih (by omega)]
      simp
      intro _ e
      exact h e.symm

theorem placeS_nn {xs : List Int} {x : Int} (h : x ∈ xs) : 0 ≤ placeS xs x 0 := by
  have := mt (placeS_neg (xs := xs) (x := x) (Int.le_refl 0)).1 (fun hn => hn h)
  omega

theorem mem_take_of {xs : List Int} {m k : Nat} {u : Int} (h : xs[m]? = some u) (hk : m < k) : u ∈ xs.take k :=
  List.mem_of_getElem? (i := m) (by rw [List.getElem?_take_of_lt hk]; exact h)

theorem placeS_bd {xs : List Int} {x k : Int} (hk : 0 ≤ k) : -1 ≤ placeS xs x k ∧ placeS xs x k ≤ k + xs.length := by
  induction xs generalizing k with
  | nil => simp [placeS]; omega
  | cons y r ih =>
    unfold placeS
    have := ih (k := k + 1) (by omega)
    split <;> simp <;> omega

theorem inR_iff {lo hi x : Int} : inR lo hi x = true ↔ lo ≤ x ∧ x < hi := by simp [inR]

end Go.Proofs.Ytleniljhacnikaa
