/-
  Profiles in plain terms: validity, the number of ballots. No program is named here.
-/
import Derived.Test.YtleniljhacnikaaPerm
namespace Go.Proofs.Ytleniljhacnikaa

def allN (n : Nat) (p : Nat → Bool) : Bool := (List.range n).all p

theorem allN_true {n : Nat} {p : Nat → Bool} : allN n p = true ↔ ∀ i, i < n → p i = true := by simp [allN, List.all_eq_true]
theorem allN_false {n i : Nat} {p : Nat → Bool} (hi : i < n) (h : p i = false) : allN n p = false := by
  rw [← Bool.not_eq_true, allN_true]; intro hh; rw [hh i hi] at h; cases h

/-- The error of a number of candidates and a kind. -/
def newErr (c k : Int) : Int := if c < 1 ∨ 10 < c ∨ k < 1 ∨ 3 < k then 2 else 0

/-- Row i of a profile is valid and in its place. -/
def rowOK (c k : Int) (l : List Row) (i : Nat) : Bool :=
  (decide (i = 0) || decide (cmpL (l.getD (i - 1) ([], 0)).1 (l.getD i ([], 0)).1 < 0)) && decide (0 < (l.getD i ([], 0)).2) && decide (bcheckS k (l.getD i ([], 0)).1 c = 0)

def totS (l : List Row) : Int := (l.map (·.2)).sum

/-- The error of a profile. -/
def checkS (c k : Int) (l : List Row) : Int :=
  if 64 < l.length then 9
  else if allN l.length (rowOK c k l) = false ∨ newErr c k ≠ 0 then 8
  else if 1000000 < totS l then 4
  else 0

theorem totS_take_succ {l : List Row} {i : Nat} {r : Row} (h : l[i]? = some r) : totS (l.take (i + 1)) = totS (l.take i) + r.2 := by
  unfold totS
  rw [List.take_add_one, h]
  simp

theorem rowOK_many {c k : Int} {l : List Row} {i : Nat} (h : rowOK c k l i = true) : 0 < (l.getD i ([], 0)).2 := by
  simp only [rowOK, Bool.and_eq_true, decide_eq_true_eq] at h
  exact h.1.2

theorem getD_of {l : List Row} {i : Nat} {r : Row} (h : l[i]? = some r) : l.getD i ([], 0) = r := by simp [List.getD, h]

theorem totS_nn {l : List Row} {n : Nat} (h : ∀ i, i < n → 0 < (l.getD i ([], 0)).2) (hn : n ≤ l.length) : 0 ≤ totS (l.take n) := by
  induction n with
  | zero => simp [totS]
  | succ n ih =>
    have hl : n < l.length := by omega
    have he := List.getElem?_eq_getElem hl
    rw [totS_take_succ he]
    have h1 := ih (fun i hi => h i (by omega)) (by omega)
    have h2 := h n (by omega)
    rw [getD_of he] at h2
    omega

theorem newErr_bad {c k : Int} : newErr c k ≠ 0 ↔ (c < 1 ∨ 10 < c ∨ k < 1 ∨ 3 < k) := by
  unfold newErr; split <;> simp [*]

theorem rowOK_eq {c k : Int} {l : List Row} {i : Nat} {ml ms : List Int} {yl y : Int} (h1 : l[i - 1]? = some (ml, yl)) (h2 : l[i]? = some (ms, y)) :
    rowOK c k l i = ((decide (i = 0) || decide (cmpL ml ms < 0)) && decide (0 < y) && decide (bcheckS k ms c = 0)) := by
  unfold rowOK
  rw [getD_of h1, getD_of h2]

/-- The sum of the counts of the first i rows, cut at 1000001. -/
def capS (l : List Row) (i : Nat) : Int := if 1000001 < totS (l.take i) then 1000001 else totS (l.take i)

theorem capS_bd {l : List Row} {i : Nat} (h : 0 ≤ totS (l.take i)) : 0 ≤ capS l i ∧ capS l i ≤ 1000001 := by unfold capS; split <;> omega
theorem capS_next {l : List Row} {i : Nat} {r : Row} (h : l[i]? = some r) (h0 : 0 < r.2) (ht : 0 ≤ totS (l.take i)) {v : Int}
    (hv : v = if 1000001 < capS l i + r.2 then 1000001 else capS l i + r.2) : v = capS l (i + 1) := by
  subst hv
  unfold capS
  rw [totS_take_succ h]
  repeat' split
  all_goals omega

theorem totS_mono {l : List Row} (h : ∀ i, i < l.length → 0 < (l.getD i ([], 0)).2) {a b : Nat} (hab : a ≤ b) (hb : b ≤ l.length) : totS (l.take a) ≤ totS (l.take b) := by
  induction b with
  | zero => obtain rfl : a = 0 := by omega
            omega
  | succ b ih =>
    by_cases e : a = b + 1
    · subst e; omega
    · have h1 := ih (by omega) (by omega)
      have hl : b < l.length := by omega
      have he := List.getElem?_eq_getElem hl
      have h2 := h b hl
      rw [getD_of he] at h2
      rw [totS_take_succ he]
      omega
end Go.Proofs.Ytleniljhacnikaa
