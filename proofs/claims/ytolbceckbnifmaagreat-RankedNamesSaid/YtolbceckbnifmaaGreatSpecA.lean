/-
  Ballots in plain terms: places, order, validity, restriction. No program is named here.
  Permutations of the first numbers, in plain terms. No program is named here.
  Profiles in plain terms: validity, the number of ballots. No program is named here.
  Matrices of pairwise comparisons in plain terms. No program is named here.
  The sum of two matrices, renaming, wins: in plain terms. No program is named here.
  Renaming a matrix; wins: in plain terms. No program is named here.
  How many candidates one beats, in plain terms. No program is named here.
  The matrix of a profile, in plain terms. No program is named here.
  Lists in order; rows that are put into a profile and taken out of it: in plain terms. No program is named here.
  The matrix of a valid profile: what adds up. No program is named here.
  Sums of profiles in plain terms. No program is named here.
  The matrix of a sum of profiles is the sum of the matrices. No program is named here.
-/
import Derived.Test.YtolbceckbnifmaaGreatMem
namespace Go.Proofs.YtolbceckbnifmaaGreat

/-- The place of the first x in a list, counted from k; -1 if there is none. -/
def placeS : List Int → Int → Int → Int
  | [], _, _ => -1
  | y :: r, x, k => if y = x then k else placeS r x (k + 1)

def inR (lo hi x : Int) : Bool := decide (lo ≤ x) && decide (x < hi)

def sortedB : List Int → Bool
  | [] => true
  | [_] => true
  | a :: b :: r => decide (a ≤ b) && sortedB (b :: r)

def nodupB (l : List Int) : Bool := decide l.Nodup

/-- A ballot of kind k with the marks ms is valid among c candidates. -/
def fineS (k : Int) (ms : List Int) (c : Int) : Bool :=
  if k = 3 then ms.all (fun x => inR 0 11 x) && decide ((ms.length : Int) = c)
  else if k = 2 then ms.all (fun x => inR 0 c x) && sortedB ms && nodupB ms
  else if k = 1 then ms.all (fun x => inR 0 c x) && nodupB ms
  else false

/-- The error of a ballot among c candidates. -/
def bcheckS (k : Int) (ms : List Int) (c : Int) : Int :=
  if c < 1 ∨ 10 < c then 2 else if fineS k ms c = true then 0 else 8

def cmpI (x y : Int) : Int := if x < y then -1 else if y < x then 1 else 0

/-- Lists in lexicographic order: -1, 0 or 1. -/
def cmpL : List Int → List Int → Int
  | [], [] => 0
  | [], _ :: _ => -1
  | _ :: _, [] => 1
  | x :: r, y :: s => if cmpI x y = 0 then cmpL r s else cmpI x y

def prefersS (k : Int) (ms : List Int) (x y : Int) : Bool :=
  if x < 0 ∨ y < 0 then false
  else if k = 1 then decide (0 ≤ placeS ms x 0) && (decide (placeS ms y 0 < 0) || decide (placeS ms x 0 < placeS ms y 0))
  else if k = 2 then decide (0 ≤ placeS ms x 0) && decide (placeS ms y 0 < 0)
  else if k = 3 then decide (x < ms.length) && decide (y < ms.length) && decide (ms.getD y.toNat 0 < ms.getD x.toNat 0)
  else false

theorem placeS_neg {xs : List Int} {x k : Int} (hk : 0 ≤ k) : placeS xs x k < 0 ↔ x ∉ xs := by
  induction xs generalizing k with
  | nil => simp [placeS]
  | cons y r ih =>
    unfold placeS
    split
    · rename_i h; subst h; simp; omega
    · rename_i h
      rw [ih (by omega)]
      simp
      intro _ e
      exact h e.symm

theorem placeS_nn {xs : List Int} {x : Int} (h : x ∈ xs) : 0 ≤ placeS xs x 0 := by
  have := mt (placeS_neg (xs := xs) (x := x) (Int.le_refl 0)).1 (fun hn => hn h)
  omega

theorem mem_take_of {xs : List Int} {m k : Nat} {u : Int} (h : xs[m]? = some u) (hk : m < k) : u ∈ xs.take k :=
  List.mem_of_getElem? (i := m) (by rw [List.getElem?_take_of_lt hk]; exact h)

theorem placeS_bd {xs : List Int} {x k : Int} (hk : 0 ≤ k) : -1 ≤ placeS xs x k ∧ placeS xs x k ≤ k + xs.length := by
  induction xs generalizing k with
  | nil => simp [placeS]; omega
  | cons y r ih =>
    unfold placeS
    have := ih (k := k + 1) (by omega)
    split <;> simp <;> omega

theorem inR_iff {lo hi x : Int} : inR lo hi x = true ↔ lo ≤ x ∧ x < hi := by simp [inR]

end Go.Proofs.YtolbceckbnifmaaGreat

namespace Go.Proofs.YtolbceckbnifmaaGreat

/-- A permutation of the numbers from 0 on, at least one and at most ten. -/
def turnedS (p : List Int) : Bool := decide (1 ≤ p.length) && decide (p.length ≤ 10) && (List.range p.length).all fun i => decide ((i : Int) ∈ p)

def rangeI (n : Nat) : List Int := (List.range n).map fun i : Nat => (i : Int)

theorem mem_rangeI {n : Nat} {x : Int} : x ∈ rangeI n ↔ 0 ≤ x ∧ x < n := by
  unfold rangeI
  rw [List.mem_map]
  constructor
  · rintro ⟨i, hi, rfl⟩; rw [List.mem_range] at hi; omega
  · rintro ⟨h0, h1⟩; exact ⟨x.toNat, by rw [List.mem_range]; omega, by omega⟩

theorem nodup_rangeI (n : Nat) : (rangeI n).Nodup := by
  unfold rangeI List.Nodup
  rw [List.pairwise_map]
  exact (List.nodup_range (n := n)).imp fun h e => h (by omega)

theorem length_rangeI (n : Nat) : (rangeI n).length = n := by simp [rangeI]

theorem perm_of_subset {α : Type} [DecidableEq α] {l m : List α} (h1 : l.Nodup) (h2 : l ⊆ m) (h3 : m.length ≤ l.length) : l.Perm m := by
  induction l generalizing m with
  | nil => have : m = [] := List.eq_nil_of_length_eq_zero (by simpa using h3); subst this; exact .nil
  | cons a t ih =>
    have h1 := List.nodup_cons.1 h1
    have ha : a ∈ m := h2 (List.mem_cons_self ..)
    have hs : t ⊆ m.erase a := fun x hx => (List.mem_erase_of_ne (fun e => h1.1 (by rw [← e]; exact hx))).2 (h2 (List.mem_cons_of_mem _ hx))
    have hl : (m.erase a).length = m.length - 1 := List.length_erase_of_mem ha
    have := ih h1.2 hs (by rw [hl]; simp at h3; omega)
    exact (this.cons a).trans (List.perm_cons_erase ha).symm

theorem turned_perm {p : List Int} : turnedS p = true ↔ 1 ≤ p.length ∧ p.length ≤ 10 ∧ (rangeI p.length).Perm p := by
  simp only [turnedS, Bool.and_eq_true, decide_eq_true_eq, List.all_eq_true, List.mem_range]
  constructor
  · rintro ⟨⟨h1, h2⟩, h3⟩
    refine ⟨h1, h2, perm_of_subset (nodup_rangeI _) (fun x hx => ?_) (by rw [length_rangeI]; exact Nat.le_refl _)⟩
    have hx := mem_rangeI.1 hx
    have := h3 x.toNat (by omega)
    rwa [Int.toNat_of_nonneg hx.1] at this
  · rintro ⟨h1, h2, h3⟩
    exact ⟨⟨h1, h2⟩, fun i hi => h3.subset (mem_rangeI.2 (by omega))⟩

theorem turned_iff {p : List Int} : turnedS p = true ↔ 1 ≤ p.length ∧ p.Nodup ∧ ∀ x ∈ p, 0 ≤ x ∧ x < p.length ∧ x < 10 := by
  rw [turned_perm]
  constructor
  · rintro ⟨h1, h2, h3⟩
    refine ⟨h1, h3.nodup_iff.1 (nodup_rangeI _), fun x hx => ?_⟩
    have := mem_rangeI.1 (h3.symm.subset hx)
    omega
  · rintro ⟨h1, h2, h3⟩
    have hs : p ⊆ rangeI p.length := fun x hx => mem_rangeI.2 ⟨(h3 x hx).1, (h3 x hx).2.1⟩
    have hs10 : p ⊆ rangeI 10 := fun x hx => mem_rangeI.2 ⟨(h3 x hx).1, by have := (h3 x hx).2.2; omega⟩
    have hl := h2.length_le_of_subset hs10
    rw [length_rangeI] at hl
    exact ⟨h1, hl, (perm_of_subset h2 hs (by rw [length_rangeI]; exact Nat.le_refl _)).symm⟩
end Go.Proofs.YtolbceckbnifmaaGreat

namespace Go.Proofs.YtolbceckbnifmaaGreat

def allN (n : Nat) (p : Nat → Bool) : Bool := (List.range n).all p

theorem allN_true {n : Nat} {p : Nat → Bool} : allN n p = true ↔ ∀ i, i < n → p i = true := by simp [allN, List.all_eq_true]
theorem allN_false {n i : Nat} {p : Nat → Bool} (hi : i < n) (h : p i = false) : allN n p = false := by
  rw [← Bool.not_eq_true, allN_true]; intro hh; rw [hh i hi] at h; cases h

/-- The error of a number of candidates and a kind. -/
def newErr (c k : Int) : Int := if c < 1 ∨ 10 < c ∨ k < 1 ∨ 3 < k then 2 else 0

/-- Row i of a profile is valid and in its place. -/
def rowOK (c k : Int) (l : List Row) (i : Nat) : Bool :=
  (decide (i = 0) || decide (cmpL (l.getD (i - 1) ([], 0)).1 (l.getD i ([], 0)).1 < 0)) && decide (0 < (l.getD i ([], 0)).2) && decide (bcheckS k (l.getD i ([], 0)).1 c = 0)

def totS (l : List Row) : Int := (l.map (·.2)).sum

/-- The error of a profile. -/
def checkS (c k : Int) (l : List Row) : Int :=
  if 64 < l.length then 9
  else if allN l.length (rowOK c k l) = false ∨ newErr c k ≠ 0 then 8
  else if 1000000 < totS l then 4
  else 0

theorem totS_take_succ {l : List Row} {i : Nat} {r : Row} (h : l[i]? = some r) : totS (l.take (i + 1)) = totS (l.take i) + r.2 := by
  unfold totS
  rw [List.take_add_one, h]
  simp

theorem rowOK_many {c k : Int} {l : List Row} {i : Nat} (h : rowOK c k l i = true) : 0 < (l.getD i ([], 0)).2 := by
  simp only [rowOK, Bool.and_eq_true, decide_eq_true_eq] at h
  exact h.1.2

theorem getD_of {l : List Row} {i : Nat} {r : Row} (h : l[i]? = some r) : l.getD i ([], 0) = r := by simp [List.getD, h]

theorem totS_nn {l : List Row} {n : Nat} (h : ∀ i, i < n → 0 < (l.getD i ([], 0)).2) (hn : n ≤ l.length) : 0 ≤ totS (l.take n) := by
  induction n with
  | zero => simp [totS]
  | succ n ih =>
    have hl : n < l.length := by omega
    have he := List.getElem?_eq_getElem hl
    rw [totS_take_succ he]
    have h1 := ih (fun i hi => h i (by omega)) (by omega)
    have h2 := h n (by omega)
    rw [getD_of he] at h2
    omega

theorem newErr_bad {c k : Int} : newErr c k ≠ 0 ↔ (c < 1 ∨ 10 < c ∨ k < 1 ∨ 3 < k) := by
  unfold newErr; split <;> simp [*]

theorem rowOK_eq {c k : Int} {l : List Row} {i : Nat} {ml ms : List Int} {yl y : Int} (h1 : l[i - 1]? = some (ml, yl)) (h2 : l[i]? = some (ms, y)) :
    rowOK c k l i = ((decide (i = 0) || decide (cmpL ml ms < 0)) && decide (0 < y) && decide (bcheckS k ms c = 0)) := by
  unfold rowOK
  rw [getD_of h1, getD_of h2]

/-- The sum of the counts of the first i rows, cut at 1000001. -/
def capS (l : List Row) (i : Nat) : Int := if 1000001 < totS (l.take i) then 1000001 else totS (l.take i)

theorem capS_bd {l : List Row} {i : Nat} (h : 0 ≤ totS (l.take i)) : 0 ≤ capS l i ∧ capS l i ≤ 1000001 := by unfold capS; split <;> omega
theorem capS_next {l : List Row} {i : Nat} {r : Row} (h : l[i]? = some r) (h0 : 0 < r.2) (_ht : 0 ≤ totS (l.take i)) {v : Int}
    (hv : v = if 1000001 < capS l i + r.2 then 1000001 else capS l i + r.2) : v = capS l (i + 1) := by
  subst hv
  unfold capS
  rw [totS_take_succ h]
  repeat' split
  all_goals omega

theorem totS_mono {l : List Row} (h : ∀ i, i < l.length → 0 < (l.getD i ([], 0)).2) {a b : Nat} (hab : a ≤ b) (hb : b ≤ l.length) : totS (l.take a) ≤ totS (l.take b) := by
  induction b with
  | zero => obtain rfl : a = 0 := by omega
            omega
  | succ b ih =>
    by_cases e : a = b + 1
    · subst e; omega
    · have h1 := ih (by omega) (by omega)
      have hl : b < l.length := by omega
      have he := List.getElem?_eq_getElem hl
      have h2 := h b hl
      rw [getD_of he] at h2
      rw [totS_take_succ he]
      omega
end Go.Proofs.YtolbceckbnifmaaGreat

namespace Go.Proofs.YtolbceckbnifmaaGreat

abbrev M := Nat → Nat → Int

def I64 (v : Int) : Prop := -9223372036854775808 ≤ v ∧ v ≤ 9223372036854775807

def all2 (p : Nat → Nat → Bool) : Bool := (List.range 10).all fun x => (List.range 10).all fun y => p x y

theorem all2_true {p : Nat → Nat → Bool} : all2 p = true ↔ ∀ x y, x < 10 → y < 10 → p x y = true := by
  simp only [all2, List.all_eq_true, List.mem_range]
  exact ⟨fun h x y hx hy => h x hx y hy, fun h x hx y hy => h x y hx hy⟩
theorem all2_false {p : Nat → Nat → Bool} {x y : Nat} (hx : x < 10) (hy : y < 10) (h : p x y = false) : all2 p = false := by
  rw [← Bool.not_eq_true, all2_true]; intro hh; rw [hh x y hx hy] at h; cases h

def matEq (m m' : M) : Bool := all2 fun x y => decide (m x y = m' x y)

theorem matEq_iff {m m' : M} : matEq m m' = true ↔ ∀ x y, x < 10 → y < 10 → m x y = m' x y := by
  simp only [matEq, all2_true, decide_eq_true_eq]

/-- The places that are 0 in a matrix of c candidates. -/
def offP (c : Int) (x y : Nat) : Prop := x = y ∨ c ≤ (x : Int) ∨ c ≤ (y : Int)
instance (c : Int) (x y : Nat) : Decidable (offP c x y) := by unfold offP; infer_instance

/-- A matrix of c candidates is valid. -/
def rightS (m : M) (c : Int) : Bool :=
  decide (1 ≤ c) && decide (c ≤ 10) && all2 fun x y => decide (0 ≤ m x y ∧ m x y + m y x ≤ 1000000 ∧ (offP c x y → m x y = 0))

theorem rightS_iff {m : M} {c : Int} : rightS m c = true ↔ 1 ≤ c ∧ c ≤ 10 ∧ ∀ x y, x < 10 → y < 10 → 0 ≤ m x y ∧ m x y + m y x ≤ 1000000 ∧ (offP c x y → m x y = 0) := by
  simp only [rightS, Bool.and_eq_true, decide_eq_true_eq, all2_true, and_assoc]

/-- What the program asks of an entry. -/
def posP (m : M) (x y : Nat) : Prop := 0 ≤ m x y ∧ m x y ≤ 1000000 - min (max (m y x) 0) 1000000
/-- The matrix with 0 in the places that must be. -/
def onlyS (m : M) (c : Int) : M := fun x y => if offP c x y then 0 else m x y

theorem rightS_bad {m : M} {c : Int} {x y : Nat} (hx : x < 10) (hy : y < 10) (h : ¬ posP m x y) : rightS m c = false := by
  rw [← Bool.not_eq_true, rightS_iff]
  rintro ⟨_, _, hh⟩
  have h1 := hh x y hx hy
  have h2 := hh y x hy hx
  exact h ⟨h1.1, by omega⟩

theorem rightS_prog {m : M} {c : Int} (h1 : 1 ≤ c) (h2 : c ≤ 10) (h : ∀ x y, x < 10 → y < 10 → posP m x y) : rightS m c = matEq (onlyS m c) m := by
  rw [Bool.eq_iff_iff, rightS_iff, matEq_iff]
  constructor
  · rintro ⟨_, _, hh⟩ x y hx hy
    unfold onlyS
    split
    · rename_i ho; rw [(hh x y hx hy).2.2 ho]
    · rfl
  · intro hh
    refine ⟨h1, h2, fun x y hx hy => ⟨(h x y hx hy).1, ?_, fun ho => ?_⟩⟩
    · have a := h x y hx hy
      have b := h y x hy hx
      have a2 := a.2
      have b2 := b.2
      have a1 := a.1
      have b1 := b.1
      omega
    · have := hh x y hx hy
      unfold onlyS at this
      rw [if_pos ho] at this
      exact this.symm

/-- What the reference asks of an entry, and then of a pair. -/
def entP (m : M) (c : Int) (x y : Nat) : Prop := 0 ≤ m x y ∧ m x y ≤ 1000000 ∧ (m x y ≠ 0 → ¬ offP c x y)

theorem rightS_ent {m : M} {c : Int} {x y : Nat} (hx : x < 10) (hy : y < 10) (h : ¬ entP m c x y) : rightS m c = false := by
  rw [← Bool.not_eq_true, rightS_iff]
  rintro ⟨_, _, hh⟩
  have h1 := hh x y hx hy
  have h2 := hh y x hy hx
  exact h ⟨h1.1, by omega, fun h0 ho => h0 (h1.2.2 ho)⟩
theorem rightS_two {m : M} {c : Int} {x y : Nat} (hx : x < 10) (hy : y < 10) (h : 1000000 < m x y + m y x) : rightS m c = false := by
  rw [← Bool.not_eq_true, rightS_iff]
  rintro ⟨_, _, hh⟩
  have h1 := hh x y hx hy
  omega
theorem rightS_ref {m : M} {c : Int} (h1 : 1 ≤ c) (h2 : c ≤ 10) (h : ∀ x y, x < 10 → y < 10 → entP m c x y) (h' : ∀ x y : Nat, (x : Int) < c → (y : Int) < c → m x y + m y x ≤ 1000000) : rightS m c = true := by
  rw [rightS_iff]
  refine ⟨h1, h2, fun x y hx hy => ?_⟩
  have a := h x y hx hy
  have b := h y x hy hx
  have hz : offP c x y → m x y = 0 := fun ho => by
    by_cases e : m x y = 0
    · exact e
    · exact absurd ho (a.2.2 e)
  have hz' : offP c x y → m y x = 0 := fun ho => by
    have ho' : offP c y x := by unfold offP at *; omega
    by_cases e : m y x = 0
    · exact e
    · exact absurd ho' (b.2.2 e)
  refine ⟨a.1, ?_, hz⟩
  by_cases ho : offP c x y
  · rw [hz ho, hz' ho]; omega
  · unfold offP at ho; exact h' x y (by omega) (by omega)

def marginS (m : M) (x y : Int) : Int :=
  if inR 0 10 x = true ∧ inR 0 10 y = true ∧ rightS m 10 = true then m x.toNat y.toNat - m y.toNat x.toNat else 0
end Go.Proofs.YtolbceckbnifmaaGreat

namespace Go.Proofs.YtolbceckbnifmaaGreat

/-- A matrix that is changed from h to g, row by row: changed before (X, Y). -/
def upFrom (h g : M) (X Y : Nat) : M := fun a b => if a < X ∨ (a = X ∧ b < Y) then g a b else h a b

theorem upFrom_zero (h g : M) (a b : Nat) : h a b = upFrom h g 0 0 a b := by unfold upFrom; rw [if_neg (by omega)]
theorem upFrom_put {h g : M} {X Y : Nat} (a b : Nat) : (if a = X ∧ b = Y then g X Y else upFrom h g X Y a b) = upFrom h g X (Y + 1) a b := by
  unfold upFrom
  by_cases e : a = X ∧ b = Y
  · obtain ⟨rfl, rfl⟩ := e; rw [if_pos ⟨rfl, rfl⟩, if_pos (by omega)]
  · rw [if_neg e]
    by_cases e2 : a < X ∨ (a = X ∧ b < Y)
    · rw [if_pos e2, if_pos (by omega)]
    · rw [if_neg e2, if_neg (by omega)]
theorem upFrom_row {h g : M} {X : Nat} (a b : Nat) (hb : b < 10) : upFrom h g X 10 a b = upFrom h g (X + 1) 0 a b := by
  unfold upFrom
  by_cases e2 : a < X ∨ (a = X ∧ b < 10)
  · rw [if_pos e2, if_pos (by omega)]
  · rw [if_neg e2, if_neg (by omega)]
theorem upFrom_all {h g : M} (a b : Nat) (ha : a < 10) : upFrom h g 10 0 a b = g a b := by unfold upFrom; rw [if_pos (by omega)]
theorem upFrom_here {h g : M} (X Y : Nat) : upFrom h g X Y X Y = h X Y := by unfold upFrom; rw [if_neg (by omega)]

def sumA (a b : M) : M := fun x y => a x y + b x y
def sumErr (a b : M) : Int := if rightS a 10 = true ∧ rightS b 10 = true then (if rightS (sumA a b) 10 = true then 0 else 4) else 8
def sumM (a b : M) : M := if sumErr a b = 0 then sumA a b else fun _ _ => 0

theorem rightS_ten {m : M} (h : rightS m 10 = true) {x y : Nat} (hx : x < 10) (hy : y < 10) : 0 ≤ m x y ∧ m x y ≤ 1000000 := by
  have h1 := (rightS_iff.1 h).2.2 x y hx hy
  have h2 := (rightS_iff.1 h).2.2 y x hy hx
  exact ⟨h1.1, by omega⟩
end Go.Proofs.YtolbceckbnifmaaGreat

namespace Go.Proofs.YtolbceckbnifmaaGreat

def idx (p : List Int) (a : Nat) : Nat := p.idxOf (a : Int)

theorem idx_eq {p : List Int} (hn : p.Nodup) {X v : Nat} (h : p[X]? = some (v : Int)) (a : Nat) : idx p a = X ↔ a = v := by
  obtain ⟨hX, hv⟩ := List.getElem?_eq_some_iff.1 h
  unfold idx
  constructor
  · intro e
    have h1 : p.idxOf (a : Int) < p.length := by omega
    have h2 := List.getElem_idxOf h1
    simp only [e] at h2
    omega
  · rintro rfl
    rw [← hv]
    exact hn.idxOf_getElem X hX

/-- The renamed matrix as it is being made. -/
def renT (m : M) (p : List Int) (X Y : Nat) : M := fun a b =>
  if idx p a < p.length ∧ idx p b < p.length ∧ (idx p a < X ∨ (idx p a = X ∧ idx p b < Y)) then m (idx p a) (idx p b) else 0
def renA (m : M) (p : List Int) : M := fun a b => if idx p a < p.length ∧ idx p b < p.length then m (idx p a) (idx p b) else 0
def renErr (m : M) (p : List Int) : Int := if turnedS p = true then (if rightS m p.length = true then 0 else 8) else 2
def renM (m : M) (p : List Int) : M := if renErr m p = 0 then renA m p else fun _ _ => 0

theorem renT_zero (m : M) (p : List Int) (a b : Nat) : 0 = renT m p 0 0 a b := by unfold renT; rw [if_neg (by omega)]
theorem renT_put {m : M} {p : List Int} (hn : p.Nodup) {X Y u v : Nat} (hu : p[X]? = some (u : Int)) (hv : p[Y]? = some (v : Int)) (a b : Nat) :
    (if a = u ∧ b = v then m X Y else renT m p X Y a b) = renT m p X (Y + 1) a b := by
  have h1 := idx_eq hn hu a
  have h2 := idx_eq hn hv b
  have hX := (List.getElem?_eq_some_iff.1 hu).1
  have hY := (List.getElem?_eq_some_iff.1 hv).1
  unfold renT
  by_cases e : a = u ∧ b = v
  · have e1 := h1.2 e.1
    have e2 := h2.2 e.2
    rw [if_pos e, if_pos (by omega), e1, e2]
  · rw [if_neg e]
    by_cases e2 : idx p a < p.length ∧ idx p b < p.length ∧ (idx p a < X ∨ (idx p a = X ∧ idx p b < Y))
    · rw [if_pos e2, if_pos (by omega)]
    · rw [if_neg e2, if_neg (by omega)]
theorem renT_row {m : M} {p : List Int} {X : Nat} (a b : Nat) : renT m p X p.length a b = renT m p (X + 1) 0 a b := by
  unfold renT
  by_cases e2 : idx p a < p.length ∧ idx p b < p.length ∧ (idx p a < X ∨ (idx p a = X ∧ idx p b < p.length))
  · rw [if_pos e2, if_pos (by omega)]
  · rw [if_neg e2, if_neg (by omega)]
theorem renT_all {m : M} {p : List Int} (a b : Nat) : renT m p p.length 0 a b = renA m p a b := by
  unfold renT renA
  by_cases e2 : idx p a < p.length ∧ idx p b < p.length
  · rw [if_pos e2, if_pos (by omega)]
  · rw [if_neg e2, if_neg (by omega)]

/-- How many candidates one beats. -/
def winsOf (m : M) (c x : Nat) : Nat := ((List.range c).filter fun y => decide (m y x < m x y)).length
def winsS (m : M) (c : Int) : List Int := (List.range c.toNat).map fun x => (winsOf m c.toNat x : Int)
def winsErr (m : M) (c : Int) : Int := if 1 ≤ c ∧ c ≤ 10 then (if rightS m c = true then 0 else 8) else 2
end Go.Proofs.YtolbceckbnifmaaGreat

namespace Go.Proofs.YtolbceckbnifmaaGreat

/-- How many of the first Y candidates x beats. -/
def cntS (m : M) (x : Nat) : Nat → Nat
  | 0 => 0
  | Y + 1 => cntS m x Y + if m Y x < m x Y then 1 else 0

theorem cntS_yes {m : M} {x Y : Nat} (h : m Y x < m x Y) : cntS m x (Y + 1) = cntS m x Y + 1 := by rw [cntS, if_pos h]
theorem cntS_no {m : M} {x Y : Nat} (h : ¬ m Y x < m x Y) : cntS m x (Y + 1) = cntS m x Y := by rw [cntS, if_neg h]; omega
theorem cntS_le (m : M) (x : Nat) : ∀ Y, cntS m x Y ≤ Y
  | 0 => Nat.le_refl _
  | Y + 1 => by have := cntS_le m x Y; unfold cntS; split <;> omega

theorem cntS_right {m : M} {c : Nat} (h : rightS m c = true) {x : Nat} (hx : x < 10) : ∀ Y, c ≤ Y → Y ≤ 10 → cntS m x Y = cntS m x c
  | 0, h1, _ => by rw [show c = 0 by omega]
  | Y + 1, h1, h2 => by
    by_cases e : c = Y + 1
    · rw [e]
    · have hr := (rightS_iff.1 h).2.2
      have a1 := (hr x Y hx (by omega)).2.2 (.inr (.inr (by omega)))
      have a2 := (hr Y x (by omega) hx).2.2 (.inr (.inl (by omega)))
      rw [cntS_no (by omega), cntS_right h hx Y (by omega) (by omega)]

def winsL (m : M) (c : Nat) : List Int := (List.range c).map fun x => (cntS m x c : Int)
def winErr (m : M) (c : Int) : Int := if 1 ≤ c ∧ c ≤ 10 then (if rightS m c = true then 0 else 8) else 2
def winM (m : M) (c : Int) : List Int := if winErr m c = 0 then winsL m c.toNat else []

/-- The wins as they are being counted: all of the rows before X, and of row X the columns before Y. -/
def winT (m : M) (X Y : Nat) : Nat → Int := fun i => if i < X then (cntS m i 10 : Int) else if i = X then (cntS m X Y : Int) else 0

theorem winT_zero (m : M) (i : Nat) : 0 = winT m 0 0 i := by unfold winT; rw [if_neg (by omega)]; split <;> simp [cntS]
theorem winT_here (m : M) (X Y : Nat) : winT m X Y X = (cntS m X Y : Int) := by unfold winT; rw [if_neg (by omega), if_pos rfl]
theorem winT_put {m : M} {X Y : Nat} (h : m Y X < m X Y) (i : Nat) : (if i = X then (cntS m X Y : Int) + 1 else winT m X Y i) = winT m X (Y + 1) i := by
  unfold winT
  by_cases e : i = X
  · subst e; rw [if_pos rfl, if_neg (by omega), if_pos rfl, cntS_yes h]; omega
  · rw [if_neg e, if_neg e, if_neg e]
theorem winT_no {m : M} {X Y : Nat} (h : ¬ m Y X < m X Y) (i : Nat) : winT m X Y i = winT m X (Y + 1) i := by
  unfold winT; rw [cntS_no h]
theorem winT_row {m : M} {X : Nat} (i : Nat) : winT m X 10 i = winT m (X + 1) 0 i := by
  unfold winT
  by_cases e : i < X
  · rw [if_pos e, if_pos (by omega)]
  · rw [if_neg e]
    by_cases e2 : i = X
    · subst e2; rw [if_pos rfl, if_pos (by omega)]
    · rw [if_neg e2, if_neg (by omega)]; split <;> simp [cntS]
theorem winT_all {m : M} {c : Nat} (h : rightS m c = true) (i : Nat) (hi : i < c) : winT m c 0 i = (cntS m i c : Int) := by
  have hc := rightS_iff.1 h
  unfold winT; rw [if_pos hi, cntS_right h (by omega) 10 (by omega) (Nat.le_refl _)]
end Go.Proofs.YtolbceckbnifmaaGreat

namespace Go.Proofs.YtolbceckbnifmaaGreat

/-- How many ballots of the first i rows prefer x to y. -/
def ofS (k : Int) (l : List Row) (i x y : Nat) : Int := ((l.take i).map fun r => if prefersS k r.1 x y = true then r.2 else 0).sum
def ofM (k : Int) (l : List Row) (c i : Nat) : M := fun x y => if x < c ∧ y < c then ofS k l i x y else 0
def ofR (c k : Int) (l : List Row) : M := if checkS c k l = 0 then ofM k l c.toNat l.length else fun _ _ => 0

theorem ofS_succ {k : Int} {l : List Row} {i x y : Nat} {r : Row} (h : l[i]? = some r) : ofS k l (i + 1) x y = ofS k l i x y + if prefersS k r.1 x y = true then r.2 else 0 := by
  unfold ofS
  rw [List.take_add_one, h]
  simp
theorem ofM_zero (k : Int) (l : List Row) (c a b : Nat) : 0 = ofM k l c 0 a b := by unfold ofM ofS; split <;> simp
theorem ofM_yes {k : Int} {l : List Row} {c i x y : Nat} {r : Row} (h : l[i]? = some r) (hx : x < c) (hy : y < c) (hp : prefersS k r.1 x y = true) : ofM k l c (i + 1) x y = ofM k l c i x y + r.2 := by
  unfold ofM; rw [if_pos ⟨hx, hy⟩, if_pos ⟨hx, hy⟩, ofS_succ h, if_pos hp]
theorem ofM_no {k : Int} {l : List Row} {c i x y : Nat} {r : Row} (h : l[i]? = some r) (hx : x < c) (hy : y < c) (hp : prefersS k r.1 x y = false) : ofM k l c (i + 1) x y = ofM k l c i x y := by
  unfold ofM; rw [if_pos ⟨hx, hy⟩, if_pos ⟨hx, hy⟩, ofS_succ h, if_neg (by simp [hp])]; omega
theorem ofM_off {k : Int} {l : List Row} {c i j a b : Nat} (h : ¬ (a < c ∧ b < c)) : ofM k l c i a b = ofM k l c j a b := by
  unfold ofM; rw [if_neg h, if_neg h]

/-- What a valid profile is. -/
theorem check_ok {c k : Int} {l : List Row} (h : checkS c k l = 0) : l.length ≤ 64 ∧ 1 ≤ c ∧ c ≤ 10 ∧ 1 ≤ k ∧ k ≤ 3 ∧ totS l ≤ 1000000 ∧ ∀ i, i < l.length → rowOK c k l i = true := by
  unfold checkS at h
  split at h
  · cases h
  split at h
  · cases h
  split at h
  · cases h
  rename_i h1 h2 h3
  have h4 : newErr c k = 0 := by
    by_cases e : newErr c k = 0
    · exact e
    · exact absurd (.inr e) h2
  have h5 : ¬ (c < 1 ∨ 10 < c ∨ k < 1 ∨ 3 < k) := fun hh => newErr_bad.2 hh h4
  have h6 : allN l.length (rowOK c k l) = true := by
    cases e : allN l.length (rowOK c k l) with
    | true => rfl
    | false => exact absurd (.inl e) h2
  exact ⟨by omega, by omega, by omega, by omega, by omega, by omega, allN_true.1 h6⟩

theorem ofS_bd {c k : Int} {l : List Row} (h : ∀ i, i < l.length → rowOK c k l i = true) (x y : Nat) : ∀ i, i ≤ l.length → 0 ≤ ofS k l i x y ∧ ofS k l i x y ≤ totS (l.take i)
  | 0, _ => by simp [ofS, totS]
  | i + 1, hi => by
    have hl : i < l.length := by omega
    have he := List.getElem?_eq_getElem hl
    have h1 := ofS_bd h x y i (by omega)
    have h2 := rowOK_many (h i hl)
    rw [getD_of he] at h2
    rw [ofS_succ he, totS_take_succ he]
    split <;> omega
theorem ofM_bd {c k : Int} {l : List Row} (h : checkS c k l = 0) (cn : Nat) {i : Nat} (hi : i ≤ l.length) (x y : Nat) : 0 ≤ ofM k l cn i x y ∧ ofM k l cn i x y ≤ 1000000 := by
  obtain ⟨_, _, _, _, _, h6, h7⟩ := check_ok h
  have h1 := ofS_bd h7 x y i hi
  have h2 := totS_mono (l := l) (fun i hi => rowOK_many (h7 i hi)) (a := i) (b := l.length) hi (Nat.le_refl _)
  rw [List.take_length] at h2
  unfold ofM
  split <;> omega

theorem upFrom_rowAt {h g : M} {X c : Nat} (a b : Nat) (he : c ≤ b → h a b = g a b) : upFrom h g X c a b = upFrom h g (X + 1) 0 a b := by
  unfold upFrom
  by_cases e : b < c
  · by_cases e2 : a < X ∨ (a = X ∧ b < c)
    · rw [if_pos e2, if_pos (by omega)]
    · rw [if_neg e2, if_neg (by omega)]
  · have := he (by omega)
    split <;> split <;> simp [this]
theorem upFrom_end {h g : M} {c : Nat} (a b : Nat) (he : c ≤ a → h a b = g a b) : upFrom h g c 0 a b = g a b := by
  unfold upFrom
  by_cases e : a < c
  · rw [if_pos (by omega)]
  · rw [if_neg (by omega)]; exact he (by omega)
theorem upFrom_same {h g : M} {X Y : Nat} (e : g X Y = h X Y) (a b : Nat) : upFrom h g X Y a b = upFrom h g X (Y + 1) a b := by
  rw [← upFrom_put]
  split
  · rename_i hh; obtain ⟨rfl, rfl⟩ := hh; rw [upFrom_here, e]
  · rfl
end Go.Proofs.YtolbceckbnifmaaGreat

namespace Go.Proofs.YtolbceckbnifmaaGreat

theorem cmpI_zero {x y : Int} : cmpI x y = 0 ↔ x = y := by unfold cmpI; repeat' split
                                                           all_goals omega
theorem cmpI_neg (x y : Int) : cmpI y x = -cmpI x y := by unfold cmpI; repeat' split
                                                          all_goals omega
theorem cmpI_lt {x y : Int} : cmpI x y < 0 ↔ x < y := by unfold cmpI; repeat' split
                                                         all_goals omega
theorem cmpL_zero : ∀ {a b : List Int}, cmpL a b = 0 ↔ a = b
  | [], [] => by simp [cmpL]
  | [], _ :: _ => by simp [cmpL]
  | _ :: _, [] => by simp [cmpL]
  | x :: r, y :: s => by
    unfold cmpL
    by_cases e : cmpI x y = 0
    · rw [if_pos e, cmpL_zero, cmpI_zero.1 e]; simp
    · rw [if_neg e]
      constructor
      · exact fun h => absurd h e
      · intro h; injection h with h1 h2; exact absurd (cmpI_zero.2 h1) e
theorem cmpL_self (a : List Int) : cmpL a a = 0 := cmpL_zero.2 rfl
theorem cmpL_neg : ∀ (a b : List Int), cmpL b a = -cmpL a b
  | [], [] => by simp [cmpL]
  | [], _ :: _ => by simp [cmpL]
  | _ :: _, [] => by simp [cmpL]
  | x :: r, y :: s => by
    unfold cmpL
    rw [cmpI_neg x y]
    by_cases e : cmpI x y = 0
    · rw [if_pos e, if_pos (by omega), cmpL_neg r s]
    · rw [if_neg e, if_neg (by omega)]
theorem cmpL_bd : ∀ (a b : List Int), -1 ≤ cmpL a b ∧ cmpL a b ≤ 1
  | [], [] => by simp [cmpL]
  | [], _ :: _ => by simp [cmpL]
  | _ :: _, [] => by simp [cmpL]
  | x :: r, y :: s => by
    unfold cmpL
    split
    · exact cmpL_bd r s
    · unfold cmpI; repeat' split
      all_goals omega
theorem cmpL_trans : ∀ {a b c : List Int}, cmpL a b < 0 → cmpL b c < 0 → cmpL a c < 0
  | [], [], _ => by simp [cmpL]
  | [], _ :: _, [] => by simp [cmpL]
  | [], _ :: _, _ :: _ => by simp [cmpL]
  | _ :: _, [], _ => by simp [cmpL]
  | _ :: _, _ :: _, [] => by simp [cmpL]
  | x :: r, y :: s, z :: t => by
    unfold cmpL
    intro h1 h2
    by_cases e1 : cmpI x y = 0
    · obtain rfl := cmpI_zero.1 e1
      rw [if_pos e1] at h1
      by_cases e2 : cmpI x z = 0
      · rw [if_pos e2] at h2 ⊢; exact cmpL_trans h1 h2
      · rw [if_neg e2] at h2 ⊢; exact h2
    · rw [if_neg e1] at h1
      by_cases e2 : cmpI y z = 0
      · obtain rfl := cmpI_zero.1 e2
        rw [if_neg e1]; exact h1
      · rw [if_neg e2] at h2
        have a := cmpI_lt.1 h1
        have b := cmpI_lt.1 h2
        have c : cmpI x z < 0 := cmpI_lt.2 (by omega)
        rw [if_neg (by omega)]; exact c

/-- Rows in strict order. -/
def Asc (l : List Row) : Prop := l.Pairwise fun a b => cmpL a.1 b.1 < 0

/-- How many rows come before the marks m (the rows being in order). -/
def plS : List Row → List Int → Nat
  | [], _ => 0
  | a :: r, m => if cmpL a.1 m < 0 then plS r m + 1 else 0

theorem plS_le (l : List Row) (m : List Int) : plS l m ≤ l.length := by
  induction l with
  | nil => simp [plS]
  | cons a r ih => unfold plS; split <;> simp <;> omega
theorem plS_before {l : List Row} {m : List Int} {i : Nat} {r : Row} (h : l[i]? = some r) (hi : i < plS l m) : cmpL r.1 m < 0 := by
  induction l generalizing i with
  | nil => simp at h
  | cons a t ih =>
    unfold plS at hi
    split at hi
    · cases i with
      | zero => simp at h; subst h; assumption
      | succ i => exact ih (by simpa using h) (by omega)
    · omega
theorem plS_at {l : List Row} {m : List Int} {r : Row} (h : l[plS l m]? = some r) : ¬ cmpL r.1 m < 0 := by
  induction l with
  | nil => simp at h
  | cons a t ih =>
    unfold plS at h
    split at h
    · exact ih (by simpa using h)
    · simp at h; subst h; assumption
/-- The place is where the rows before are less, and the row there, and so all behind it, is not. -/
theorem plS_eq {l : List Row} {m : List Int} {i : Nat} (hi : i ≤ l.length) (h1 : ∀ k r, k < i → l[k]? = some r → cmpL r.1 m < 0) (h2 : ∀ r, l[i]? = some r → ¬ cmpL r.1 m < 0) : plS l m = i := by
  induction l generalizing i with
  | nil => simp at hi; subst hi; rfl
  | cons a t ih =>
    unfold plS
    cases i with
    | zero => rw [if_neg (h2 a rfl)]
    | succ i =>
      rw [if_pos (h1 0 a (by omega) rfl), ih (by simpa using hi) (fun k r hk h => h1 (k + 1) r (by omega) (by simpa using h)) (fun r h => h2 r (by simpa using h))]
theorem Asc.lt {l : List Row} (h : Asc l) {i j : Nat} {a b : Row} (hij : i < j) (ha : l[i]? = some a) (hb : l[j]? = some b) : cmpL a.1 b.1 < 0 := by
  obtain ⟨hi, rfl⟩ := List.getElem?_eq_some_iff.1 ha
  obtain ⟨hj, rfl⟩ := List.getElem?_eq_some_iff.1 hb
  exact List.pairwise_iff_getElem.1 h i j hi hj hij

/-- y more ballots of the marks m. -/
def putS : List Row → List Int → Int → List Row
  | [], m, y => [(m, y)]
  | a :: r, m, y => if cmpL a.1 m < 0 then a :: putS r m y else if a.1 = m then (m, a.2 + y) :: r else (m, y) :: a :: r

/-- y ballots less of the marks m, if there are as many. -/
def dropS : List Row → List Int → Int → Option (List Row)
  | [], _, _ => none
  | a :: r, m, y => if cmpL a.1 m < 0 then (dropS r m y).map (a :: ·) else if a.1 = m then (if a.2 < y then none else if a.2 = y then some r else some ((m, a.2 - y) :: r)) else none

/-- How many ballots of the marks m. -/
def cntR : List Row → List Int → Int
  | [], _ => 0
  | a :: r, m => if a.1 = m then a.2 else cntR r m

theorem putS_is {l : List Row} {m : List Int} {y z : Int} (h : l[plS l m]? = some (m, z)) : putS l m y = l.set (plS l m) (m, z + y) := by
  induction l with
  | nil => simp at h
  | cons a r ih =>
    unfold plS at h
    unfold plS putS
    split
    · rename_i hlt
      rw [if_pos hlt] at h
      rw [ih (by simpa using h)]; simp
    · rename_i hlt
      rw [if_neg hlt] at h
      simp at h; subst h; simp
theorem putS_new {l : List Row} {m : List Int} {y : Int} (h : ∀ z, l[plS l m]? ≠ some (m, z)) : putS l m y = l.take (plS l m) ++ (m, y) :: l.drop (plS l m) := by
  induction l with
  | nil => simp [putS, plS]
  | cons a r ih =>
    unfold plS putS
    split
    · rename_i hlt
      rw [ih (fun z hz => h z (by unfold plS; rw [if_pos hlt]; simpa using hz))]; simp
    · rename_i hlt
      have : a.1 ≠ m := fun e => h a.2 (by unfold plS; rw [if_neg hlt]; simp [← e])
      rw [if_neg this]; simp
theorem dropS_is {l : List Row} {m : List Int} {y z : Int} (h : l[plS l m]? = some (m, z)) :
    dropS l m y = if z < y then none else if z = y then some (l.eraseIdx (plS l m)) else some (l.set (plS l m) (m, z - y)) := by
  induction l with
  | nil => simp at h
  | cons a r ih =>
    unfold plS at h
    unfold plS dropS
    split
    · rename_i hlt
      rw [if_pos hlt] at h
      rw [ih (by simpa using h)]
      split
      · rfl
      · split <;> simp
    · rename_i hlt
      rw [if_neg hlt] at h
      simp at h; subst h; simp
theorem dropS_none {l : List Row} {m : List Int} {y : Int} (h : ∀ z, l[plS l m]? ≠ some (m, z)) : dropS l m y = none := by
  induction l with
  | nil => simp [dropS]
  | cons a r ih =>
    unfold dropS
    split
    · rename_i hlt
      rw [ih (fun z hz => h z (by unfold plS; rw [if_pos hlt]; simpa using hz))]; rfl
    · rename_i hlt
      have : a.1 ≠ m := fun e => h a.2 (by unfold plS; rw [if_neg hlt]; simp [← e])
      rw [if_neg this]

theorem mem_putS {l : List Row} {m : List Int} {y : Int} {x : Row} (h : x ∈ putS l m y) : x.1 = m ∨ x ∈ l := by
  induction l with
  | nil => simp [putS] at h; subst h; exact .inl rfl
  | cons a r ih =>
    unfold putS at h
    split at h
    · rcases List.mem_cons.1 h with h | h
      · exact .inr (h ▸ List.mem_cons_self ..)
      · rcases ih h with h | h
        · exact .inl h
        · exact .inr (List.mem_cons_of_mem _ h)
    · split at h
      · rcases List.mem_cons.1 h with h | h
        · exact .inl (h ▸ rfl)
        · exact .inr (List.mem_cons_of_mem _ h)
      · rcases List.mem_cons.1 h with h | h
        · exact .inl (h ▸ rfl)
        · exact .inr h
theorem asc_putS {l : List Row} (h : Asc l) (m : List Int) (y : Int) : Asc (putS l m y) := by
  induction l with
  | nil => simp [putS, Asc]
  | cons a r ih =>
    obtain ⟨h1, h2⟩ := List.pairwise_cons.1 h
    unfold putS
    split
    · rename_i hlt
      refine List.pairwise_cons.2 ⟨fun x hx => ?_, ih h2⟩
      rcases mem_putS hx with e | e
      · rw [e]; exact hlt
      · exact h1 x e
    · rename_i hlt
      split
      · rename_i e
        refine List.pairwise_cons.2 ⟨fun x hx => ?_, h2⟩
        rw [← e]; exact h1 x hx
      · rename_i e
        have hma : cmpL m a.1 < 0 := by
          have e1 := cmpL_neg a.1 m
          have e2 := mt (cmpL_zero (a := a.1) (b := m)).1 e
          omega
        refine List.pairwise_cons.2 ⟨fun x hx => ?_, h⟩
        rcases List.mem_cons.1 hx with e | e
        · rw [e]; exact hma
        · exact cmpL_trans hma (h1 x e)
theorem totS_putS (l : List Row) (m : List Int) (y : Int) : totS (putS l m y) = totS l + y := by
  induction l with
  | nil => simp [putS, totS]
  | cons a r ih =>
    unfold putS
    unfold totS at *
    split
    · simp [ih]; omega
    · split <;> simp <;> omega
theorem length_putS (l : List Row) (m : List Int) (y : Int) : l.length ≤ (putS l m y).length ∧ (putS l m y).length ≤ l.length + 1 := by
  induction l with
  | nil => simp [putS]
  | cons a r ih =>
    unfold putS
    split
    · simp; omega
    · split <;> simp
theorem cntR_lt {l : List Row} (h : Asc l) {m : List Int} (h1 : ∀ x ∈ l, cmpL m x.1 < 0) : cntR l m = 0 := by
  induction l with
  | nil => rfl
  | cons a r ih =>
    unfold cntR
    have := h1 a (List.mem_cons_self ..)
    rw [if_neg (fun e => by rw [e, cmpL_self] at this; omega)]
    exact ih (List.pairwise_cons.1 h).2 (fun x hx => h1 x (List.mem_cons_of_mem _ hx))
theorem cntR_putS {l : List Row} (h : Asc l) (m : List Int) (y : Int) (k : List Int) : cntR (putS l m y) k = cntR l k + if k = m then y else 0 := by
  induction l with
  | nil => simp [putS, cntR]; by_cases e : m = k <;> simp [e, eq_comm]
  | cons a r ih =>
    obtain ⟨h1, h2⟩ := List.pairwise_cons.1 h
    unfold putS
    split
    · rename_i hlt
      unfold cntR
      rw [ih h2]
      by_cases e : a.1 = k
      · rw [if_pos e, if_pos e, if_neg]
        · omega
        · rintro rfl; rw [e, cmpL_self] at hlt; omega
      · rw [if_neg e, if_neg e]
    · rename_i hlt
      split
      · rename_i e
        subst e
        unfold cntR
        by_cases e2 : a.1 = k
        · simp [e2]
        · rw [if_neg e2, if_neg e2, if_neg (fun e => e2 e.symm)]; omega
      · rename_i e
        have hma : cmpL m a.1 < 0 := by
          have e1 := cmpL_neg a.1 m
          have e2 := mt (cmpL_zero (a := a.1) (b := m)).1 e
          omega
        rw [cntR]
        by_cases e2 : m = k
        · subst e2
          rw [if_pos rfl, if_pos rfl, cntR_lt h (fun x hx => by
            rcases List.mem_cons.1 hx with e | e
            · rw [e]; exact hma
            · exact cmpL_trans hma (h1 x e))]
          omega
        · rw [if_neg e2, if_neg (fun e => e2 e.symm)]; omega

/-- Rows in order, with positive counts, are known by their counts. -/
def Pos (l : List Row) : Prop := ∀ x ∈ l, 0 < x.2

theorem rows_ext : ∀ {l l' : List Row}, Asc l → Asc l' → Pos l → Pos l' → (∀ m, cntR l m = cntR l' m) → l = l'
  | [], [], _, _, _, _, _ => rfl
  | [], b :: s, _, _, _, hp', h => by
    have := h b.1
    have h2 := hp' b (List.mem_cons_self ..)
    simp [cntR] at this; omega
  | a :: r, [], _, _, hp, _, h => by
    have := h a.1
    have h2 := hp a (List.mem_cons_self ..)
    simp [cntR] at this; omega
  | a :: r, b :: s, ha, hb, hp, hp', h => by
    obtain ⟨a1, a2⟩ := List.pairwise_cons.1 ha
    obtain ⟨b1, b2⟩ := List.pairwise_cons.1 hb
    have pa := hp a (List.mem_cons_self ..)
    have pb := hp' b (List.mem_cons_self ..)
    have hab : a.1 = b.1 := by
      by_cases e : a.1 = b.1
      · exact e
      · exfalso
        have e0 := mt (cmpL_zero (a := a.1) (b := b.1)).1 e
        have e1 := cmpL_neg a.1 b.1
        by_cases hlt : cmpL a.1 b.1 < 0
        · have h1 := h a.1
          rw [cntR, if_pos rfl, cntR_lt hb (fun x hx => by
            rcases List.mem_cons.1 hx with e | e
            · rw [e]; exact hlt
            · exact cmpL_trans hlt (b1 x e))] at h1
          omega
        · have hlt : cmpL b.1 a.1 < 0 := by omega
          have h1 := h b.1
          rw [cntR_lt ha (fun x hx => by
            rcases List.mem_cons.1 hx with e | e
            · rw [e]; exact hlt
            · exact cmpL_trans hlt (a1 x e)), cntR, if_pos rfl] at h1
          omega
    have hab2 : a.2 = b.2 := by
      have h1 := h a.1
      rw [cntR, if_pos rfl, cntR, if_pos hab.symm] at h1
      exact h1
    have : a = b := Prod.ext hab hab2
    subst this
    rw [rows_ext a2 b2 (fun x hx => hp x (List.mem_cons_of_mem _ hx)) (fun x hx => hp' x (List.mem_cons_of_mem _ hx)) (fun m => ?_)]
    have h1 := h m
    rw [cntR, cntR] at h1
    by_cases e : a.1 = m
    · subst e
      rw [cntR_lt a2 a1, cntR_lt b2 b1]
    · rw [if_neg e, if_neg e] at h1; exact h1
end Go.Proofs.YtolbceckbnifmaaGreat

namespace Go.Proofs.YtolbceckbnifmaaGreat

theorem prefers_asym {k : Int} {ms : List Int} {x y : Int} (h : prefersS k ms x y = true) : prefersS k ms y x = false := by
  unfold prefersS at *
  by_cases h0 : x < 0 ∨ y < 0
  · rw [if_pos h0] at h; cases h
  rw [if_neg h0] at h
  rw [if_neg (by omega)]
  by_cases h1 : k = 1
  · rw [if_pos h1] at h ⊢; simp at h ⊢; omega
  rw [if_neg h1] at h ⊢
  by_cases h2 : k = 2
  · rw [if_pos h2] at h ⊢; simp at h ⊢; omega
  rw [if_neg h2] at h ⊢
  by_cases h3 : k = 3
  · rw [if_pos h3] at h ⊢; simp at h ⊢; omega
  · rw [if_neg h3] at h; cases h
theorem prefers_self (k : Int) (ms : List Int) (x : Int) : prefersS k ms x x = false := by
  cases h : prefersS k ms x x with
  | false => rfl
  | true => have := prefers_asym h; rw [h] at this; exact this

theorem placeS_inj {xs : List Int} {x y k : Int} (hk : 0 ≤ k) (hx : x ∈ xs) (h : placeS xs x k = placeS xs y k) : x = y := by
  induction xs generalizing k with
  | nil => simp at hx
  | cons a r ih =>
    unfold placeS at h
    by_cases e1 : a = x
    · rw [if_pos e1] at h
      by_cases e2 : a = y
      · rw [← e1, e2]
      · rw [if_neg e2] at h
        have hy : y ∈ r := by
          have := mt (placeS_neg (xs := r) (x := y) (k := k + 1) (by omega)).2
          by_cases hh : y ∈ r
          · exact hh
          · have := (placeS_neg (xs := r) (x := y) (k := k + 1) (by omega)).2 hh; omega
        have : ∀ (l : List Int) (j : Int), y ∈ l → j ≤ placeS l y j := by
          intro l
          induction l with
          | nil => intro j h; simp at h
          | cons b s ihs =>
            intro j hm
            unfold placeS
            split
            · omega
            · rename_i hne
              have := ihs (j + 1) ((List.mem_cons.1 hm).resolve_left fun e => hne e.symm)
              omega
        have := this r (k + 1) hy
        omega
    · rw [if_neg e1] at h
      have hxr : x ∈ r := (List.mem_cons.1 hx).resolve_left fun e => e1 e.symm
      by_cases e2 : a = y
      · rw [if_pos e2] at h
        have : ∀ (l : List Int) (j : Int), x ∈ l → j ≤ placeS l x j := by
          intro l
          induction l with
          | nil => intro j h; simp at h
          | cons b s ihs =>
            intro j hm
            unfold placeS
            split
            · omega
            · rename_i hne
              have := ihs (j + 1) ((List.mem_cons.1 hm).resolve_left fun e => hne e.symm)
              omega
        have := this r (k + 1) hxr
        omega
      · rw [if_neg e2] at h
        exact ih (by omega) hxr h

theorem fine_rank {k : Int} {ms : List Int} {c : Int} (h : bcheckS k ms c = 0) (hk : k = 1) : ms.Nodup ∧ ∀ x ∈ ms, 0 ≤ x ∧ x < c := by
  unfold bcheckS at h
  split at h
  · cases h
  split at h
  · rename_i hf
    subst hk
    simp only [fineS, if_neg (show ¬ (1 : Int) = 3 by omega), if_neg (show ¬ (1 : Int) = 2 by omega), if_true, Bool.and_eq_true, List.all_eq_true] at hf
    exact ⟨of_decide_eq_true hf.2, fun x hx => inR_iff.1 (hf.1 x hx)⟩
  · cases h

/-- A ranking of all candidates but one at most prefers one of two. -/
theorem prefers_full {ms : List Int} {c x y : Int} (hn : ms.Nodup) (hb : ∀ z ∈ ms, 0 ≤ z ∧ z < c) (hl : c - 1 ≤ ms.length) (hx : 0 ≤ x ∧ x < c) (hy : 0 ≤ y ∧ y < c) (hxy : x ≠ y) :
    prefersS 1 ms x y = true ∨ prefersS 1 ms y x = true := by
  have hmem : x ∈ ms ∨ y ∈ ms := by
    by_cases h1 : x ∈ ms
    · exact .inl h1
    by_cases h2 : y ∈ ms
    · exact .inr h2
    exfalso
    have hnd : (x :: y :: ms).Nodup := by
      rw [List.nodup_cons, List.nodup_cons]
      exact ⟨by simp [hxy, h1], h2, hn⟩
    have hs : (x :: y :: ms) ⊆ rangeI c.toNat := by
      intro z hz
      rw [mem_rangeI]
      rcases List.mem_cons.1 hz with rfl | hz
      · omega
      rcases List.mem_cons.1 hz with rfl | hz
      · omega
      · have := hb z hz; omega
    have := hnd.length_le_of_subset hs
    rw [length_rangeI] at this
    simp at this
    omega
  unfold prefersS
  rw [if_neg (show ¬ (x < 0 ∨ y < 0) by omega), if_neg (show ¬ (y < 0 ∨ x < 0) by omega), if_pos rfl, if_pos rfl]
  have hne : ∀ {a b : Int}, a ∈ ms → a ≠ b → placeS ms a 0 ≠ placeS ms b 0 := fun ha hab e => hab (placeS_inj (by omega) ha e)
  simp only [Bool.and_eq_true, Bool.or_eq_true, decide_eq_true_eq]
  rcases hmem with h | h
  · have h1 := placeS_nn h
    have h2 := hne h hxy
    by_cases h3 : 0 ≤ placeS ms y 0 <;> omega
  · have h1 := placeS_nn h
    have h2 := hne h (Ne.symm hxy)
    by_cases h3 : 0 ≤ placeS ms x 0 <;> omega

/-- The first i rows rank all candidates but one at most. -/
def fullB (c k : Int) (l : List Row) (i : Nat) : Bool := decide (k = 1) && allN i fun j => decide (c - 1 ≤ ((l.getD j ([], 0)).1.length : Int))

theorem fullB_succ (c k : Int) (l : List Row) (i : Nat) : fullB c k l (i + 1) = (fullB c k l i && decide (c - 1 ≤ ((l.getD i ([], 0)).1.length : Int))) := by
  unfold fullB allN
  rw [List.range_succ, List.all_append]
  simp [Bool.and_assoc]
theorem fullB_zero (c k : Int) (l : List Row) : fullB c k l 0 = decide (k = 1) := by simp [fullB, allN]

theorem of_both {c k : Int} {l : List Row} (h : checkS c k l = 0) (x y : Nat) (hx : (x : Int) < c) (hy : (y : Int) < c) : ∀ i, i ≤ l.length →
    ofS k l i x y + ofS k l i y x ≤ totS (l.take i) ∧ (fullB c k l i = true → x ≠ y → ofS k l i x y + ofS k l i y x = totS (l.take i))
  | 0, _ => by simp [ofS, totS]
  | i + 1, hi => by
    obtain ⟨_, _, _, _, _, _, h7⟩ := check_ok h
    have hl : i < l.length := by omega
    have he := List.getElem?_eq_getElem hl
    have h1 := of_both h x y hx hy i (by omega)
    have hrow := h7 i hl
    have h2 := rowOK_many hrow
    rw [getD_of he] at h2
    rw [ofS_succ he, ofS_succ he, totS_take_succ he, fullB_succ, getD_of he]
    refine ⟨?_, fun hf hxy => ?_⟩
    · by_cases e : prefersS k l[i].1 x y = true
      · rw [if_pos e, if_neg (by rw [prefers_asym e]; simp)]; omega
      · rw [if_neg e]; split <;> omega
    · simp only [Bool.and_eq_true, decide_eq_true_eq] at hf
      have hk : k = 1 := by have := hf.1; unfold fullB at this; simp only [Bool.and_eq_true, decide_eq_true_eq] at this; exact this.1
      have hb : bcheckS k l[i].1 c = 0 := by
        have := hrow
        simp only [rowOK, Bool.and_eq_true, decide_eq_true_eq, getD_of he] at this
        exact this.2
      obtain ⟨f1, f2⟩ := fine_rank hb hk
      have h3 := h1.2 hf.1 hxy
      have h4 := prefers_full f1 f2 hf.2 (x := x) (y := y) (by omega) (by omega) (by omega)
      subst hk
      rcases h4 with e | e
      · rw [if_pos e, if_neg (by rw [prefers_asym e]; simp)]; omega
      · rw [if_neg (by rw [prefers_asym e]; simp), if_pos e]; omega
theorem of_self {c k : Int} {l : List Row} (x : Nat) : ∀ i, ofS k l i x x = 0
  | 0 => by simp [ofS]
  | i + 1 => by
    by_cases hl : i < l.length
    · rw [ofS_succ (List.getElem?_eq_getElem hl), of_self (c := c) x i, if_neg (by rw [prefers_self]; simp)]; rfl
    · have := of_self (c := c) (k := k) (l := l) x i
      unfold ofS at *
      rw [List.take_of_length_le (by omega)] at this ⊢
      exact this

/-- The matrix of a valid profile. -/
theorem ofR_both {c k : Int} {l : List Row} (h : checkS c k l = 0) {x y : Nat} (hx : (x : Int) < c) (hy : (y : Int) < c) :
    0 ≤ ofR c k l x y ∧ 0 ≤ ofR c k l y x ∧ ofR c k l x y + ofR c k l y x ≤ totS l ∧ (fullB c k l l.length = true → x ≠ y → ofR c k l x y + ofR c k l y x = totS l) ∧ (x = y → ofR c k l x y + ofR c k l y x = 0) := by
  have h1 := of_both h x y hx hy l.length (Nat.le_refl _)
  rw [List.take_length] at h1
  have e : ∀ a b : Nat, (a : Int) < c → (b : Int) < c → ofR c k l a b = ofS k l l.length a b := fun a b ha hb => by
    unfold ofR ofM; rw [if_pos h, if_pos (by omega)]
  have h2 := ofM_bd h c.toNat (Nat.le_refl l.length)
  have e2 : ofR c k l = ofM k l c.toNat l.length := by unfold ofR; rw [if_pos h]
  refine ⟨by rw [e2]; exact (h2 x y).1, by rw [e2]; exact (h2 y x).1, by rw [e x y hx hy, e y x hy hx]; exact h1.1, fun hf hxy => by rw [e x y hx hy, e y x hy hx]; exact h1.2 hf hxy, fun hxy => ?_⟩
  subst hxy
  rw [e x x hx hx, of_self (c := c)]; rfl
theorem ofR_right {c k : Int} {l : List Row} (h : checkS c k l = 0) {c' : Int} (h1 : c ≤ c') (h2 : c' ≤ 10) : rightS (ofR c k l) c' = true := by
  obtain ⟨_, c1, c2, _, _, h6, _⟩ := check_ok h
  rw [rightS_iff]
  refine ⟨by omega, by omega, fun x y hx hy => ?_⟩
  have e2 : ofR c k l = ofM k l c.toNat l.length := by unfold ofR; rw [if_pos h]
  have hz : ∀ a b : Nat, ¬ ((a : Int) < c ∧ (b : Int) < c) → ofR c k l a b = 0 := fun a b hab => by
    rw [e2]; unfold ofM; rw [if_neg (by omega)]
  by_cases hin : (x : Int) < c ∧ (y : Int) < c
  · have h3 := ofR_both h hin.1 hin.2
    refine ⟨h3.1, by omega, fun ho => ?_⟩
    unfold offP at ho
    have hxy : x = y := by omega
    have := h3.2.2.2.2 hxy
    have := h3.1
    have := h3.2.1
    omega
  · rw [hz x y hin, hz y x (by omega)]
    exact ⟨by omega, by omega, fun _ => rfl⟩
theorem ofR_margin {c k : Int} {l : List Row} (h : checkS c k l = 0) {x y : Nat} (hx : (x : Int) < c) (hy : (y : Int) < c) : marginS (ofR c k l) x y = ofR c k l x y - ofR c k l y x := by
  obtain ⟨_, c1, c2, _, _, h6, _⟩ := check_ok h
  unfold marginS
  rw [if_pos ⟨inR_iff.2 (by omega), inR_iff.2 (by omega), ofR_right h (by omega) (by omega)⟩, Int.toNat_natCast, Int.toNat_natCast]
end Go.Proofs.YtolbceckbnifmaaGreat

namespace Go.Proofs.YtolbceckbnifmaaGreat

theorem asc_of_step {l : List Row} (h : ∀ (i : Nat) a b, l[i]? = some a → l[i + 1]? = some b → cmpL a.1 b.1 < 0) : Asc l := by
  induction l with
  | nil => exact List.Pairwise.nil
  | cons a r ih =>
    have hr : Asc r := ih fun i x y hx hy => h (i + 1) x y (by simpa using hx) (by simpa using hy)
    refine List.pairwise_cons.2 ⟨fun x hx => ?_, hr⟩
    cases r with
    | nil => simp at hx
    | cons b s =>
      have hab := h 0 a b rfl rfl
      rcases List.mem_cons.1 hx with rfl | hx
      · exact hab
      · exact cmpL_trans hab ((List.pairwise_cons.1 hr).1 x hx)
theorem rowOK_of {c k : Int} {l : List Row} (h : checkS c k l = 0) {i : Nat} (hi : i < l.length) : rowOK c k l i = true := (check_ok h).2.2.2.2.2.2 i hi
theorem asc_check {c k : Int} {l : List Row} (h : checkS c k l = 0) : Asc l := by
  refine asc_of_step fun i a b ha hb => ?_
  have hi := (List.getElem?_eq_some_iff.1 hb).1
  have := rowOK_of h hi
  simp only [rowOK, Bool.and_eq_true, Bool.or_eq_true, decide_eq_true_eq] at this
  rw [show i + 1 - 1 = i by omega, getD_of ha, getD_of hb] at this
  omega
theorem pos_check {c k : Int} {l : List Row} (h : checkS c k l = 0) : Pos l := by
  intro x hx
  obtain ⟨i, hi⟩ := List.getElem?_of_mem hx
  have := rowOK_many (rowOK_of h (List.getElem?_eq_some_iff.1 hi).1)
  rwa [getD_of hi] at this
theorem marks_check {c k : Int} {l : List Row} (h : checkS c k l = 0) {x : Row} (hx : x ∈ l) : bcheckS k x.1 c = 0 := by
  obtain ⟨i, hi⟩ := List.getElem?_of_mem hx
  have := rowOK_of h (List.getElem?_eq_some_iff.1 hi).1
  simp only [rowOK, Bool.and_eq_true, decide_eq_true_eq, getD_of hi] at this
  exact this.2

/-- A valid profile, said plainly. -/
theorem check_iff {c k : Int} {l : List Row} : checkS c k l = 0 ↔ l.length ≤ 64 ∧ 1 ≤ c ∧ c ≤ 10 ∧ 1 ≤ k ∧ k ≤ 3 ∧ totS l ≤ 1000000 ∧ Asc l ∧ Pos l ∧ ∀ x ∈ l, bcheckS k x.1 c = 0 := by
  constructor
  · intro h
    obtain ⟨h1, h2, h3, h4, h5, h6, _⟩ := check_ok h
    exact ⟨h1, h2, h3, h4, h5, h6, asc_check h, pos_check h, fun x hx => marks_check h hx⟩
  · rintro ⟨h1, h2, h3, h4, h5, h6, h7, h8, h9⟩
    have hall : allN l.length (rowOK c k l) = true := allN_true.2 fun i hi => by
      have he := List.getElem?_eq_getElem hi
      have hm := List.getElem_mem hi
      simp only [rowOK, Bool.and_eq_true, Bool.or_eq_true, decide_eq_true_eq, getD_of he]
      refine ⟨⟨?_, h8 _ hm⟩, h9 _ hm⟩
      by_cases e : i = 0
      · exact .inl e
      · right
        have he' := List.getElem?_eq_getElem (show i - 1 < l.length by omega)
        rw [getD_of he']
        exact h7.lt (show i - 1 < i by omega) he' he
    have hne : newErr c k = 0 := by
      by_cases e : newErr c k = 0
      · exact e
      · exact absurd (newErr_bad.1 e) (by omega)
    unfold checkS
    rw [if_neg (by omega), hall, hne, if_neg (by simp), if_neg (by omega)]

theorem pos_putS {l : List Row} (h : Pos l) {m : List Int} {y : Int} (hy : 0 < y) : Pos (putS l m y) := by
  induction l with
  | nil => intro x hx; simp [putS] at hx; subst hx; exact hy
  | cons a r ih =>
    have ha := h a (List.mem_cons_self ..)
    have hr : Pos r := fun x hx => h x (List.mem_cons_of_mem _ hx)
    unfold putS
    intro x hx
    split at hx
    · rcases List.mem_cons.1 hx with rfl | hx
      · exact ha
      · exact ih hr x hx
    · split at hx
      · rcases List.mem_cons.1 hx with rfl | hx
        · simp only; omega
        · exact hr x hx
      · rcases List.mem_cons.1 hx with rfl | hx
        · exact hy
        · exact h x hx
theorem le_tot {l : List Row} (h : Pos l) {x : Row} (hx : x ∈ l) : x.2 ≤ totS l := by
  induction l with
  | nil => simp at hx
  | cons a r ih =>
    have ha := h a (List.mem_cons_self ..)
    have hr : Pos r := fun x hx => h x (List.mem_cons_of_mem _ hx)
    have h0 : 0 ≤ totS r := by
      have : ∀ s : List Row, Pos s → 0 ≤ totS s := fun s => by
        induction s with
        | nil => simp [totS]
        | cons b t iht =>
          intro hp
          have := hp b (List.mem_cons_self ..)
          have := iht fun x hx => hp x (List.mem_cons_of_mem _ hx)
          unfold totS at *; simp; omega
      exact this r hr
    have e : totS (a :: r) = a.2 + totS r := by simp [totS]
    rw [e]
    rcases List.mem_cons.1 hx with rfl | hx
    · omega
    · have := ih hr hx; omega

/-- All rows of l' put into l. -/
def sumRows (l l' : List Row) : List Row := l'.foldl (fun acc r => putS acc r.1 r.2) l

theorem sumRows_take {l l' : List Row} {t : Nat} {r : Row} (h : l'[t]? = some r) : sumRows l (l'.take (t + 1)) = putS (sumRows l (l'.take t)) r.1 r.2 := by
  unfold sumRows
  rw [List.take_add_one, h]
  simp
theorem asc_sumRows {l l' : List Row} (h : Asc l) : Asc (sumRows l l') := by
  unfold sumRows
  induction l' generalizing l with
  | nil => exact h
  | cons a r ih => exact ih (asc_putS h a.1 a.2)
theorem pos_sumRows {l l' : List Row} (h : Pos l) (h' : Pos l') : Pos (sumRows l l') := by
  unfold sumRows
  induction l' generalizing l with
  | nil => exact h
  | cons a r ih => exact ih (pos_putS h (h' a (List.mem_cons_self ..))) (fun x hx => h' x (List.mem_cons_of_mem _ hx))
theorem tot_sumRows (l l' : List Row) : totS (sumRows l l') = totS l + totS l' := by
  unfold sumRows
  induction l' generalizing l with
  | nil => simp [totS]
  | cons a r ih =>
    rw [List.foldl_cons, ih, totS_putS]
    have : totS (a :: r) = a.2 + totS r := by simp [totS]
    omega
theorem length_sumRows (l l' : List Row) : (sumRows l l').length ≤ l.length + l'.length := by
  unfold sumRows
  induction l' generalizing l with
  | nil => simp
  | cons a r ih =>
    rw [List.foldl_cons]
    have h1 := ih (putS l a.1 a.2)
    have h2 := (length_putS l a.1 a.2).2
    simp
    omega
theorem mem_sumRows {l l' : List Row} {x : Row} (h : x ∈ sumRows l l') : x.1 ∈ l.map (·.1) ∨ x.1 ∈ l'.map (·.1) := by
  unfold sumRows at h
  induction l' generalizing l with
  | nil => exact .inl (List.mem_map.2 ⟨x, h, rfl⟩)
  | cons a r ih =>
    rcases ih h with h1 | h1
    · obtain ⟨z, hz, e⟩ := List.mem_map.1 h1
      rcases mem_putS hz with e2 | hz
      · right; rw [← e, e2]; exact List.mem_cons_self ..
      · left; rw [← e]; exact List.mem_map.2 ⟨z, hz, rfl⟩
    · right; exact List.mem_cons_of_mem _ h1
theorem cntR_sumRows {l l' : List Row} (h : Asc l) (h' : Asc l') (m : List Int) : cntR (sumRows l l') m = cntR l m + cntR l' m := by
  unfold sumRows
  induction l' generalizing l with
  | nil => simp [cntR]
  | cons a r ih =>
    obtain ⟨a1, a2⟩ := List.pairwise_cons.1 h'
    rw [List.foldl_cons, ih (asc_putS h a.1 a.2) a2, cntR_putS h]
    have e : cntR (a :: r) m = if a.1 = m then a.2 else cntR r m := rfl
    rw [e]
    by_cases he : a.1 = m
    · subst he
      rw [if_pos rfl, if_pos rfl, cntR_lt a2 a1]; omega
    · rw [if_neg (fun e => he e.symm), if_neg he]; omega

/-- What a function that makes a profile hands back: an error, and a profile (all 0 beside an error). -/
structure PR where
  err : Int
  c : Int
  k : Int
  l : List Row
def badP (e : Int) : PR := ⟨e, 0, 0, []⟩
def wholeP (c k : Int) (l : List Row) : PR := if checkS c k l = 0 then ⟨0, c, k, l⟩ else badP (checkS c k l)
def bothS (c k : Int) (l : List Row) (c' k' : Int) (l' : List Row) : Int :=
  if checkS c k l = 0 then (if checkS c' k' l' = 0 then (if k = k' ∧ c = c' then 0 else 8) else checkS c' k' l') else checkS c k l
def sumP (c k : Int) (l : List Row) (c' k' : Int) (l' : List Row) : PR :=
  if bothS c k l c' k' l' = 0 then wholeP c k (sumRows l l') else badP (bothS c k l c' k' l')
theorem both_ok {c k : Int} {l : List Row} {c' k' : Int} {l' : List Row} (h : bothS c k l c' k' l' = 0) : checkS c k l = 0 ∧ checkS c' k' l' = 0 ∧ k = k' ∧ c = c' := by
  unfold bothS at h
  split at h
  · rename_i h1
    split at h
    · rename_i h2
      split at h
      · rename_i h3; exact ⟨h1, h2, h3⟩
      · cases h
    · rename_i h2; exact absurd h h2
  · rename_i h1; exact absurd h h1
end Go.Proofs.YtolbceckbnifmaaGreat

namespace Go.Proofs.YtolbceckbnifmaaGreat

def ofT (k : Int) (l : List Row) (x y : Nat) : Int := (l.map fun r => if prefersS k r.1 x y = true then r.2 else 0).sum
theorem ofS_all (k : Int) (l : List Row) (x y : Nat) : ofS k l l.length x y = ofT k l x y := by unfold ofS ofT; rw [List.take_length]
theorem ofT_putS (k : Int) (l : List Row) (m : List Int) (y : Int) (a b : Nat) : ofT k (putS l m y) a b = ofT k l a b + if prefersS k m a b = true then y else 0 := by
  induction l with
  | nil => simp [putS, ofT]
  | cons r s ih =>
    unfold putS
    unfold ofT at *
    split
    · simp only [List.map_cons, List.sum_cons, ih]; omega
    · split
      · rename_i e
        subst e
        simp only [List.map_cons, List.sum_cons]
        split <;> omega
      · simp only [List.map_cons, List.sum_cons]; omega
theorem ofT_sumRows (k : Int) (l l' : List Row) (a b : Nat) : ofT k (sumRows l l') a b = ofT k l a b + ofT k l' a b := by
  unfold sumRows
  induction l' generalizing l with
  | nil => simp [ofT]
  | cons r s ih =>
    rw [List.foldl_cons, ih, ofT_putS]
    have : ofT k (r :: s) a b = (if prefersS k r.1 a b = true then r.2 else 0) + ofT k s a b := by simp [ofT]
    omega
theorem ofR_eq {c k : Int} {l : List Row} (h : checkS c k l = 0) (x y : Nat) : ofR c k l x y = if (x : Int) < c ∧ (y : Int) < c then ofT k l x y else 0 := by
  have := (check_iff.1 h).2.1
  unfold ofR
  rw [if_pos h]
  unfold ofM
  by_cases e : (x : Int) < c ∧ (y : Int) < c
  · rw [if_pos e, if_pos (by omega), ofS_all]
  · rw [if_neg e, if_neg (by omega)]
theorem ofR_sum {c k : Int} {l l' : List Row} (h : checkS c k l = 0) (h' : checkS c k l' = 0) (hs : checkS c k (sumRows l l') = 0) (x y : Nat) : sumA (ofR c k l) (ofR c k l') x y = ofR c k (sumRows l l') x y := by
  unfold sumA
  rw [ofR_eq h, ofR_eq h', ofR_eq hs, ofT_sumRows]
  split <;> omega
theorem rightS_congr {m m' : M} {c : Int} (e : ∀ x y, m x y = m' x y) : rightS m c = rightS m' c := by
  have : m = m' := funext fun x => funext fun y => e x y
  rw [this]
theorem sum_both {c k : Int} {l l' : List Row} (h : checkS c k l = 0) (h' : checkS c k l' = 0) (hs : checkS c k (sumRows l l') = 0) :
    sumErr (ofR c k l) (ofR c k l') = 0 ∧ ∀ x y, sumM (ofR c k l) (ofR c k l') x y = ofR c k (sumRows l l') x y := by
  have hc := (check_iff.1 h).2.2.1
  have h1 : sumErr (ofR c k l) (ofR c k l') = 0 := by
    unfold sumErr
    rw [if_pos ⟨ofR_right h hc (by omega), ofR_right h' hc (by omega)⟩, rightS_congr (ofR_sum h h' hs), if_pos (ofR_right hs hc (by omega))]
  exact ⟨h1, fun x y => by unfold sumM; rw [if_pos h1]; exact ofR_sum h h' hs x y⟩
theorem sum_other {c k : Int} {l l' : List Row} (h : checkS c k l = 0) (h' : checkS c k l' = 0) (hs : checkS c k (sumRows l l') = 0) :
    sumErr (ofR c k l') (ofR c k l) = 0 ∧ ∀ x y, sumM (ofR c k l') (ofR c k l) x y = ofR c k (sumRows l l') x y := by
  have hc := (check_iff.1 h).2.2.1
  have e : ∀ x y, sumA (ofR c k l') (ofR c k l) x y = ofR c k (sumRows l l') x y := fun x y => by rw [← ofR_sum h h' hs x y]; unfold sumA; omega
  have h1 : sumErr (ofR c k l') (ofR c k l) = 0 := by
    unfold sumErr
    rw [if_pos ⟨ofR_right h' hc (by omega), ofR_right h hc (by omega)⟩, rightS_congr e, if_pos (ofR_right hs hc (by omega))]
  exact ⟨h1, fun x y => by unfold sumM; rw [if_pos h1]; exact e x y⟩
/-- What a sum without an error is. -/
theorem sumP_ok {c k : Int} {l : List Row} {c' k' : Int} {l' : List Row} (h : (sumP c k l c' k' l').err = 0) :
    checkS c k l = 0 ∧ checkS c' k' l' = 0 ∧ k = k' ∧ c = c' ∧ checkS c k (sumRows l l') = 0 ∧ sumP c k l c' k' l' = ⟨0, c, k, sumRows l l'⟩ := by
  unfold sumP at h ⊢
  split at h
  · rename_i hb
    obtain ⟨h1, h2, h3, h4⟩ := both_ok hb
    unfold wholeP at h ⊢
    split at h
    · rename_i hw
      exact ⟨h1, h2, h3, h4, hw, by rw [if_pos hb, if_pos hw]⟩
    · rename_i hw; exact absurd h hw
  · rename_i hb; exact absurd h hb
end Go.Proofs.YtolbceckbnifmaaGreat
