/-
  Ballots in plain terms: places, order, validity, restriction. No program is named here.
  Permutations of the first numbers, in plain terms. No program is named here.
  Profiles in plain terms: validity, the number of ballots. No program is named here.
  Matrices of pairwise comparisons in plain terms. No program is named here.
  The sum of two matrices, renaming, wins: in plain terms. No program is named here.
  Renaming a matrix; wins: in plain terms. No program is named here.
  How many candidates one beats, in plain terms. No program is named here.
  The matrix of a profile, in plain terms. No program is named here.
  Lists in order; rows that are put into a profile and taken out of it: in plain terms. No program is named here.
  The matrix of a valid profile: what adds up. No program is named here.
  Sums of profiles in plain terms. No program is named here.
  The matrix of a sum of profiles is the sum of the matrices. No program is named here.
-/
import Derived.Test.YtkmcgpaoekphmaaGreatMem
namespace Go.Proofs.YtkmcgpaoekphmaaGreat

/-- The place of the first x in a list, counted from k; -1 if there is none. -/
def placeS : List Int → Int → Int → Int
  | [], _, _ => -1
  | y :: r, x, k => if y = x then k else placeS r x (k + 1)

def inR (lo hi x : Int) : Bool := decide (lo ≤ x) && decide (x < hi)

def sortedB : List Int → Bool
  | [] => true
  | [_] => true
  | a :: b :: r => decide (a ≤ b) && sortedB (b :: r)

def nodupB (l : List Int) : Bool := decide l.Nodup

/-- A ballot of kind k with the marks ms is valid among c candidates. -/
def fineS (k : Int) (ms : List Int) (c : Int) : Bool :=
  if k = 3 then ms.all (fun x => inR 0 11 x) && decide ((ms.length : Int) = c)
  else if k = 2 then ms.all (fun x => inR 0 c x) && sortedB ms && nodupB ms
  else if k = 1 then ms.all (fun x => inR 0 c x) && nodupB ms
  else false

/-- The error of a ballot among c candidates. -/
def bcheckS (k : Int) (ms : List Int) (c : Int) : Int :=
  if c < 1 ∨ 10 < c then 2 else if fineS k ms c = true then 0 else 8

def cmpI (x y : Int) : Int := if x < y then -1 else if y < x then 1 else 0

/-- Lists in lexicographic order: -1, 0 or 1. -/
def cmpL : List Int → List Int → Int
  | [], [] => 0
  | [], _ :: _ => -1
  | _ :: _, [] => 1
  | x :: r, y :: s => if cmpI x y = 0 then cmpL r s else cmpI x y

def prefersS (k : Int) (ms : List Int) (x y : Int) : Bool :=
  if x < 0 ∨ y < 0 then false
  else if k = 1 then decide (0 ≤ placeS ms x 0) && (decide (placeS ms y 0 < 0) || decide (placeS ms x 0 < placeS ms y 0))
  else if k = 2 then decide (0 ≤ placeS ms x 0) && decide (placeS ms y 0 < 0)
  else if k = 3 then decide (x < ms.length) && decide (y < ms.length) && decide (ms.getD y.toNat 0 < ms.getD x.toNat 0)
  else false

theorem placeS_neg {xs : List Int} {x k : Int} (hk : 0 ≤ k) : placeS xs x k < 0 ↔ x ∉ xs := by
  induction xs generalizing k with
  | nil => simp [placeS]
  | cons y r ih =>
    unfold placeS
    split
    · rename_i h; subst h; simp; omega
    · rename_i h
      rw [ih (by omega)]
      simp
      intro _ e
      exact h e.symm

theorem placeS_nn {xs : List Int} {x : Int} (h : x ∈ xs) : 0 ≤ placeS xs x 0 := by
  have := mt (placeS_neg (xs := xs) (x := x) (Int.le_refl 0)).1 (fun hn => hn h)
  omega

theorem mem_take_of {xs : List Int} {m k : Nat} {u : Int} (h : xs[m]? = some u) (hk : m < k) : u ∈ xs.take k :=
  List.mem_of_getElem? (i := m) (by rw [List.getElem?_take_of_lt hk]; exact h)

theorem inR_iff {lo hi x : Int} : inR lo hi x = true ↔ lo ≤ x ∧ x < hi := by simp [inR]

end Go.Proofs.YtkmcgpaoekphmaaGreat

namespace Go.Proofs.YtkmcgpaoekphmaaGreat

def rangeI (n : Nat) : List Int := (List.range n).map fun i : Nat => (i : Int)

theorem mem_rangeI {n : Nat} {x : Int} : x ∈ rangeI n ↔ 0 ≤ x ∧ x < n := by
  unfold rangeI
  rw [List.mem_map]
  constructor
  · rintro ⟨i, hi, rfl⟩; rw [List.mem_range] at hi; omega
  · rintro ⟨h0, h1⟩; exact ⟨x.toNat, by rw [List.mem_range]; omega, by omega⟩

theorem nodup_rangeI (n : Nat) : (rangeI n).Nodup := by
  unfold rangeI List.Nodup
  rw [List.pairwise_map]
  exact (List.nodup_range (n := n)).imp fun h e => h (by omega)

theorem length_rangeI (n : Nat) : (rangeI n).length = n := by simp [rangeI]

end Go.Proofs.YtkmcgpaoekphmaaGreat

namespace Go.Proofs.YtkmcgpaoekphmaaGreat

def allN (n : Nat) (p : Nat → Bool) : Bool := (List.range n).all p

theorem allN_true {n : Nat} {p : Nat → Bool} : allN n p = true ↔ ∀ i, i < n → p i = true := by simp [allN, List.all_eq_true]
theorem allN_false {n i : Nat} {p : Nat → Bool} (hi : i < n) (h : p i = false) : allN n p = false := by
  rw [← Bool.not_eq_true, allN_true]; intro hh; rw [hh i hi] at h; cases h

/-- The error of a number of candidates and a kind. -/
def newErr (c k : Int) : Int := if c < 1 ∨ 10 < c ∨ k < 1 ∨ 3 < k then 2 else 0

/-- Row i of a profile is valid and in its place. -/
def rowOK (c k : Int) (l : List Row) (i : Nat) : Bool :=
  (decide (i = 0) || decide (cmpL (l.getD (i - 1) ([], 0)).1 (l.getD i ([], 0)).1 < 0)) && decide (0 < (l.getD i ([], 0)).2) && decide (bcheckS k (l.getD i ([], 0)).1 c = 0)

def totS (l : List Row) : Int := (l.map (·.2)).sum

/-- The error of a profile. -/
def checkS (c k : Int) (l : List Row) : Int :=
  if 64 < l.length then 9
  else if allN l.length (rowOK c k l) = false ∨ newErr c k ≠ 0 then 8
  else if 1000000 < totS l then 4
  else 0

theorem totS_take_succ {l : List Row} {i : Nat} {r : Row} (h : l[i]? = some r) : totS (l.take (i + 1)) = totS (l.take i) + r.2 := by
  unfold totS
  rw [List.take_add_one, h]
  simp

theorem rowOK_many {c k : Int} {l : List Row} {i : Nat} (h : rowOK c k l i = true) : 0 < (l.getD i ([], 0)).2 := by
  simp only [rowOK, Bool.and_eq_true, decide_eq_true_eq] at h
  exact h.1.2

theorem getD_of {l : List Row} {i : Nat} {r : Row} (h : l[i]? = some r) : l.getD i ([], 0) = r := by simp [List.getD, h]

theorem totS_nn {l : List Row} {n : Nat} (h : ∀ i, i < n → 0 < (l.getD i ([], 0)).2) (hn : n ≤ l.length) : 0 ≤ totS (l.take n) := by
  induction n with
  | zero => simp [totS]
  | succ n ih =>
    have hl : n < l.length := by omega
    have he := List.getElem?_eq_getElem hl
    rw [totS_take_succ he]
    have h1 := ih (fun i hi => h i (by omega)) (by omega)
    have h2 := h n (by omega)
    rw [getD_of he] at h2
    omega

theorem newErr_bad {c k : Int} : newErr c k ≠ 0 ↔ (c < 1 ∨ 10 < c ∨ k < 1 ∨ 3 < k) := by
  unfold newErr; split <;> simp [*]

theorem rowOK_eq {c k : Int} {l : List Row} {i : Nat} {ml ms : List Int} {yl y : Int} (h1 : l[i - 1]? = some (ml, yl)) (h2 : l[i]? = some (ms, y)) :
    rowOK c k l i = ((decide (i = 0) || decide (cmpL ml ms < 0)) && decide (0 < y) && decide (bcheckS k ms c = 0)) := by
  unfold rowOK
  rw [getD_of h1, getD_of h2]

/-- The sum of the counts of the first i rows, cut at 1000001. -/
def capS (l : List Row) (i : Nat) : Int := if 1000001 < totS (l.take i) then 1000001 else totS (l.take i)

theorem capS_bd {l : List Row} {i : Nat} (h : 0 ≤ totS (l.take i)) : 0 ≤ capS l i ∧ capS l i ≤ 1000001 := by unfold capS; split <;> omega
theorem capS_next {l : List Row} {i : Nat} {r : Row} (h : l[i]? = some r) (h0 : 0 < r.2) (_ht : 0 ≤ totS (l.take i)) {v : Int}
    (hv : v = if 1000001 < capS l i + r.2 then 1000001 else capS l i + r.2) : v = capS l (i + 1) := by
  subst hv
  unfold capS
  rw [totS_take_succ h]
  repeat' split
  all_goals omega

theorem totS_mono {l : List Row} (h : ∀ i, i < l.length → 0 < (l.getD i ([], 0)).2) {a b : Nat} (hab : a ≤ b) (hb : b ≤ l.length) : totS (l.take a) ≤ totS (l.take b) := by
  induction b with
  | zero => obtain rfl : a = 0 := by omega
            omega
  | succ b ih =>
    by_cases e : a = b + 1
    · subst e; omega
    · have h1 := ih (by omega) (by omega)
      have hl : b < l.length := by omega
      have he := List.getElem?_eq_getElem hl
      have h2 := h b hl
      rw [getD_of he] at h2
      rw [totS_take_succ he]
      omega
end Go.Proofs.YtkmcgpaoekphmaaGreat

namespace Go.Proofs.YtkmcgpaoekphmaaGreat

abbrev M := Nat → Nat → Int

def I64 (v : Int) : Prop := -9223372036854775808 ≤ v ∧ v ≤ 9223372036854775807

/-- The places that are 0 in a matrix of c candidates. -/
def offP (c : Int) (x y : Nat) : Prop := x = y ∨ c ≤ (x : Int) ∨ c ≤ (y : Int)
instance (c : Int) (x y : Nat) : Decidable (offP c x y) := by unfold offP; infer_instance

end Go.Proofs.YtkmcgpaoekphmaaGreat

namespace Go.Proofs.YtkmcgpaoekphmaaGreat

end Go.Proofs.YtkmcgpaoekphmaaGreat

namespace Go.Proofs.YtkmcgpaoekphmaaGreat

end Go.Proofs.YtkmcgpaoekphmaaGreat

namespace Go.Proofs.YtkmcgpaoekphmaaGreat

end Go.Proofs.YtkmcgpaoekphmaaGreat

namespace Go.Proofs.YtkmcgpaoekphmaaGreat

/-- What a valid profile is. -/
theorem check_ok {c k : Int} {l : List Row} (h : checkS c k l = 0) : l.length ≤ 64 ∧ 1 ≤ c ∧ c ≤ 10 ∧ 1 ≤ k ∧ k ≤ 3 ∧ totS l ≤ 1000000 ∧ ∀ i, i < l.length → rowOK c k l i = true := by
  unfold checkS at h
  split at h
  · cases h
  split at h
  · cases h
  split at h
  · cases h
  rename_i h1 h2 h3
  have h4 : newErr c k = 0 := by
    by_cases e : newErr c k = 0
    · exact e
    · exact absurd (.inr e) h2
  have h5 : ¬ (c < 1 ∨ 10 < c ∨ k < 1 ∨ 3 < k) := fun hh => newErr_bad.2 hh h4
  have h6 : allN l.length (rowOK c k l) = true := by
    cases e : allN l.length (rowOK c k l) with
    | true => rfl
    | false => exact absurd (.inl e) h2
  exact ⟨by omega, by omega, by omega, by omega, by omega, by omega, allN_true.1 h6⟩

end Go.Proofs.YtkmcgpaoekphmaaGreat

namespace Go.Proofs.YtkmcgpaoekphmaaGreat

theorem cmpI_zero {x y : Int} : cmpI x y = 0 ↔ x = y := by unfold cmpI; repeat' split
                                                           all_goals omega
theorem cmpI_neg (x y : Int) : cmpI y x = -cmpI x y := by unfold cmpI; repeat' split
                                                          all_goals omega
theorem cmpI_lt {x y : Int} : cmpI x y < 0 ↔ x < y := by unfold cmpI; repeat' split
                                                         all_goals omega
theorem cmpL_zero : ∀ {a b : List Int}, cmpL a b = 0 ↔ a = b
  | [], [] => by simp [cmpL]
  | [], _ :: _ => by simp [cmpL]
  | _ :: _, [] => by simp [cmpL]
  | x :: r, y :: s => by
    unfold cmpL
    by_cases e : cmpI x y = 0
    · rw [if_pos e, cmpL_zero, cmpI_zero.1 e]; simp
    · rw [if_neg e]
      constructor
      · exact fun h => absurd h e
      · intro h; injection h with h1 h2; exact absurd (cmpI_zero.2 h1) e
theorem cmpL_self (a : List Int) : cmpL a a = 0 := cmpL_zero.2 rfl
theorem cmpL_neg : ∀ (a b : List Int), cmpL b a = -cmpL a b
  | [], [] => by simp [cmpL]
  | [], _ :: _ => by simp [cmpL]
  | _ :: _, [] => by simp [cmpL]
  | x :: r, y :: s => by
    unfold cmpL
    rw [cmpI_neg x y]
    by_cases e : cmpI x y = 0
    · rw [if_pos e, if_pos (by omega), cmpL_neg r s]
    · rw [if_neg e, if_neg (by omega)]
theorem cmpL_trans : ∀ {a b c : List Int}, cmpL a b < 0 → cmpL b c < 0 → cmpL a c < 0
  | [], [], _ => by simp [cmpL]
  | [], _ :: _, [] => by simp [cmpL]
  | [], _ :: _, _ :: _ => by simp [cmpL]
  | _ :: _, [], _ => by simp [cmpL]
  | _ :: _, _ :: _, [] => by simp [cmpL]
  | x :: r, y :: s, z :: t => by
    unfold cmpL
    intro h1 h2
    by_cases e1 : cmpI x y = 0
    · obtain rfl := cmpI_zero.1 e1
      rw [if_pos e1] at h1
      by_cases e2 : cmpI x z = 0
      · rw [if_pos e2] at h2 ⊢; exact cmpL_trans h1 h2
      · rw [if_neg e2] at h2 ⊢; exact h2
    · rw [if_neg e1] at h1
      by_cases e2 : cmpI y z = 0
      · obtain rfl := cmpI_zero.1 e2
        rw [if_neg e1]; exact h1
      · rw [if_neg e2] at h2
        have a := cmpI_lt.1 h1
        have b := cmpI_lt.1 h2
        have c : cmpI x z < 0 := cmpI_lt.2 (by omega)
        rw [if_neg (by omega)]; exact c

/-- Rows in strict order. -/
def Asc (l : List Row) : Prop := l.Pairwise fun a b => cmpL a.1 b.1 < 0

/-- How many rows come before the marks m (the rows being in order). -/
def plS : List Row → List Int → Nat
  | [], _ => 0
  | a :: r, m => if cmpL a.1 m < 0 then plS r m + 1 else 0

theorem plS_le (l : List Row) (m : List Int) : plS l m ≤ l.length := by
  induction l with
  | nil => simp [plS]
  | cons a r ih => unfold plS; split <;> simp <;> omega
theorem plS_before {l : List Row} {m : List Int} {i : Nat} {r : Row} (h : l[i]? = some r) (hi : i < plS l m) : cmpL r.1 m < 0 := by
  induction l generalizing i with
  | nil => simp at h
  | cons a t ih =>
    unfold plS at hi
    split at hi
    · cases i with
      | zero => simp at h; subst h; assumption
      | succ i => exact ih (by simpa using h) (by omega)
    · omega
theorem plS_at {l : List Row} {m : List Int} {r : Row} (h : l[plS l m]? = some r) : ¬ cmpL r.1 m < 0 := by
  induction l with
  | nil => simp at h
  | cons a t ih =>
    unfold plS at h
    split at h
    · exact ih (by simpa using h)
    · simp at h; subst h; assumption
theorem Asc.lt {l : List Row} (h : Asc l) {i j : Nat} {a b : Row} (hij : i < j) (ha : l[i]? = some a) (hb : l[j]? = some b) : cmpL a.1 b.1 < 0 := by
  obtain ⟨hi, rfl⟩ := List.getElem?_eq_some_iff.1 ha
  obtain ⟨hj, rfl⟩ := List.getElem?_eq_some_iff.1 hb
  exact List.pairwise_iff_getElem.1 h i j hi hj hij

/-- y more ballots of the marks m. -/
def putS : List Row → List Int → Int → List Row
  | [], m, y => [(m, y)]
  | a :: r, m, y => if cmpL a.1 m < 0 then a :: putS r m y else if a.1 = m then (m, a.2 + y) :: r else (m, y) :: a :: r

/-- How many ballots of the marks m. -/
def cntR : List Row → List Int → Int
  | [], _ => 0
  | a :: r, m => if a.1 = m then a.2 else cntR r m

theorem putS_is {l : List Row} {m : List Int} {y z : Int} (h : l[plS l m]? = some (m, z)) : putS l m y = l.set (plS l m) (m, z + y) := by
  induction l with
  | nil => simp at h
  | cons a r ih =>
    unfold plS at h
    unfold plS putS
    split
    · rename_i hlt
      rw [if_pos hlt] at h
      rw [ih (by simpa using h)]; simp
    · rename_i hlt
      rw [if_neg hlt] at h
      simp at h; subst h; simp
theorem putS_new {l : List Row} {m : List Int} {y : Int} (h : ∀ z, l[plS l m]? ≠ some (m, z)) : putS l m y = l.take (plS l m) ++ (m, y) :: l.drop (plS l m) := by
  induction l with
  | nil => simp [putS, plS]
  | cons a r ih =>
    unfold plS putS
    split
    · rename_i hlt
      rw [ih (fun z hz => h z (by unfold plS; rw [if_pos hlt]; simpa using hz))]; simp
    · rename_i hlt
      have : a.1 ≠ m := fun e => h a.2 (by unfold plS; rw [if_neg hlt]; simp [← e])
      rw [if_neg this]; simp
theorem totS_putS (l : List Row) (m : List Int) (y : Int) : totS (putS l m y) = totS l + y := by
  induction l with
  | nil => simp [putS, totS]
  | cons a r ih =>
    unfold putS
    unfold totS at *
    split
    · simp [ih]; omega
    · split <;> simp <;> omega
theorem cntR_lt {l : List Row} (h : Asc l) {m : List Int} (h1 : ∀ x ∈ l, cmpL m x.1 < 0) : cntR l m = 0 := by
  induction l with
  | nil => rfl
  | cons a r ih =>
    unfold cntR
    have := h1 a (List.mem_cons_self ..)
    rw [if_neg (fun e => by rw [e, cmpL_self] at this; omega)]
    exact ih (List.pairwise_cons.1 h).2 (fun x hx => h1 x (List.mem_cons_of_mem _ hx))
/-- Rows in order, with positive counts, are known by their counts. -/
def Pos (l : List Row) : Prop := ∀ x ∈ l, 0 < x.2

end Go.Proofs.YtkmcgpaoekphmaaGreat

namespace Go.Proofs.YtkmcgpaoekphmaaGreat

end Go.Proofs.YtkmcgpaoekphmaaGreat

namespace Go.Proofs.YtkmcgpaoekphmaaGreat

theorem asc_of_step {l : List Row} (h : ∀ (i : Nat) a b, l[i]? = some a → l[i + 1]? = some b → cmpL a.1 b.1 < 0) : Asc l := by
  induction l with
  | nil => exact List.Pairwise.nil
  | cons a r ih =>
    have hr : Asc r := ih fun i x y hx hy => h (i + 1) x y (by simpa using hx) (by simpa using hy)
    refine List.pairwise_cons.2 ⟨fun x hx => ?_, hr⟩
    cases r with
    | nil => simp at hx
    | cons b s =>
      have hab := h 0 a b rfl rfl
      rcases List.mem_cons.1 hx with rfl | hx
      · exact hab
      · exact cmpL_trans hab ((List.pairwise_cons.1 hr).1 x hx)
theorem rowOK_of {c k : Int} {l : List Row} (h : checkS c k l = 0) {i : Nat} (hi : i < l.length) : rowOK c k l i = true := (check_ok h).2.2.2.2.2.2 i hi
theorem asc_check {c k : Int} {l : List Row} (h : checkS c k l = 0) : Asc l := by
  refine asc_of_step fun i a b ha hb => ?_
  have hi := (List.getElem?_eq_some_iff.1 hb).1
  have := rowOK_of h hi
  simp only [rowOK, Bool.and_eq_true, Bool.or_eq_true, decide_eq_true_eq] at this
  rw [show i + 1 - 1 = i by omega, getD_of ha, getD_of hb] at this
  omega
theorem pos_check {c k : Int} {l : List Row} (h : checkS c k l = 0) : Pos l := by
  intro x hx
  obtain ⟨i, hi⟩ := List.getElem?_of_mem hx
  have := rowOK_many (rowOK_of h (List.getElem?_eq_some_iff.1 hi).1)
  rwa [getD_of hi] at this
theorem marks_check {c k : Int} {l : List Row} (h : checkS c k l = 0) {x : Row} (hx : x ∈ l) : bcheckS k x.1 c = 0 := by
  obtain ⟨i, hi⟩ := List.getElem?_of_mem hx
  have := rowOK_of h (List.getElem?_eq_some_iff.1 hi).1
  simp only [rowOK, Bool.and_eq_true, decide_eq_true_eq, getD_of hi] at this
  exact this.2

/-- A valid profile, said plainly. -/
theorem check_iff {c k : Int} {l : List Row} : checkS c k l = 0 ↔ l.length ≤ 64 ∧ 1 ≤ c ∧ c ≤ 10 ∧ 1 ≤ k ∧ k ≤ 3 ∧ totS l ≤ 1000000 ∧ Asc l ∧ Pos l ∧ ∀ x ∈ l, bcheckS k x.1 c = 0 := by
  constructor
  · intro h
    obtain ⟨h1, h2, h3, h4, h5, h6, _⟩ := check_ok h
    exact ⟨h1, h2, h3, h4, h5, h6, asc_check h, pos_check h, fun x hx => marks_check h hx⟩
  · rintro ⟨h1, h2, h3, h4, h5, h6, h7, h8, h9⟩
    have hall : allN l.length (rowOK c k l) = true := allN_true.2 fun i hi => by
      have he := List.getElem?_eq_getElem hi
      have hm := List.getElem_mem hi
      simp only [rowOK, Bool.and_eq_true, Bool.or_eq_true, decide_eq_true_eq, getD_of he]
      refine ⟨⟨?_, h8 _ hm⟩, h9 _ hm⟩
      by_cases e : i = 0
      · exact .inl e
      · right
        have he' := List.getElem?_eq_getElem (show i - 1 < l.length by omega)
        rw [getD_of he']
        exact h7.lt (show i - 1 < i by omega) he' he
    have hne : newErr c k = 0 := by
      by_cases e : newErr c k = 0
      · exact e
      · exact absurd (newErr_bad.1 e) (by omega)
    unfold checkS
    rw [if_neg (by omega), hall, hne, if_neg (by simp), if_neg (by omega)]

theorem le_tot {l : List Row} (h : Pos l) {x : Row} (hx : x ∈ l) : x.2 ≤ totS l := by
  induction l with
  | nil => simp at hx
  | cons a r ih =>
    have ha := h a (List.mem_cons_self ..)
    have hr : Pos r := fun x hx => h x (List.mem_cons_of_mem _ hx)
    have h0 : 0 ≤ totS r := by
      have : ∀ s : List Row, Pos s → 0 ≤ totS s := fun s => by
        induction s with
        | nil => simp [totS]
        | cons b t iht =>
          intro hp
          have := hp b (List.mem_cons_self ..)
          have := iht fun x hx => hp x (List.mem_cons_of_mem _ hx)
          unfold totS at *; simp; omega
      exact this r hr
    have e : totS (a :: r) = a.2 + totS r := by simp [totS]
    rw [e]
    rcases List.mem_cons.1 hx with rfl | hx
    · omega
    · have := ih hr hx; omega

/-- What a function that makes a profile hands back: an error, and a profile (all 0 beside an error). -/
structure PR where
  err : Int
  c : Int
  k : Int
  l : List Row
def badP (e : Int) : PR := ⟨e, 0, 0, []⟩
def wholeP (c k : Int) (l : List Row) : PR := if checkS c k l = 0 then ⟨0, c, k, l⟩ else badP (checkS c k l)
end Go.Proofs.YtkmcgpaoekphmaaGreat

namespace Go.Proofs.YtkmcgpaoekphmaaGreat

end Go.Proofs.YtkmcgpaoekphmaaGreat
