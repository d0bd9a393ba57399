/-
  The matrix of what Keep leaves. No program is named here.
  The matrix of a renamed profile. No program is named here.
  Profiles whose marks are turned one by one: what counts of them; keeping in plain terms. No program is named here.
  Renaming there and back, and renaming what is kept, in plain terms. No program is named here.
  The reference's ways of renaming a ballot: mark by mark, candidate by candidate. No program is named here.
  First preferences: who has how many ballots. No program is named here.
-/
import Derived.Test.YtoeajgjpakilgaaGreatSpecA
import Derived.Test.YtoeajgjpakilgaaGreatW9m
import Derived.Test.YtoeajgjpakilgaaGreatW8k
namespace Go.Proofs.YtoeajgjpakilgaaGreat

end Go.Proofs.YtoeajgjpakilgaaGreat

namespace Go.Proofs.YtoeajgjpakilgaaGreat

def nameS (p : List Int) (x : Int) : Int := p.getD x.toNat 0

/-- Names of the numbers below n, each once. -/
structure Names (p : List Int) (n : Nat) : Prop where
  len : p.length = n
  le : n ≤ 10
  one : 1 ≤ n
  nd : p.Nodup
  rng : ∀ x ∈ p, 0 ≤ x ∧ x < n
theorem Names.get {p : List Int} {n : Nat} (h : Names p n) {i : Nat} (hi : i < n) : p[i]? = some (nameS p i) := by
  have : i < p.length := by rw [h.len]; exact hi
  simp [nameS, List.getD, this]
theorem Names.inj {p : List Int} {n : Nat} (h : Names p n) {x y : Int} (hx : 0 ≤ x ∧ x < n) (hy : 0 ≤ y ∧ y < n) (e : nameS p x = nameS p y) : x = y := by
  have h1 := h.get (i := x.toNat) (by omega)
  have h2 := h.get (i := y.toNat) (by omega)
  rw [Int.toNat_of_nonneg hx.1] at h1
  rw [Int.toNat_of_nonneg hy.1] at h2
  have a1 := placeS_at h.nd h1
  have a2 := placeS_at h.nd h2
  rw [e, a2] at a1
  omega
end Go.Proofs.YtoeajgjpakilgaaGreat

namespace Go.Proofs.YtoeajgjpakilgaaGreat

/-- The ballots whose marks φ takes. -/
def wsum (φ : List Int → Bool) (l : List Row) : Int := (l.map fun r => if φ r.1 = true then r.2 else 0).sum
theorem wsum_cons (φ : List Int → Bool) (a : Row) (r : List Row) : wsum φ (a :: r) = (if φ a.1 = true then a.2 else 0) + wsum φ r := by simp [wsum]
end Go.Proofs.YtoeajgjpakilgaaGreat

namespace Go.Proofs.YtoeajgjpakilgaaGreat

end Go.Proofs.YtoeajgjpakilgaaGreat

namespace Go.Proofs.YtoeajgjpakilgaaGreat

end Go.Proofs.YtoeajgjpakilgaaGreat

namespace Go.Proofs.YtoeajgjpakilgaaGreat

/-- The ballots whose first mark that φ takes is x. -/
def hadS (φ : Int → Bool) (l : List Row) (x : Int) : Int := wsum (fun ms => decide (ms.find? φ = some x)) l
/-- The ballots that have no mark that φ takes. -/
def lostS (φ : Int → Bool) (l : List Row) : Int := wsum (fun ms => decide (ms.find? φ = none)) l
def hadL (φ : Int → Bool) (l : List Row) (n : Nat) : List Int := (List.range n).map fun x : Nat => hadS φ l (x : Int)
theorem hadL_zero (φ : Int → Bool) (n : Nat) : hadL φ [] n = List.replicate n 0 := by
  unfold hadL hadS
  refine List.ext_getElem (by simp) fun i h1 h2 => ?_
  simp [wsum]
theorem wsum_nn {φ : List Int → Bool} {l : List Row} (h : Pos l) : 0 ≤ wsum φ l := by
  induction l with
  | nil => exact Int.le_refl _
  | cons a r ih =>
    have ha := h a (List.mem_cons_self ..)
    have hr := ih fun x hx => h x (List.mem_cons_of_mem _ hx)
    rw [wsum_cons]; split <;> omega
theorem wsum_le_tot {φ : List Int → Bool} {l : List Row} (h : Pos l) : wsum φ l ≤ totS l := by
  induction l with
  | nil => exact Int.le_refl _
  | cons a r ih =>
    have ha := h a (List.mem_cons_self ..)
    have hr := ih fun x hx => h x (List.mem_cons_of_mem _ hx)
    have e : totS (a :: r) = a.2 + totS r := by simp [totS]
    rw [wsum_cons, e]; split <;> omega
/-- A number of ballots fits. -/
theorem hadS_bd {φ : Int → Bool} {l : List Row} (h : Pos l) (x : Int) : 0 ≤ hadS φ l x ∧ hadS φ l x ≤ totS l := ⟨wsum_nn h, wsum_le_tot h⟩
theorem lostS_bd {φ : Int → Bool} {l : List Row} (h : Pos l) : 0 ≤ lostS φ l ∧ lostS φ l ≤ totS l := ⟨wsum_nn h, wsum_le_tot h⟩
/-- Every ballot counts once. -/
theorem had_all {φ : Int → Bool} {l : List Row} {n : Nat} (hm : ∀ r ∈ l, ∀ x ∈ r.1, 0 ≤ x ∧ x < n) : (hadL φ l n).sum + lostS φ l = totS l := by
  induction l with
  | nil => rw [hadL_zero]; simp [lostS, wsum, totS]
  | cons a r ih =>
    have ih := ih fun x hx => hm x (List.mem_cons_of_mem _ hx)
    have e : totS (a :: r) = a.2 + totS r := by simp [totS]
    have hs : ∀ (f : Nat → Int) (k : Nat), ((List.range (k + 1)).map f).sum = ((List.range k).map f).sum + f k := fun f k => by
      rw [List.range_succ, List.map_append, List.sum_append]; simp
    have hh : ∀ x : Nat, hadS φ (a :: r) (x : Int) = (if a.1.find? φ = some (x : Int) then a.2 else 0) + hadS φ r (x : Int) := fun x => by
      unfold hadS; rw [wsum_cons]; simp
    have hl : lostS φ (a :: r) = (if a.1.find? φ = none then a.2 else 0) + lostS φ r := by unfold lostS; rw [wsum_cons]; simp
    have hsum : ∀ k, ((List.range k).map fun x : Nat => hadS φ (a :: r) (x : Int)).sum = ((List.range k).map fun x : Nat => if a.1.find? φ = some (x : Int) then a.2 else 0).sum + ((List.range k).map fun x : Nat => hadS φ r (x : Int)).sum := fun k => by
      induction k with
      | zero => rfl
      | succ k ihk => rw [hs, hs, hs, ihk, hh]; omega
    have hone : ((List.range n).map fun x : Nat => if a.1.find? φ = some (x : Int) then a.2 else 0).sum = if a.1.find? φ = none then 0 else a.2 := by
      cases hf : a.1.find? φ with
      | none =>
        rw [if_pos rfl]
        have : ∀ k, ((List.range k).map fun x : Nat => if (none : Option Int) = some (x : Int) then a.2 else 0).sum = 0 := fun k => by
          induction k with
          | zero => rfl
          | succ k ihk => rw [hs, ihk]; simp
        exact this n
      | some m =>
        rw [if_neg (by simp)]
        obtain ⟨h0, h1⟩ := hm a (List.mem_cons_self ..) m (List.mem_of_find?_eq_some hf)
        have : ∀ k : Nat, ((List.range k).map fun x : Nat => if some m = some (x : Int) then a.2 else 0).sum = if m < k then a.2 else 0 := fun k => by
          induction k with
          | zero => rw [if_neg (by omega)]; rfl
          | succ k ihk =>
            rw [hs, ihk]
            simp only [Option.some.injEq]
            by_cases e1 : m = (k : Int)
            · rw [if_neg (by omega), if_pos e1, if_pos (by omega)]; omega
            · rw [if_neg e1]
              by_cases e2 : m < (k : Int)
              · rw [if_pos e2, if_pos (by omega)]; omega
              · rw [if_neg e2, if_neg (by omega)]; omega
        rw [this n, if_pos h1]
    unfold hadL at ih ⊢
    rw [hsum, hone, hl, e]
    split <;> omega
end Go.Proofs.YtoeajgjpakilgaaGreat
