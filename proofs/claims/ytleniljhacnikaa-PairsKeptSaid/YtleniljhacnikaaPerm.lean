/-
  Permutations of the first numbers, in plain terms. No program is named here.
-/
import Derived.Test.YtleniljhacnikaaSpec8
namespace Go.Proofs.Ytleniljhacnikaa

/-- A permutation of the numbers from 0 on, at least one and at most ten. -/
def turnedS (p : List Int) : Bool := decide (1 ≤ p.length) && decide (p.length ≤ 10) && (List.range p.length).all fun i => decide ((i : Int) ∈ p)

def rangeI (n : Nat) : List Int := (List.range n).map fun i : Nat => (i : Int)

theorem mem_rangeI {n : Nat} {x : Int} : x ∈ rangeI n ↔ 0 ≤ x ∧ x < n := by
  unfold rangeI
  rw [List.mem_map]
  constructor
  · rintro ⟨i, hi, rfl⟩; rw [List.mem_range] at hi; omega
  · rintro ⟨h0, h1⟩; exact ⟨x.toNat, by rw [List.mem_range]; omega, by omega⟩

theorem nodup_rangeI (n : Nat) : (rangeI n).Nodup := by
  unfold rangeI List.Nodup
  rw [List.pairwise_map]
  exact (List.nodup_range (n := n)).imp fun h e => h (by omega)

theorem length_rangeI (n : Nat) : (rangeI n).length = n := by simp [rangeI]

theorem perm_of_subset {α : Type} [DecidableEq α] {l m : List α} (h1 : l.Nodup) (h2 : l ⊆ m) (h3 : m.length ≤ l.length) : l.Perm m := by
  induction l generalizing m with
  | nil => have : m = [] := List.eq_nil_of_length_eq_zero (by simpa using h3); subst this; exact .nil
  | cons a t ih =>
    have h1 := List.nodup_cons.1 h1
    have ha : a ∈ m := h2 (List.mem_cons_self ..)
    have hs : t ⊆ m.erase a := fun x hx => (List.mem_erase_of_ne (fun e => h1.1 (by rw [← e]; exact hx))).2 (h2 (List.mem_cons_of_mem _ hx))
    have hl : (m.erase a).length = m.length - 1 := List.length_erase_of_mem ha
    have := ih h1.2 hs (by rw [hl]; simp at h3; omega)
    exact (this.cons a).trans (List.perm_cons_erase ha).symm

theorem turned_perm {p : List Int} : turnedS p = true ↔ 1 ≤ p.length ∧ p.length ≤ 10 ∧ (rangeI p.length).Perm p := by
  simp only [turnedS, Bool.and_eq_true, decide_eq_true_eq, List.all_eq_true, List.mem_range]
  constructor
  · rintro ⟨⟨h1, h2⟩, h3⟩
    refine ⟨h1, h2, perm_of_subset (nodup_rangeI _) (fun x hx => ?_) (by rw [length_rangeI]; exact Nat.le_refl _)⟩
    have hx := mem_rangeI.1 hx
    have := h3 x.toNat (by omega)
    rwa [Int.toNat_of_nonneg hx.1] at this
  · rintro ⟨h1, h2, h3⟩
    exact ⟨⟨h1, h2⟩, fun i hi => h3.subset (mem_rangeI.2 (by omega))⟩

theorem turned_iff {p : List Int} : turnedS p = true ↔ 1 ≤ p.length ∧ p.Nodup ∧ ∀ x ∈ p, 0 ≤ x ∧ x < p.length ∧ x < 10 := by
  rw [turned_perm]
  constructor
  · rintro ⟨h1, h2, h3⟩
    refine ⟨h1, h3.nodup_iff.1 (nodup_rangeI _), fun x hx => ?_⟩
    have := mem_rangeI.1 (h3.symm.subset hx)
    omega
  · rintro ⟨h1, h2, h3⟩
    have hs : p ⊆ rangeI p.length := fun x hx => mem_rangeI.2 ⟨(h3 x hx).1, (h3 x hx).2.1⟩
    have hs10 : p ⊆ rangeI 10 := fun x hx => mem_rangeI.2 ⟨(h3 x hx).1, by have := (h3 x hx).2.2; omega⟩
    have hl := h2.length_le_of_subset hs10
    rw [length_rangeI] at hl
    exact ⟨h1, hl, (perm_of_subset h2 hs (by rw [length_rangeI]; exact Nat.le_refl _)).symm⟩
end Go.Proofs.Ytleniljhacnikaa
