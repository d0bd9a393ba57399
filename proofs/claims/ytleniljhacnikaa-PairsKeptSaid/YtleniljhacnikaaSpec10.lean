/-
  Matrices of pairwise comparisons in plain terms. No program is named here.
-/
import Derived.Test.YtleniljhacnikaaSpec9
namespace Go.Proofs.Ytleniljhacnikaa

abbrev M := Nat → Nat → Int

def I64 (v : Int) : Prop := -9223372036854775808 ≤ v ∧ v ≤ 9223372036854775807

def all2 (p : Nat → Nat → Bool) : Bool := (List.range 10).all fun x => (List.range 10).all fun y => p x y

theorem all2_true {p : Nat → Nat → Bool} : all2 p = true ↔ ∀ x y, x < 10 → y < 10 → p x y = true := by
  simp only [all2, List.all_eq_true, List.mem_range]
  exact ⟨fun h x y hx hy => h x hx y hy, fun h x hx y hy => h x y hx hy⟩
theorem all2_false {p : Nat → Nat → Bool} {x y : Nat} (hx : x < 10) (hy : y < 10) (h : p x y = false) : all2 p = false := by
  rw [← Bool.not_eq_true, all2_true]; intro hh; rw [hh x y hx hy] at h; cases h

def matEq (m m' : M) : Bool := all2 fun x y => decide (m x y = m' x y)

theorem matEq_iff {m m' : M} : matEq m m' = true ↔ ∀ x y, x < 10 → y < 10 → m x y = m' x y := by
  simp only [matEq, all2_true, decide_eq_true_eq]

/-- The places that are 0 in a matrix of c candidates. -/
def offP (c : Int) (x y : Nat) : Prop := x = y ∨ c ≤ (x : Int) ∨ c ≤ (y : Int)
instance (c : Int) (x y : Nat) : Decidable (offP c x y) := by unfold offP; infer_instance

/-- A matrix of c candidates is valid. -/
def rightS (m : M) (c : Int) : Bool :=
  decide (1 ≤ c) && decide (c ≤ 10) && all2 fun x y => decide (0 ≤ m x y ∧ m x y + m y x ≤ 1000000 ∧ (offP c x y → m x y = 0))

theorem rightS_iff {m : M} {c : Int} : rightS m c = true ↔ 1 ≤ c ∧ c ≤ 10 ∧ ∀ x y, x < 10 → y < 10 → 0 ≤ m x y ∧ m x y + m y x ≤ 1000000 ∧ (offP c x y → m x y = 0) := by
  simp only [rightS, Bool.and_eq_true, decide_eq_true_eq, all2_true, and_assoc]

/-- What the program asks of an entry. -/
def posP (m : M) (x y : Nat) : Prop := 0 ≤ m x y ∧ m x y ≤ 1000000 - min (max (m y x) 0) 1000000
/-- The matrix with 0 in the places that must be. -/
def onlyS (m : M) (c : Int) : M := fun x y => if offP c x y then 0 else m x y

theorem rightS_bad {m : M} {c : Int} {x y : Nat} (hx : x < 10) (hy : y < 10) (h : ¬ posP m x y) : rightS m c = false := by
  rw [← Bool.not_eq_true, rightS_iff]
  rintro ⟨_, _, hh⟩
  have h1 := hh x y hx hy
  have h2 := hh y x hy hx
  exact h ⟨h1.1, by omega⟩

theorem rightS_prog {m : M} {c : Int} (h1 : 1 ≤ c) (h2 : c ≤ 10) (h : ∀ x y, x < 10 → y < 10 → posP m x y) : rightS m c = matEq (onlyS m c) m := by
  rw [Bool.eq_iff_iff, rightS_iff, matEq_iff]
  constructor
  · rintro ⟨_, _, hh⟩ x y hx hy
    unfold onlyS
    split
    · rename_i ho; rw [(hh x y hx hy).2.2 ho]
    · rfl
  · intro hh
    refine ⟨h1, h2, fun x y hx hy => ⟨(h x y hx hy).1, ?_, fun ho => ?_⟩⟩
    · have a := h x y hx hy
      have b := h y x hy hx
      have a2 := a.2
      have b2 := b.2
      have a1 := a.1
      have b1 := b.1
      omega
    · have := hh x y hx hy
      unfold onlyS at this
      rw [if_pos ho] at this
      exact this.symm

/-- What the reference asks of an entry, and then of a pair. -/
def entP (m : M) (c : Int) (x y : Nat) : Prop := 0 ≤ m x y ∧ m x y ≤ 1000000 ∧ (m x y ≠ 0 → ¬ offP c x y)

theorem rightS_ent {m : M} {c : Int} {x y : Nat} (hx : x < 10) (hy : y < 10) (h : ¬ entP m c x y) : rightS m c = false := by
  rw [← Bool.not_eq_true, rightS_iff]
  rintro ⟨_, _, hh⟩
  have h1 := hh x y hx hy
  have h2 := hh y x hy hx
  exact h ⟨h1.1, by omega, fun h0 ho => h0 (h1.2.2 ho)⟩
theorem rightS_two {m : M} {c : Int} {x y : Nat} (hx : x < 10) (hy : y < 10) (h : 1000000 < m x y + m y x) : rightS m c = false := by
  rw [← Bool.not_eq_true, rightS_iff]
  rintro ⟨_, _, hh⟩
  have h1 := hh x y hx hy
  omega
theorem rightS_ref {m : M} {c : Int} (h1 : 1 ≤ c) (h2 : c ≤ 10) (h : ∀ x y, x < 10 → y < 10 → entP m c x y) (h' : ∀ x y : Nat, (x : Int) < c → (y : Int) < c → m x y + m y x ≤ 1000000) : rightS m c = true := by
  rw [rightS_iff]
  refine ⟨h1, h2, fun x y hx hy => ?_⟩
  have a := h x y hx hy
  have b := h y x hy hx
  have hz : offP c x y → m x y = 0 := fun ho => by
    by_cases e : m x y = 0
    · exact e
    · exact absurd ho (a.2.2 e)
  have hz' : offP c x y → m y x = 0 := fun ho => by
    have ho' : offP c y x := by unfold offP at *; omega
    by_cases e : m y x = 0
    · exact e
    · exact absurd ho' (b.2.2 e)
  refine ⟨a.1, ?_, hz⟩
  by_cases ho : offP c x y
  · rw [hz ho, hz' ho]; omega
  · unfold offP at ho; exact h' x y (by omega) (by omega)

def marginS (m : M) (x y : Int) : Int :=
  if inR 0 10 x = true ∧ inR 0 10 y = true ∧ rightS m 10 = true then m x.toNat y.toNat - m y.toNat x.toNat else 0
end Go.Proofs.Ytleniljhacnikaa
