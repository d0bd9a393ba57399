/-
  The matrix of a profile, in plain terms. No program is named here.
-/
import Derived.Test.YtleniljhacnikaaSpec10d
namespace Go.Proofs.Ytleniljhacnikaa

/-- How many ballots of the first i rows prefer x to y. -/
def ofS (k : Int) (l : List Row) (i x y : Nat) : Int := ((l.take i).map fun r => if prefersS k r.1 x y = true then r.2 else 0).sum
def ofM (k : Int) (l : List Row) (c i : Nat) : M := fun x y => if x < c ∧ y < c then ofS k l i x y else 0
def ofR (c k : Int) (l : List Row) : M := if checkS c k l = 0 then ofM k l c.toNat l.length else fun _ _ => 0

theorem ofS_succ {k : Int} {l : List Row} {i x y : Nat} {r : Row} (h : l[i]? = some r) : ofS k l (i + 1) x y = ofS k l i x y + if prefersS k r.1 x y = true then r.2 else 0 := by
  unfold ofS
  rw [List.take_add_one, h]
  simp
theorem ofM_zero (k : Int) (l : List Row) (c a b : Nat) : 0 = ofM k l c 0 a b := by unfold ofM ofS; split <;> simp
theorem ofM_yes {k : Int} {l : List Row} {c i x y : Nat} {r : Row} (h : l[i]? = some r) (hx : x < c) (hy : y < c) (hp : prefersS k r.1 x y = true) : ofM k l c (i + 1) x y = ofM k l c i x y + r.2 := by
  unfold ofM; rw [if_pos ⟨hx, hy⟩, if_pos ⟨hx, hy⟩, ofS_succ h, if_pos hp]
theorem ofM_no {k : Int} {l : List Row} {c i x y : Nat} {r : Row} (h : l[i]? = some r) (hx : x < c) (hy : y < c) (hp : prefersS k r.1 x y = false) : ofM k l c (i + 1) x y = ofM k l c i x y := by
  unfold ofM; rw [if_pos ⟨hx, hy⟩, if_pos ⟨hx, hy⟩, ofS_succ h, if_neg (by simp [hp])]; omega
theorem ofM_off {k : Int} {l : List Row} {c i j a b : Nat} (h : ¬ (a < c ∧ b < c)) : ofM k l c i a b = ofM k l c j a b := by
  unfold ofM; rw [if_neg h, if_neg h]

/-- What a valid profile is. -/
theorem check_ok {c k : Int} {l : List Row} (h : checkS c k l = 0) : l.length ≤ 64 ∧ 1 ≤ c ∧ c ≤ 10 ∧ 1 ≤ k ∧ k ≤ 3 ∧ totS l ≤ 1000000 ∧ ∀ i, i < l.length → rowOK c k l i = true := by
  unfold checkS at h
  split at h
  · cases h
  split at h
  · cases h
  split at h
  · cases h
  rename_i h1 h2 h3
  have h4 : newErr c k = 0 := by
    by_cases e : newErr c k = 0
    · exact e
    · exact absurd (.inr e) h2
  have h5 : ¬ (c < 1 ∨ 10 < c ∨ k < 1 ∨ 3 < k) := fun hh => newErr_bad.2 hh h4
  have h6 : allN l.length (rowOK c k l) = true := by
    cases e : allN l.length (rowOK c k l) with
    | true => rfl
    | false => exact absurd (.inl e) h2
  exact ⟨by omega, by omega, by omega, by omega, by omega, by omega, allN_true.1 h6⟩

theorem ofS_bd {c k : Int} {l : List Row} (h : ∀ i, i < l.length → rowOK c k l i = true) (x y : Nat) : ∀ i, i ≤ l.length → 0 ≤ ofS k l i x y ∧ ofS k l i x y ≤ totS (l.take i)
  | 0, _ => by simp [ofS, totS]
  | i + 1, hi => by
    have hl : i < l.length := by omega
    have he := List.getElem?_eq_getElem hl
    have h1 := ofS_bd h x y i (by omega)
    have h2 := rowOK_many (h i hl)
    rw [getD_of he] at h2
    rw [ofS_succ he, totS_take_succ he]
    split <;> omega
theorem ofM_bd {c k : Int} {l : List Row} (h : checkS c k l = 0) (cn : Nat) {i : Nat} (hi : i ≤ l.length) (x y : Nat) : 0 ≤ ofM k l cn i x y ∧ ofM k l cn i x y ≤ 1000000 := by
  obtain ⟨_, _, _, _, _, h6, h7⟩ := check_ok h
  have h1 := ofS_bd h7 x y i hi
  have h2 := totS_mono (l := l) (fun i hi => rowOK_many (h7 i hi)) (a := i) (b := l.length) hi (Nat.le_refl _)
  rw [List.take_length] at h2
  unfold ofM
  split <;> omega

theorem upFrom_rowAt {h g : M} {X c : Nat} (a b : Nat) (he : c ≤ b → h a b = g a b) : upFrom h g X c a b = upFrom h g (X + 1) 0 a b := by
  unfold upFrom
  by_cases e : b < c
  · by_cases e2 : a < X ∨ (a = X ∧ b < c)
    · rw [if_pos e2, if_pos (by omega)]
    · rw [if_neg e2, if_neg (by omega)]
  · have := he (by omega)
    split <;> split <;> simp [this]
theorem upFrom_end {h g : M} {c : Nat} (a b : Nat) (he : c ≤ a → h a b = g a b) : upFrom h g c 0 a b = g a b := by
  unfold upFrom
  by_cases e : a < c
  · rw [if_pos (by omega)]
  · rw [if_neg (by omega)]; exact he (by omega)
theorem upFrom_same {h g : M} {X Y : Nat} (e : g X Y = h X Y) (a b : Nat) : upFrom h g X Y a b = upFrom h g X (Y + 1) a b := by
  rw [← upFrom_put]
  split
  · rename_i hh; obtain ⟨rfl, rfl⟩ := hh; rw [upFrom_here, e]
  · rfl
end Go.Proofs.Ytleniljhacnikaa
