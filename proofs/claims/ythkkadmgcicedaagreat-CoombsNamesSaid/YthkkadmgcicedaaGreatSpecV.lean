/-
  First preferences: who has how many ballots. No program is named here.
-/
import Derived.Test.YthkkadmgcicedaaGreatSpecM
namespace Go.Proofs.YthkkadmgcicedaaGreat

/-- The ballots whose first mark that φ takes is x. -/
def hadS (φ : Int → Bool) (l : List Row) (x : Int) : Int := wsum (fun ms => decide (ms.find? φ = some x)) l
/-- The ballots that have no mark that φ takes. -/
def lostS (φ : Int → Bool) (l : List Row) : Int := wsum (fun ms => decide (ms.find? φ = none)) l
def hadL (φ : Int → Bool) (l : List Row) (n : Nat) : List Int := (List.range n).map fun x : Nat => hadS φ l (x : Int)
theorem length_hadL (φ : Int → Bool) (l : List Row) (n : Nat) : (hadL φ l n).length = n := by simp [hadL]
theorem get_hadL (φ : Int → Bool) (l : List Row) {n x : Nat} (h : x < n) : (hadL φ l n)[x]? = some (hadS φ l (x : Int)) := by
  unfold hadL; rw [List.getElem?_map, List.getElem?_range h]; rfl
theorem wsum_take_succ (φ : List Int → Bool) {l : List Row} {t : Nat} {ms : List Int} {y : Int} (hat : l[t]? = some (ms, y)) : wsum φ (l.take (t + 1)) = wsum φ (l.take t) + if φ ms = true then y else 0 := by
  rw [List.take_add_one, hat]
  unfold wsum
  rw [List.map_append, List.sum_append]
  simp
theorem hadL_hit {φ : Int → Bool} {l : List Row} {n t m : Nat} {ms : List Int} {y : Int} (hat : l[t]? = some (ms, y)) (hf : ms.find? φ = some (m : Int)) : hadL φ (l.take (t + 1)) n = (hadL φ (l.take t) n).set m (hadS φ (l.take t) (m : Int) + y) := by
  refine List.ext_getElem? fun i => ?_
  by_cases hi : i < n
  · rw [get_hadL φ _ hi]
    by_cases e : i = m
    · subst e
      rw [List.getElem?_set_self (by rw [length_hadL]; exact hi)]
      unfold hadS
      rw [wsum_take_succ _ hat, hf]
      simp
    · rw [List.getElem?_set_ne (Ne.symm e), get_hadL φ _ hi]
      unfold hadS
      rw [wsum_take_succ _ hat, hf]
      have : ¬ (some (m : Int) = some (i : Int)) := fun h => e (by have := Option.some.inj h; omega)
      simp [this]
  · rw [List.getElem?_eq_none (by rw [length_hadL]; omega), List.getElem?_eq_none (by rw [List.length_set, length_hadL]; omega)]
theorem hadL_miss {φ : Int → Bool} {l : List Row} {n t : Nat} {ms : List Int} {y : Int} (hat : l[t]? = some (ms, y)) (hf : ms.find? φ = none) : hadL φ (l.take (t + 1)) n = hadL φ (l.take t) n := by
  unfold hadL hadS
  refine List.map_congr_left fun x _ => ?_
  rw [wsum_take_succ _ hat, hf]
  simp
theorem lostS_hit {φ : Int → Bool} {l : List Row} {t : Nat} {m : Int} {ms : List Int} {y : Int} (hat : l[t]? = some (ms, y)) (hf : ms.find? φ = some m) : lostS φ (l.take (t + 1)) = lostS φ (l.take t) := by
  unfold lostS; rw [wsum_take_succ _ hat, hf]; simp
theorem lostS_miss {φ : Int → Bool} {l : List Row} {t : Nat} {ms : List Int} {y : Int} (hat : l[t]? = some (ms, y)) (hf : ms.find? φ = none) : lostS φ (l.take (t + 1)) = lostS φ (l.take t) + y := by
  unfold lostS; rw [wsum_take_succ _ hat, hf]; simp
theorem hadL_zero (φ : Int → Bool) (n : Nat) : hadL φ [] n = List.replicate n 0 := by
  unfold hadL hadS
  refine List.ext_getElem (by simp) fun i h1 h2 => ?_
  simp [wsum]
theorem wsum_nn {φ : List Int → Bool} {l : List Row} (h : Pos l) : 0 ≤ wsum φ l := by
  induction l with
  | nil => exact Int.le_refl _
  | cons a r ih =>
    have ha := h a (List.mem_cons_self ..)
    have hr := ih fun x hx => h x (List.mem_cons_of_mem _ hx)
    rw [wsum_cons]; split <;> omega
theorem wsum_le_tot {φ : List Int → Bool} {l : List Row} (h : Pos l) : wsum φ l ≤ totS l := by
  induction l with
  | nil => exact Int.le_refl _
  | cons a r ih =>
    have ha := h a (List.mem_cons_self ..)
    have hr := ih fun x hx => h x (List.mem_cons_of_mem _ hx)
    have e : totS (a :: r) = a.2 + totS r := by simp [totS]
    rw [wsum_cons, e]; split <;> omega
/-- A number of ballots fits. -/
theorem hadS_bd {φ : Int → Bool} {l : List Row} (h : Pos l) (x : Int) : 0 ≤ hadS φ l x ∧ hadS φ l x ≤ totS l := ⟨wsum_nn h, wsum_le_tot h⟩
theorem lostS_bd {φ : Int → Bool} {l : List Row} (h : Pos l) : 0 ≤ lostS φ l ∧ lostS φ l ≤ totS l := ⟨wsum_nn h, wsum_le_tot h⟩
/-- Every ballot counts once. -/
theorem had_all {φ : Int → Bool} {l : List Row} {n : Nat} (hm : ∀ r ∈ l, ∀ x ∈ r.1, 0 ≤ x ∧ x < n) : (hadL φ l n).sum + lostS φ l = totS l := by
  induction l with
  | nil => rw [hadL_zero]; simp [lostS, wsum, totS]
  | cons a r ih =>
    have ih := ih fun x hx => hm x (List.mem_cons_of_mem _ hx)
    have e : totS (a :: r) = a.2 + totS r := by simp [totS]
    have hs : ∀ (f : Nat → Int) (k : Nat), ((List.range (k + 1)).map f).sum = ((List.range k).map f).sum + f k := fun f k => by
      rw [List.range_succ, List.map_append, List.sum_append]; simp
    have hh : ∀ x : Nat, hadS φ (a :: r) (x : Int) = (if a.1.find? φ = some (x : Int) then a.2 else 0) + hadS φ r (x : Int) := fun x => by
      unfold hadS; rw [wsum_cons]; simp
    have hl : lostS φ (a :: r) = (if a.1.find? φ = none then a.2 else 0) + lostS φ r := by unfold lostS; rw [wsum_cons]; simp
    have hsum : ∀ k, ((List.range k).map fun x : Nat => hadS φ (a :: r) (x : Int)).sum = ((List.range k).map fun x : Nat => if a.1.find? φ = some (x : Int) then a.2 else 0).sum + ((List.range k).map fun x : Nat => hadS φ r (x : Int)).sum := fun k => by
      induction k with
      | zero => rfl
      | succ k ihk => rw [hs, hs, hs, ihk, hh]; omega
    have hone : ((List.range n).map fun x : Nat => if a.1.find? φ = some (x : Int) then a.2 else 0).sum = if a.1.find? φ = none then 0 else a.2 := by
      cases hf : a.1.find? φ with
      | none =>
        rw [if_pos rfl]
        have : ∀ k, ((List.range k).map fun x : Nat => if (none : Option Int) = some (x : Int) then a.2 else 0).sum = 0 := fun k => by
          induction k with
          | zero => rfl
          | succ k ihk => rw [hs, ihk]; simp
        exact this n
      | some m =>
        rw [if_neg (by simp)]
        obtain ⟨h0, h1⟩ := hm a (List.mem_cons_self ..) m (List.mem_of_find?_eq_some hf)
        have : ∀ k : Nat, ((List.range k).map fun x : Nat => if some m = some (x : Int) then a.2 else 0).sum = if m < k then a.2 else 0 := fun k => by
          induction k with
          | zero => rw [if_neg (by omega)]; rfl
          | succ k ihk =>
            rw [hs, ihk]
            simp only [Option.some.injEq]
            by_cases e1 : m = (k : Int)
            · rw [if_neg (by omega), if_pos e1, if_pos (by omega)]; omega
            · rw [if_neg e1]
              by_cases e2 : m < (k : Int)
              · rw [if_pos e2, if_pos (by omega)]; omega
              · rw [if_neg e2, if_neg (by omega)]; omega
        rw [this n, if_pos h1]
    unfold hadL at ih ⊢
    rw [hsum, hone, hl, e]
    split <;> omega
end Go.Proofs.YthkkadmgcicedaaGreat
