/-
  The law CondorcetTies in plain terms: whose number is the best, and what all numbers come to.
-/
import Derived.Test.YtkhclcdmehjfkaaGreatW3k
namespace Go.Proofs.YtkhclcdmehjfkaaGreat
open Go.RowKit Go.Proofs

/-- Of the first Y, those with the best. -/
def amT (f : Int → Int) (C Y : Nat) : List Int := (rangeI Y).filter (inL (bestS f (rangeI C)))
theorem amT_zero (f : Int → Int) (C : Nat) : amT f C 0 = [] := rfl
theorem amT_all (f : Int → Int) (C : Nat) : amT f C C = bestS f (rangeI C) := filter_sub (bestS_sub _ _) (nodup_rangeI C)
theorem amT_in {f : Int → Int} {C Y : Nat} (h : inL (bestS f (rangeI C)) Y = true) : amT f C (Y + 1) = amT f C Y ++ [(Y : Int)] := by
  unfold amT; rw [rangeI_succ, List.filter_append]; simp [h]
theorem amT_out {f : Int → Int} {C Y : Nat} (h : inL (bestS f (rangeI C)) Y = false) : amT f C (Y + 1) = amT f C Y := by
  unfold amT; rw [rangeI_succ, List.filter_append]; simp [h]
theorem amT_le (f : Int → Int) (C Y : Nat) : (amT f C Y).length ≤ Y := Nat.le_trans (List.length_filter_le _ _) (by rw [length_rangeI]; exact Nat.le_refl _)
/-- The numbers of the first Y together. -/
def sumT (g : Nat → Nat) : Nat → Nat
  | 0 => 0
  | Y + 1 => sumT g Y + g Y
theorem sumT_succ (g : Nat → Nat) (Y : Nat) : sumT g (Y + 1) = sumT g Y + g Y := rfl
theorem sumT_le {g : Nat → Nat} {B : Nat} : ∀ {Y : Nat}, (∀ y, y < Y → g y ≤ B) → sumT g Y ≤ Y * B
  | 0, _ => by simp [sumT]
  | Y + 1, h => by
    have h1 := sumT_le (g := g) (B := B) (Y := Y) fun y hy => h y (by omega)
    have h2 := h Y (by omega)
    rw [sumT_succ, Nat.add_mul]; omega
theorem cmp_zero {a b : Int} : (cmpS a b == 0) = decide (a = b) := by
  unfold cmpS
  by_cases h1 : a < b
  · rw [if_pos h1]; simp; omega
  · rw [if_neg h1]
    by_cases h2 : b < a
    · rw [if_pos h2]; simp; omega
    · rw [if_neg h2]; simp; omega
theorem cmp_ge {a b : Int} (h : b ≤ a) : 0 ≤ cmpS a b ∧ cmpS a b ≤ 1 := by unfold cmpS; split <;> (try split) <;> omega
theorem cmp_le {a b : Int} (h : a ≤ b) : -1 ≤ cmpS a b ∧ cmpS a b ≤ 0 := by unfold cmpS; split <;> (try split) <;> omega
/-- Who has as much as a best one is a best one. -/
theorem best_eq {f : Int → Int} {C : Nat} {x y : Int} (hx : x ∈ bestS f (rangeI C)) (hy : 0 ≤ y ∧ y < C) : inL (bestS f (rangeI C)) y = decide (f x = f y) := by
  obtain ⟨h1, h2⟩ := mem_bestS.1 hx
  have hyr := mem_rangeI.2 hy
  have h3 := h2 y hyr
  unfold inL
  rw [Bool.eq_iff_iff, decide_eq_true_eq, decide_eq_true_eq, mem_bestS]
  constructor
  · rintro ⟨_, h4⟩
    have := h4 x h1
    omega
  · intro e
    exact ⟨hyr, fun k hk => by have := h2 k hk; omega⟩
/-- Sums over the first n. -/
def sN (g : Nat → Int) : Nat → Int
  | 0 => 0
  | k + 1 => sN g k + g k
theorem sN_add (g h : Nat → Int) : ∀ n, sN (fun x => g x + h x) n = sN g n + sN h n
  | 0 => rfl
  | n + 1 => by
    show sN (fun x => g x + h x) n + (g n + h n) = _
    rw [sN_add g h n]
    show _ = (sN g n + g n) + (sN h n + h n)
    omega
theorem sN_two {g : Nat → Int} : ∀ {n : Nat}, (∀ x, x < n → g x = 2) → sN g n = 2 * n
  | 0, _ => by simp [sN]
  | n + 1, h => by
    show sN g n + g n = _
    rw [sN_two fun x hx => h x (by omega), h n (by omega)]
    omega
def copC (m : M) (x y : Nat) : Int := if m y x < m x y then 2 else if m x y = m y x ∧ x ≠ y then 1 else 0
theorem copP_sN (m : M) (x : Nat) : ∀ k, copP m x k = sN (copC m x) k
  | 0 => rfl
  | k + 1 => by rw [copP_succ, copP_sN m x k]; rfl
theorem copC_pair (m : M) {x y : Nat} (h : x ≠ y) : copC m x y + copC m y x = 2 := by
  unfold copC
  by_cases h1 : m y x < m x y
  · rw [if_pos h1, if_neg (by omega), if_neg (by omega)]; rfl
  · rw [if_neg h1]
    by_cases h2 : m x y < m y x
    · rw [if_neg (by omega), if_pos h2]; rfl
    · rw [if_pos ⟨by omega, h⟩, if_neg h2, if_pos ⟨by omega, fun e => h e.symm⟩]; rfl
theorem copC_self (m : M) (x : Nat) : copC m x x = 0 := by unfold copC; rw [if_neg (by omega), if_neg (by simp)]
theorem cop_square (m : M) : ∀ n : Nat, sN (fun x => copP m x n) n = (n : Int) * ((n : Int) - 1)
  | 0 => by simp [sN]
  | n + 1 => by
    show sN (fun x => copP m x (n + 1)) n + copP m n (n + 1) = _
    have e1 : sN (fun x => copP m x (n + 1)) n = sN (fun x => copP m x n) n + sN (fun x => copC m x n) n := by
      rw [← sN_add]
      congr 1
    have e2 : copP m n (n + 1) = sN (copC m n) n := by
      rw [copP_sN]
      show sN (copC m n) n + copC m n n = _
      rw [copC_self]; omega
    have e3 : sN (fun x => copC m x n) n + sN (copC m n) n = 2 * n := by
      rw [← sN_add]
      exact sN_two fun x hx => copC_pair m (by omega)
    rw [e1, e2, cop_square m n]
    have e4 : ((n + 1 : Nat) : Int) * (((n + 1 : Nat) : Int) - 1) = (n : Int) * ((n : Int) - 1) + 2 * n := by
      have : ((n + 1 : Nat) : Int) = (n : Int) + 1 := by omega
      rw [this, Int.add_sub_cancel, Int.add_mul, Int.mul_sub, Int.one_mul, Int.mul_one]
      omega
    rw [e4]
    omega
theorem sumT_cop (m : M) (C : Nat) : ∀ n, ((sumT (fun y => (copF m C (y : Int)).toNat) n : Nat) : Int) = sN (fun x => copP m x C) n
  | 0 => rfl
  | n + 1 => by
    rw [sumT_succ]
    show _ = sN (fun x => copP m x C) n + copP m n C
    rw [← sumT_cop m C n]
    have h1 := (copP_bd m n C).1
    have h2 : copF m C (n : Int) = copP m n C := rfl
    rw [h2]
    omega
theorem sum_half (m : M) (C : Nat) : ∃ k : Nat, sumT (fun y => (copF m C (y : Int)).toNat) C = 2 * k ∧ (C : Int) * ((C : Int) - 1) = 2 * (k : Int) := by
  have h1 := sumT_cop m C C
  rw [cop_square m C] at h1
  have h2 : ∀ n : Nat, ∃ k : Nat, (n : Int) * ((n : Int) - 1) = 2 * (k : Int) := fun n => by
    induction n with
    | zero => exact ⟨0, by simp⟩
    | succ n ih =>
      obtain ⟨k, hk⟩ := ih
      refine ⟨k + n, ?_⟩
      have : ((n + 1 : Nat) : Int) = (n : Int) + 1 := by omega
      rw [this, Int.add_sub_cancel, Int.add_mul, Int.one_mul]
      rw [Int.mul_sub, Int.mul_one] at hk
      omega
  obtain ⟨k, hk⟩ := h2 C
  exact ⟨k, by omega, hk⟩
/-- What a rule's numbers are, in halves. -/
structure TiesF (C : Nat) (f : Int → Int) (G : Int → Rat3) (fh : Nat → Nat) (r : Nat) : Prop where
  g : ∀ y : Nat, y < C → G (f y) = halfS (fh y : Nat)
  ord0 : r = 0 → ∀ a b : Nat, a < C → b < C → f b ≤ f a → fh b ≤ fh a
  ord1 : r = 1 → ∀ a b : Nat, a < C → b < C → f b ≤ f a → fh a ≤ fh b
  eq : ∀ a b : Nat, a < C → b < C → (fh a = fh b ↔ f a = f b)
  bd : ∀ y, y < C → fh y ≤ 4000000
  sum : r = 0 → ∃ k : Nat, sumT fh C = 2 * k ∧ (C : Int) * ((C : Int) - 1) = 2 * (k : Int)
theorem ties0 (m : M) {C : Nat} (hC : C ≤ 10) : TiesF C (copF m C) halfS (fun y => (copF m C (y : Int)).toNat) 0 := by
  have h1 : ∀ y : Nat, 0 ≤ copF m C (y : Int) ∧ copF m C (y : Int) ≤ 2 * C := fun y => copP_bd m y C
  refine ⟨fun y _ => ?_, fun _ a b _ _ h => ?_, fun h => by omega, fun a b _ _ => ?_, fun y _ => ?_, fun _ => sum_half m C⟩
  · have := h1 y
    show halfS _ = halfS _
    congr 1; omega
  · have := h1 a; have := h1 b; show (copF m C (b : Int)).toNat ≤ (copF m C (a : Int)).toNat; omega
  · have := h1 a; have := h1 b; show (copF m C (a : Int)).toNat = (copF m C (b : Int)).toNat ↔ _; omega
  · have := h1 y; show (copF m C (y : Int)).toNat ≤ _; omega
theorem ties1 {m : M} (hb : Bd m) {C : Nat} (hC : C ≤ 10) : TiesF C (worF m C) (fun n => wholeS (-n)) (fun y => 2 * (-(worF m C (y : Int))).toNat) 1 := by
  have h1 : ∀ y : Nat, y < C → -1000000 ≤ worF m C (y : Int) ∧ worF m C (y : Int) ≤ 0 := fun y hy => worP_bd hb (by omega) hC
  refine ⟨fun y hy => ?_, fun h => by omega, fun _ a b ha hb' h => ?_, fun a b ha hb' => ?_, fun y hy => ?_, fun h => by omega⟩
  · have := h1 y hy
    show wholeS _ = halfS ((2 * _ : Nat) : Int)
    rw [half_whole]
    congr 1; omega
  · have := h1 a ha; have := h1 b hb'; show 2 * (-(worF m C (a : Int))).toNat ≤ 2 * (-(worF m C (b : Int))).toNat; omega
  · have := h1 a ha; have := h1 b hb'; show 2 * (-(worF m C (a : Int))).toNat = 2 * (-(worF m C (b : Int))).toNat ↔ _; omega
  · have := h1 y hy; show 2 * (-(worF m C (y : Int))).toNat ≤ _; omega
end Go.Proofs.YtkhclcdmehjfkaaGreat
