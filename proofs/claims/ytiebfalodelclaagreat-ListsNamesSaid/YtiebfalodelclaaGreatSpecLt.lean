/-
  Divisor methods, plain: who is elected; stability; house monotonicity. No program is named here.
-/
import Derived.Test.YtiebfalodelclaaGreatSpecLs
import Derived.Test.YtiebfalodelclaaGreatSpecNp
namespace Go.Proofs.YtiebfalodelclaaGreat

theorem topD_ne (had : List Int) (r : Nat) {C : Nat} (hC : 1 ≤ C) (el : List Int) : topD had r C el ≠ [] := by
  refine bestR_ne (pre_leD had r el) ?_
  have : (0 : Int) ∈ rangeI C := mem_rangeI.2 ⟨by omega, by omega⟩
  exact List.ne_nil_of_mem this
/-- A lot that names every candidate. -/
def LotAll (lot : List Int) (C : Nat) : Prop := ∀ x, 0 ≤ x → x < (C : Int) → x ∈ lot
theorem topD_rng {had : List Int} {r C : Nat} {el : List Int} {x : Int} (h : x ∈ topD had r C el) : 0 ≤ x ∧ x < C := mem_rangeI.1 (mem_bestR.1 h).1
theorem frst_topD {had : List Int} {r C : Nat} {el lot : List Int} (hC : 1 ≤ C) (hl : LotAll lot C) : frstS lot (topD had r C el) ∈ topD had r C el :=
  frst_mem (topD_ne had r hC el) fun x hx => hl x (topD_rng hx).1 (topD_rng hx).2
theorem divS_rng {had : List Int} {r C : Nat} {lot : List Int} (hC : 1 ≤ C) (hl : LotAll lot C) : ∀ n x, x ∈ (divS had r C lot n).1 → 0 ≤ x ∧ x < (C : Int)
  | 0, x, h => by cases h
  | n + 1, x, h => by
    rcases List.mem_append.1 h with h | h
    · exact divS_rng hC hl n x h
    · rw [List.mem_singleton.1 h]; exact topD_rng (frst_topD hC hl)
/-- More seats: the elder ones first. -/
theorem divS_take (had : List Int) (r C : Nat) (lot : List Int) (n : Nat) : (divS had r C lot (n + 1)).1.take n = (divS had r C lot n).1 := by
  have e : (divS had r C lot (n + 1)).1 = (divS had r C lot n).1 ++ [frstS lot (topD had r C (divS had r C lot n).1)] := rfl
  have := length_divS had r C lot n
  rw [e, List.take_append_of_le_length (by omega), List.take_of_length_le (by omega)]
theorem divS_ties (had : List Int) (r C : Nat) (lot : List Int) (n : Nat) : (divS had r C lot n).2.length ≤ (divS had r C lot (n + 1)).2.length ∧ (divS had r C lot (n + 1)).2.take (divS had r C lot n).2.length = (divS had r C lot n).2 := by
  have e : (divS had r C lot (n + 1)).2 = tiedS (divS had r C lot n).2 (topD had r C (divS had r C lot n).1) (frstS lot (topD had r C (divS had r C lot n).1)) := rfl
  rw [e]
  unfold tiedS
  split
  · simp
  · simp
theorem ties_le (had : List Int) (r C : Nat) (lot : List Int) : ∀ n, (divS had r C lot n).2.length ≤ n
  | 0 => Nat.le_refl _
  | n + 1 => by
    have := ties_le had r C lot n
    have e : (divS had r C lot (n + 1)).2 = tiedS (divS had r C lot n).2 (topD had r C (divS had r C lot n).1) (frstS lot (topD had r C (divS had r C lot n).1)) := rfl
    rw [e]
    unfold tiedS
    split
    · omega
    · simp; omega

/-- Stability: the last quotient of x is at least the next one of y; if equal, x comes first in the lot. -/
def StableD (had : List Int) (r C : Nat) (lot el : List Int) : Prop :=
  ∀ x y, 0 ≤ x → x < (C : Int) → 0 ≤ y → y < (C : Int) → x ≠ y → 0 < el.count x →
    getI had y * dvS r (el.count x - 1) ≤ getI had x * dvS r (el.count y) ∧ (getI had y * dvS r (el.count x - 1) = getI had x * dvS r (el.count y) → frstS lot [x, y] = x)
theorem frst_two {lot A : List Int} {x y : Int} (hf : frstS lot A = x) (hy : y ∈ A) (hx : x ∈ A) (hl : ∀ z ∈ A, z ∈ lot) : frstS lot [x, y] = x := by
  unfold frstS at *
  induction lot with
  | nil => exact absurd (hl x hx) (by simp)
  | cons a t ih =>
    rw [List.find?_cons] at hf ⊢
    by_cases ha : a ∈ A
    · rw [inL_iff.2 ha] at hf
      simp only [Option.getD_some] at hf
      subst hf
      rw [show inL [a, y] a = true by rw [inL_iff]; simp]
      rfl
    · have e : inL A a = false := by rw [Bool.eq_false_iff]; intro h; exact ha (inL_iff.1 h)
      rw [e] at hf
      have hxa : a ≠ x := fun e => ha (e ▸ hx)
      have hya : a ≠ y := fun e => ha (e ▸ hy)
      have e2 : inL [x, y] a = false := by rw [Bool.eq_false_iff]; intro h; have := inL_iff.1 h; simp at this; omega
      rw [e2]
      refine ih hf fun z hz => ?_
      rcases List.mem_cons.1 (hl z hz) with e | e
      · exact absurd (e ▸ hz) ha
      · exact e
theorem count_snoc (el : List Int) (x z : Int) : (el ++ [z]).count x = el.count x + if z = x then 1 else 0 := by
  rw [List.count_append, List.count_singleton]
  by_cases h : z = x <;> simp [h]
theorem divS_stable {had : List Int} {r C : Nat} {lot : List Int} (hC : 1 ≤ C) (hl : LotAll lot C) (hn : ∀ x, 0 ≤ getI had x) : ∀ n, StableD had r C lot (divS had r C lot n).1
  | 0 => by intro x y _ _ _ _ _ h; simp [divS] at h
  | n + 1 => by
    have ih := divS_stable (r := r) hC hl hn n
    intro x y x0 xC y0 yC hxy hc
    have e : (divS had r C lot (n + 1)).1 = (divS had r C lot n).1 ++ [frstS lot (topD had r C (divS had r C lot n).1)] := rfl
    have hm := frst_topD (had := had) (r := r) (el := (divS had r C lot n).1) hC hl
    rw [e, count_snoc] at hc
    rw [e, count_snoc, count_snoc]
    clear e
    generalize hel : (divS had r C lot n).1 = el at *
    generalize hz : frstS lot (topD had r C el) = z at *
    by_cases hzx : z = x
    · subst hzx
      rw [if_pos rfl, if_neg hxy, Nat.add_sub_cancel]
      simp only [Nat.add_zero]
      have hb := (mem_bestR.1 hm).2 y (mem_rangeI.2 ⟨y0, yC⟩)
      unfold leD at hb
      have hb' := of_decide_eq_true hb
      refine ⟨hb', fun heq => ?_⟩
      have hy : y ∈ topD had r C el := mem_bestR.2 ⟨mem_rangeI.2 ⟨y0, yC⟩, fun k hk => by
        have h1 := (mem_bestR.1 hm).2 k hk
        refine (pre_leD had r el).tr _ _ _ h1 ?_
        unfold leD
        exact decide_eq_true (by omega)⟩
      exact frst_two hz hy hm fun k hk => hl k (topD_rng hk).1 (topD_rng hk).2
    · rw [if_neg hzx] at hc ⊢
      simp only [Nat.add_zero] at hc ⊢
      obtain ⟨h1, h2⟩ := ih x y x0 xC y0 yC hxy hc
      by_cases hzy : z = y
      · rw [if_pos hzy]
        have hlt := dvS_mono (r := r) (s := el.count y) (t := el.count y + 1) (by omega)
        have hmul : getI had x * dvS r (el.count y) ≤ getI had x * dvS r (el.count y + 1) := Int.mul_le_mul_of_nonneg_left (by omega) (hn x)
        refine ⟨by omega, fun heq => ?_⟩
        exact h2 (by omega)
      · rw [if_neg hzy]
        simp only [Nat.add_zero]
        exact ⟨h1, h2⟩
end Go.Proofs.YtiebfalodelclaaGreat
