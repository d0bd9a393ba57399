/-
  Seats for lists, plain: all votes times a number. No program is named here.
-/
import Derived.Test.YtiebfalodelclaaGreatSpecLw
namespace Go.Proofs.YtiebfalodelclaaGreat

structure Scaled (had had' : List Int) (f : Int) : Prop where
  f0 : 0 < f
  at_ : ∀ x, getI had' x = f * getI had x
  sum : had'.sum = f * had.sum
theorem leD_scale {had had' : List Int} {f : Int} (h : Scaled had had' f) (r : Nat) (el : List Int) : leD had' r el = leD had r el := by
  funext y x
  unfold leD
  rw [h.at_, h.at_, Int.mul_assoc, Int.mul_assoc, decide_eq_decide]
  exact ⟨fun hh => Int.le_of_mul_le_mul_left hh h.f0, fun hh => Int.mul_le_mul_of_nonneg_left hh (by have := h.f0; omega)⟩
theorem divS_scale {had had' : List Int} {f : Int} (h : Scaled had had' f) (r C : Nat) (lot : List Int) : ∀ n, divS had' r C lot n = divS had r C lot n
  | 0 => rfl
  | n + 1 => by
    have ih := divS_scale h r C lot n
    unfold divS topD
    rw [ih, leD_scale h]
theorem flr_scale {had had' : List Int} {f : Int} (h : Scaled had had' f) (n : Nat) : flrS had' n = flrS had n := by
  funext x
  unfold flrS
  rw [h.at_, h.sum]
  have h0 := h.f0
  by_cases hs : had.sum ≤ 0
  · have : f * had.sum ≤ 0 := Int.mul_nonpos_of_nonneg_of_nonpos (by omega) hs
    rw [if_pos hs, if_pos this]
  · have : 0 < f * had.sum := Int.mul_pos h0 (by omega)
    rw [if_neg hs, if_neg (by omega), Int.mul_assoc, Int.mul_ediv_mul_of_pos _ _ h0]
theorem rest_scale {had had' : List Int} {f : Int} (h : Scaled had had' f) (n : Nat) (x : Int) : restS had' n x = f * restS had n x := by
  unfold restS
  rw [h.at_, h.sum]
  have h0 := h.f0
  by_cases hs : had.sum ≤ 0
  · have : f * had.sum ≤ 0 := Int.mul_nonpos_of_nonneg_of_nonpos (by omega) hs
    rw [if_pos hs, if_pos this, Int.mul_zero]
  · have : 0 < f * had.sum := Int.mul_pos h0 (by omega)
    rw [if_neg hs, if_neg (by omega), Int.mul_assoc, Int.mul_emod_mul_of_pos _ _ h0]
theorem best_scale {g g' : Int → Int} {f : Int} (hf : 0 < f) (hg : ∀ x, g' x = f * g x) (l : List Int) : bestS g' l = bestS g l := by
  unfold bestS
  refine List.filter_congr fun x _ => ?_
  congr 1
  funext k
  rw [hg, hg, decide_eq_decide]
  exact ⟨fun hh => Int.le_of_mul_le_mul_left hh hf, fun hh => Int.mul_le_mul_of_nonneg_left hh (by omega)⟩
theorem more_scale {g g' : Int → Int} {f : Int} (hf : 0 < f) (hg : ∀ x, g' x = f * g x) (C : Nat) (lot : List Int) : ∀ (k : Nat) (eg : List Int) (s : List Int × List Row), moreS g' C lot k eg s = moreS g C lot k eg s
  | 0, _, _ => rfl
  | k + 1, eg, s => by
    unfold moreS
    simp only [best_scale hf hg]
    exact more_scale hf hg C lot k _ _
theorem remS_scale {had had' : List Int} {f : Int} (h : Scaled had had' f) (C : Nat) (lot : List Int) (n : Nat) : remS had' C lot n = remS had C lot n := by
  unfold remS baseS
  rw [flr_scale h, more_scale h.f0 (rest_scale h n)]
theorem seatS_scale {had had' : List Int} {f : Int} (h : Scaled had had' f) (rule : Int) (C : Nat) (lot : List Int) (n : Nat) : seatS rule had' C lot n = seatS rule had C lot n := by
  unfold seatS
  rw [divS_scale h, divS_scale h, remS_scale h]
theorem wsum_scale (φ : List Int → Bool) (f : Int) (l : List Row) : wsum φ (l.map fun r => (r.1, r.2 * f)) = f * wsum φ l := by
  induction l with
  | nil => simp [wsum]
  | cons a r ih =>
    rw [List.map_cons, wsum_cons, wsum_cons, ih, Int.mul_add]
    simp only
    split
    · rw [Int.mul_comm]
    · simp
theorem sum_votV (l : List Row) (C : Nat) : (votV l C).sum = ((List.range C).map fun i : Nat => votX l (i : Int)).sum := rfl
theorem vot_scale (l : List Row) (C : Nat) {f : Int} (hf : 0 < f) : Scaled (votV l C) (votV (l.map fun r => (r.1, r.2 * f)) C) f := by
  have e : ∀ x, votX (l.map fun r => (r.1, r.2 * f)) x = f * votX l x := fun x => wsum_scale _ f l
  refine ⟨hf, fun x => ?_, ?_⟩
  · unfold getI votV
    rw [List.getD_eq_getElem?_getD, List.getD_eq_getElem?_getD, List.getElem?_map, List.getElem?_map]
    rcases Nat.lt_or_ge x.toNat C with h | h
    · rw [List.getElem?_range h]
      simp only [Option.map_some, Option.getD_some]
      exact e _
    · rw [List.getElem?_eq_none (by simp; omega)]
      simp
  · rw [sum_votV, sum_votV, Int.mul_comm, ← sum_mul]
    congr 1
    refine List.map_congr_left fun i _ => ?_
    rw [e, Int.mul_comm]
end Go.Proofs.YtiebfalodelclaaGreat
