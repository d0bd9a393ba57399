/-
  Votes for lists, plain: row by row; what they sum to. No program is named here.
-/
import Derived.Test.YtiebfalodelclaaGreatSpecLx
namespace Go.Proofs.YtiebfalodelclaaGreat

structure MarkOK (l : List Row) (C : Nat) : Prop where
  c1 : 1 ≤ C
  c10 : C ≤ 10
  asc : Asc l
  pos : Pos l
  len : l.length ≤ 64
  tot : totS l ≤ 1000000
  one : ∀ r ∈ l, ∀ x, r.1 = [x] → 0 ≤ x ∧ x < (C : Int)
theorem markOK_of {c : Int} {l : List Row} (h : checkS c 2 l = 0) : MarkOK l c.toNat := by
  obtain ⟨h1, h2, h3, _, _, h6, h7, h8, h9⟩ := check_iff.1 h
  refine ⟨by omega, by omega, h7, h8, h1, h6, fun r hr x hx => ?_⟩
  have hb := h9 r hr
  unfold bcheckS at hb
  rw [if_neg (by omega)] at hb
  have hf : fineS 2 r.1 c = true := by
    cases hf : fineS 2 r.1 c with
    | true => rfl
    | false => rw [hf] at hb; simp at hb
  unfold fineS at hf
  rw [if_neg (by decide), if_pos rfl, hx] at hf
  simp [inR] at hf
  omega
theorem votX_one {l : List Row} {t : Nat} {x y : Int} (hat : l[t]? = some ([x], y)) (z : Int) : votX (l.take (t + 1)) z = votX (l.take t) z + if x = z then y else 0 := by
  unfold votX
  rw [wsum_take_succ _ hat]
  congr 1
  by_cases h : x = z
  · rw [if_pos h, if_pos (by simp [h])]
  · rw [if_neg h, if_neg (by simp [h])]
theorem votX_other {l : List Row} {t : Nat} {ms : List Int} {y : Int} (hat : l[t]? = some (ms, y)) (hm : ms.length ≠ 1) (z : Int) : votX (l.take (t + 1)) z = votX (l.take t) z := by
  unfold votX
  rw [wsum_take_succ _ hat, if_neg (by simp; intro e; rw [e] at hm; exact hm rfl), Int.add_zero]
theorem get_votV (l : List Row) {C i : Nat} (h : i < C) : (votV l C)[i]? = some (votX l (i : Int)) := by
  unfold votV
  rw [List.getElem?_map, List.getElem?_range h]
  rfl
theorem votV_hit {l : List Row} {t X C : Nat} {y : Int} (hat : l[t]? = some ([(X : Int)], y)) : votV (l.take (t + 1)) C = (votV (l.take t) C).set X (votX (l.take t) X + y) := by
  refine List.ext_getElem? fun i => ?_
  by_cases hi : i < C
  · rw [get_votV _ hi, votX_one hat]
    by_cases e : i = X
    · subst e
      rw [List.getElem?_set_self (by rw [length_votV]; exact hi), if_pos rfl]
    · rw [List.getElem?_set_ne (Ne.symm e), get_votV _ hi, if_neg (by omega), Int.add_zero]
  · rw [List.getElem?_eq_none (by rw [length_votV]; omega), List.getElem?_eq_none (by rw [List.length_set, length_votV]; omega)]
theorem votV_miss {l : List Row} {t C : Nat} {ms : List Int} {y : Int} (hat : l[t]? = some (ms, y)) (hm : ms.length ≠ 1) : votV (l.take (t + 1)) C = votV (l.take t) C := by
  unfold votV
  exact List.map_congr_left fun i _ => votX_other hat hm _
theorem losV_hit {l : List Row} {t : Nat} {x y : Int} (hat : l[t]? = some ([x], y)) : losV (l.take (t + 1)) = losV (l.take t) := by
  unfold losV
  rw [wsum_take_succ _ hat, if_neg (by simp), Int.add_zero]
theorem losV_miss {l : List Row} {t : Nat} {ms : List Int} {y : Int} (hat : l[t]? = some (ms, y)) (hm : ms.length ≠ 1) : losV (l.take (t + 1)) = losV (l.take t) + y := by
  unfold losV
  rw [wsum_take_succ _ hat, if_pos (by simpa using hm)]
/-- All stays within a million. -/
theorem vot_room {l : List Row} {C : Nat} (h : MarkOK l C) (t : Nat) (z : Int) : 0 ≤ votX (l.take t) z ∧ votX (l.take t) z ≤ 1000000 ∧ 0 ≤ losV (l.take t) ∧ losV (l.take t) ≤ 1000000 := by
  have hp := pos_take h.pos t
  have h1 := wsum_le_tot (φ := fun ms => decide (ms = [z])) hp
  have h2 := wsum_le_tot (φ := fun ms => decide (ms.length ≠ 1)) hp
  have h3 : totS (l.take t) ≤ totS l := by
    have e := totS_mono (l := l) (fun i hi => by
      have := h.pos (l[i]) (List.getElem_mem hi)
      rwa [show l.getD i ([], 0) = l[i] by simp [List.getD, hi]]) (a := min t l.length) (b := l.length) (by omega) (Nat.le_refl _)
    rw [List.take_length] at e
    have e2 : l.take (min t l.length) = l.take t := by
      rcases Nat.le_total t l.length with h | h
      · rw [Nat.min_eq_left h]
      · rw [Nat.min_eq_right h, List.take_of_length_le h, List.take_of_length_le (Nat.le_refl _)]
    rwa [e2] at e
  have ht := h.tot
  exact ⟨wsum_nn hp, by unfold votX; omega, wsum_nn hp, by unfold losV; omega⟩
theorem hadOK_vot {l : List Row} (C : Nat) (h : Pos l) : HadOK (votV l C) C := by
  refine ⟨length_votV l C, fun x => ?_⟩
  unfold getI votV
  rw [List.getD_eq_getElem?_getD, List.getElem?_map]
  rcases Nat.lt_or_ge x.toNat C with h1 | h1
  · rw [List.getElem?_range h1]
    simp only [Option.map_some, Option.getD_some]
    exact wsum_nn h
  · rw [List.getElem?_eq_none (by simp; omega)]
    exact Int.le_refl _
theorem cnt_vot {l : List Row} (h : Asc l) (x : Int) : cntR l [x] = votX l x := cntR_wsum h [x]
/-- Every ballot is a vote or invalid. -/
theorem vot_all {C : Nat} : ∀ {l : List Row}, (∀ r ∈ l, ∀ x, r.1 = [x] → 0 ≤ x ∧ x < (C : Int)) → (votV l C).sum + losV l = totS l
  | [], _ => by
    have : (votV [] C).sum = 0 := by unfold votV votX; simp only [wsum_nil]; exact sum_zero C
    rw [this]; rfl
  | a :: r, h => by
    have ih := vot_all (C := C) (l := r) fun x hx => h x (List.mem_cons_of_mem _ hx)
    have e3 : totS (a :: r) = a.2 + totS r := by simp [totS]
    have e2 : losV (a :: r) = (if a.1.length ≠ 1 then a.2 else 0) + losV r := by
      unfold losV; rw [wsum_cons]; congr 1
      by_cases hl : a.1.length = 1 <;> simp [hl]
    have e1 : (votV (a :: r) C).sum = (if a.1.length ≠ 1 then 0 else a.2) + (votV r C).sum := by
      by_cases hl : a.1.length = 1
      · obtain ⟨x, hx⟩ : ∃ x, a.1 = [x] := List.length_eq_one_iff.1 hl
        have hr := h a List.mem_cons_self x hx
        rw [if_neg (by omega), sum_votV, sum_votV]
        have : (fun i : Nat => votX (a :: r) (i : Int)) = fun i : Nat => (if x = (i : Int) then (1 : Int) else 0) * a.2 + votX r (i : Int) := by
          funext i
          unfold votX
          rw [wsum_cons, hx]
          congr 1
          by_cases hi : x = (i : Int)
          · rw [if_pos (by simp [hi]), if_pos hi, Int.one_mul]
          · rw [if_neg (by simp [hi]), if_neg hi, Int.zero_mul]
        rw [this, sum_add, sum_mul, sum_ind, if_pos hr, Int.one_mul]
      · rw [if_pos hl, Int.zero_add, sum_votV, sum_votV]
        congr 1
        refine List.map_congr_left fun i _ => ?_
        unfold votX
        rw [wsum_cons, if_neg (by simp; intro e; rw [e] at hl; exact hl rfl), Int.zero_add]
    rw [e1, e2, e3]
    split <;> omega
end Go.Proofs.YtiebfalodelclaaGreat
