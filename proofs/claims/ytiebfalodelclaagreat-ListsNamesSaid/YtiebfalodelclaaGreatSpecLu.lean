/-
  Divisor methods, plain: quota from below; more votes, not fewer seats. No program is named here.
-/
import Derived.Test.YtiebfalodelclaaGreatSpecLt
namespace Go.Proofs.YtiebfalodelclaaGreat

theorem sum_add (f g : Nat → Int) : ∀ n : Nat, ((List.range n).map fun i => f i + g i).sum = ((List.range n).map f).sum + ((List.range n).map g).sum
  | 0 => rfl
  | n + 1 => by
    have := sum_add f g n
    rw [List.range_succ, List.map_append, List.map_append, List.map_append, List.sum_append, List.sum_append, List.sum_append, this]
    simp
    omega
theorem sum_mul (f : Nat → Int) (c : Int) : ∀ n : Nat, ((List.range n).map fun i => f i * c).sum = ((List.range n).map f).sum * c
  | 0 => by simp
  | n + 1 => by
    have := sum_mul f c n
    rw [List.range_succ, List.map_append, List.map_append, List.sum_append, List.sum_append, this]
    simp [Int.add_mul]
theorem sum_ind {a : Int} : ∀ {n : Nat}, ((List.range n).map fun i : Nat => if a = (i : Int) then (1 : Int) else 0).sum = if 0 ≤ a ∧ a < (n : Int) then 1 else 0
  | 0 => by rw [if_neg (by omega)]; rfl
  | n + 1 => by
    have ih := sum_ind (a := a) (n := n)
    rw [List.range_succ, List.map_append, List.sum_append, ih]
    simp only [List.map_cons, List.map_nil, List.sum_cons, List.sum_nil]
    by_cases h1 : a = (n : Int)
    · rw [if_pos h1, if_neg (by omega), if_pos (by omega)]; rfl
    · rw [if_neg h1]
      by_cases h2 : 0 ≤ a ∧ a < (n : Int)
      · rw [if_pos h2, if_pos (by omega)]; rfl
      · rw [if_neg h2, if_neg (by omega)]; rfl
theorem sum_zero (n : Nat) : ((List.range n).map fun _ : Nat => (0 : Int)).sum = 0 := by
  induction n with
  | zero => rfl
  | succ n ih => rw [List.range_succ, List.map_append, List.sum_append, ih]; rfl
/-- All seats go to parties. -/
theorem sum_count {C : Nat} : ∀ {el : List Int}, (∀ x ∈ el, 0 ≤ x ∧ x < (C : Int)) → ((List.range C).map fun i : Nat => ((el.count (i : Int) : Nat) : Int)).sum = el.length
  | [], _ => by simp only [List.count_nil]; exact sum_zero C
  | a :: r, h => by
    have ih := sum_count (C := C) (el := r) fun x hx => h x (List.mem_cons_of_mem _ hx)
    have ha := h a List.mem_cons_self
    have e : (fun i : Nat => (((a :: r).count (i : Int) : Nat) : Int)) = fun i : Nat => ((r.count (i : Int) : Nat) : Int) + (if a = (i : Int) then (1 : Int) else 0) := by
      funext i
      rw [List.count_cons]
      by_cases hai : a = (i : Int)
      · simp [hai]
      · simp [hai]
    rw [e, sum_add, ih, sum_ind, if_pos ha]
    simp
/-- Votes: as many as parties, none negative. -/
structure HadOK (had : List Int) (C : Nat) : Prop where
  len : had.length = C
  nn : ∀ x, 0 ≤ getI had x
theorem HadOK.sum {had : List Int} {C : Nat} (h : HadOK had C) : had.sum = ((List.range C).map fun i : Nat => getI had (i : Int)).sum := by
  have e : had = (List.range C).map fun i : Nat => getI had (i : Int) := by
    refine List.ext_getElem (by simp [h.len]) fun i h1 h2 => ?_
    rw [List.getElem_map, List.getElem_range]
    unfold getI
    simp [h1]
  exact congrArg List.sum e
/-- D'Hondt gives no less than the floor of the share. -/
theorem dhondt_floor {had : List Int} {C : Nat} {lot : List Int} (hC : 1 ≤ C) (hl : LotAll lot C) (hh : HadOK had C) (hT : 0 < had.sum) (n : Nat) {x : Int} (x0 : 0 ≤ x) (xC : x < C) :
    getI had x * n / had.sum ≤ ((divS had 0 C lot n).1.count x : Nat) := by
  refine Classical.byContradiction fun hlt => ?_
  have hst := divS_stable (r := 0) hC hl hh.nn n
  have hlen := length_divS had 0 C lot n
  have hrng := divS_rng (had := had) (r := 0) hC hl n
  generalize (divS had 0 C lot n).1 = el at *
  generalize hTT : had.sum = T at *
  have h1 : ((el.count x : Nat) : Int) + 1 ≤ getI had x * n / T := by omega
  have h2 : (((el.count x : Nat) : Int) + 1) * T ≤ getI had x * n := by
    have := Int.mul_le_mul_of_nonneg_right h1 (show (0 : Int) ≤ T by omega)
    have h3 := Int.ediv_mul_le (getI had x * n) (show T ≠ 0 by omega)
    omega
  have hs1 : ((List.range C).map fun i : Nat => ((el.count (i : Int) : Nat) : Int) * T).sum = n * T := by rw [sum_mul, sum_count hrng, hlen]
  have hs2 : ((List.range C).map fun i : Nat => getI had (i : Int) * n).sum = T * n := by rw [sum_mul, ← hh.sum, hTT]
  obtain ⟨y, hy, hgt⟩ : ∃ y, y < C ∧ getI had (y : Int) * n < ((el.count (y : Int) : Nat) : Int) * T := by
    refine Classical.byContradiction fun hn => ?_
    have hle : ∀ a, a < C → ((el.count (a : Int) : Nat) : Int) * T ≤ getI had (a : Int) * n := fun a ha => by
      have : ¬ (getI had (a : Int) * n < ((el.count (a : Int) : Nat) : Int) * T) := fun h => hn ⟨a, ha, h⟩
      omega
    have hx : ((el.count ((x.toNat : Nat) : Int) : Nat) : Int) * T < getI had ((x.toNat : Nat) : Int) * n := by
      rw [show ((x.toNat : Nat) : Int) = x by omega]
      rw [Int.add_mul] at h2
      omega
    have := sum_lt (f := fun i : Nat => ((el.count (i : Int) : Nat) : Int) * T) (g := fun i : Nat => getI had (i : Int) * n) (n := C) (k := x.toNat) hle (by omega) hx
    rw [hs1, hs2, Int.mul_comm] at this
    omega
  have hyx : (y : Int) ≠ x := by
    intro e
    rw [e] at hgt
    rw [Int.add_mul] at h2
    omega
  have hny := hh.nn (y : Int)
  have hy0 : 0 < el.count (y : Int) := by
    rcases Nat.eq_zero_or_pos (el.count (y : Int)) with h | h
    · rw [h] at hgt
      have : 0 ≤ getI had (y : Int) * n := Int.mul_nonneg hny (by omega)
      simp at hgt
      omega
    · exact h
  have hs := (hst (y : Int) x (by omega) (by omega) x0 xC hyx hy0).1
  unfold dvS at hs
  rw [if_pos rfl, if_pos rfl, show (((el.count (y : Int) - 1 : Nat) : Int) + 1) = ((el.count (y : Int) : Nat) : Int) by omega] at hs
  generalize hgy : ((el.count (y : Int) : Nat) : Int) = gy at *
  generalize hgx : ((el.count x : Nat) : Int) = gx at *
  generalize getI had x = vx at *
  generalize getI had (y : Int) = vy at *
  have hgy0 : 0 < gy := by omega
  have hgx0 : 0 ≤ gx := by omega
  -- vx * gy <= vy * (gx + 1), (gx + 1) * T <= vx * n, vy * n < gy * T
  have k1 : vx * gy * n ≤ vy * (gx + 1) * n := Int.mul_le_mul_of_nonneg_right hs (by omega)
  have k2 : (gx + 1) * T * gy ≤ vx * n * gy := Int.mul_le_mul_of_nonneg_right h2 (by omega)
  have k3 : vy * n * (gx + 1) < gy * T * (gx + 1) := Int.mul_lt_mul_of_pos_right hgt (by omega)
  have e1 : vx * gy * n = vx * n * gy := by rw [Int.mul_assoc, Int.mul_comm gy, ← Int.mul_assoc]
  have e2 : vy * (gx + 1) * n = vy * n * (gx + 1) := by rw [Int.mul_assoc, Int.mul_comm (gx + 1), ← Int.mul_assoc]
  have e3 : (gx + 1) * T * gy = gy * T * (gx + 1) := by rw [Int.mul_comm _ gy, Int.mul_comm (gx + 1), ← Int.mul_assoc]
  omega

/-- More votes, not fewer seats; as many votes, one seat more at most. -/
theorem div_larger {had : List Int} {r C : Nat} {lot : List Int} (hC : 1 ≤ C) (hl : LotAll lot C) (hh : HadOK had C) (n : Nat) {x y : Int} (x0 : 0 ≤ x) (xC : x < C) (y0 : 0 ≤ y) (yC : y < C) :
    (getI had y < getI had x → (divS had r C lot n).1.count y ≤ (divS had r C lot n).1.count x) ∧
    ((∃ z, 0 ≤ z ∧ z < (C : Int) ∧ 0 < getI had z) → getI had x = getI had y → (divS had r C lot n).1.count x ≤ (divS had r C lot n).1.count y + 1) := by
  have hst := divS_stable (r := r) hC hl hh.nn n
  generalize (divS had r C lot n).1 = el at *
  constructor
  · intro hv
    refine Classical.byContradiction fun hgt => ?_
    have hne : y ≠ x := by intro e; subst e; omega
    have hs := (hst y x y0 yC x0 xC hne (by omega)).1
    have hd := dvS_le (r := r) (s := el.count x) (t := el.count y - 1) (by omega)
    have hp := dvS_pos r (el.count x)
    have h1 : getI had x * dvS r (el.count x) ≤ getI had x * dvS r (el.count y - 1) := Int.mul_le_mul_of_nonneg_left hd (hh.nn x)
    have h2 : getI had y * dvS r (el.count x) < getI had x * dvS r (el.count x) := Int.mul_lt_mul_of_pos_right hv hp
    omega
  · rintro ⟨z, z0, zC, hz⟩ hv
    refine Classical.byContradiction fun hgt => ?_
    have hne : x ≠ y := by intro e; subst e; omega
    have hs := (hst x y x0 xC y0 yC hne (by omega)).1
    have hd := dvS_mono (r := r) (s := el.count y) (t := el.count x - 1) (by omega)
    rcases Int.lt_or_eq_of_le (hh.nn x) with h0 | h0
    · have : getI had x * dvS r (el.count y) < getI had x * dvS r (el.count x - 1) := Int.mul_lt_mul_of_pos_left hd h0
      rw [← hv] at hs
      omega
    · have hzx : x ≠ z := by intro e; subst e; omega
      have hs2 := (hst x z x0 xC z0 zC hzx (by omega)).1
      rw [← h0, Int.zero_mul] at hs2
      have : 0 < getI had z * dvS r (el.count x - 1) := Int.mul_pos hz (dvS_pos r _)
      omega
end Go.Proofs.YtiebfalodelclaaGreat
