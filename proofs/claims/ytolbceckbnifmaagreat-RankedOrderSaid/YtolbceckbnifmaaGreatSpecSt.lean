/-
  The law CondorcetSmith in plain terms: sets that rule, by their bits.
-/
import Derived.Test.YtolbceckbnifmaaGreatSpecCo
namespace Go.Proofs.YtolbceckbnifmaaGreat
open Go.RowKit Go.Proofs

/-- x beats every y before Y that is not in the set of t. -/
def rowT (m : M) (t x Y : Nat) : Bool := (List.range Y).all fun y => decide (t / 2 ^ y % 2 = 1) || decide (m y x < m x y)
theorem rowT_zero (m : M) (t x : Nat) : rowT m t x 0 = true := rfl
theorem rowT_succ (m : M) (t x Y : Nat) : rowT m t x (Y + 1) = (rowT m t x Y && (decide (t / 2 ^ Y % 2 = 1) || decide (m Y x < m x Y))) := by
  unfold rowT; rw [List.range_succ, List.all_append]; simp
/-- Every x before X that is in the set of t beats every y that is not. -/
def rulesT (m : M) (C t X : Nat) : Bool := (List.range X).all fun x => decide (t / 2 ^ x % 2 = 0) || rowT m t x C
theorem rulesT_zero (m : M) (C t : Nat) : rulesT m C t 0 = true := rfl
theorem rulesT_succ (m : M) (C t X : Nat) : rulesT m C t (X + 1) = (rulesT m C t X && (decide (t / 2 ^ X % 2 = 0) || rowT m t X C)) := by
  unfold rulesT; rw [List.range_succ, List.all_append]; simp
theorem rulesT_iff {m : M} {C t : Nat} (h : rulesT m C t C = true) : rulesP m C (bitS C t) := fun x y hx hy hxm hyn => by
  have h1 := List.all_eq_true.1 h x (List.mem_range.2 hx)
  have hxb := (mem_bitS.1 hxm).2
  rw [hxb] at h1
  simp only [Nat.one_ne_zero, decide_false, Bool.false_or] at h1
  have h2 := List.all_eq_true.1 h1 y (List.mem_range.2 hy)
  have hyb : ¬ t / 2 ^ y % 2 = 1 := fun e => hyn (mem_bitS.2 ⟨hy, e⟩)
  simpa [hyb] using h2
theorem bitS_zero (t : Nat) : (bitS 0 t).length = 0 := rfl
theorem bitS_in {X t : Nat} (h : t / 2 ^ X % 2 = 1) : (bitS (X + 1) t).length = (bitS X t).length + 1 := by
  unfold bitS; rw [rangeI_succ, List.filter_append, List.length_append]; simp [h]
theorem bitS_out {X t : Nat} (h : t / 2 ^ X % 2 = 0) : (bitS (X + 1) t).length = (bitS X t).length := by
  unfold bitS; rw [rangeI_succ, List.filter_append, List.length_append]; simp [h]
theorem bitS_le (X t : Nat) : (bitS X t).length ≤ X := by
  have := (bitS_sub X t).length_le; rw [length_rangeI] at this; exact this
theorem smith_few {m : M} {C t : Nat} {S : List Int} (h : Smith m C S) (h1 : 1 ≤ t) (h2 : t < 2 ^ C) (hr : rulesT m C t C = true) : S.length ≤ (bitS C t).length :=
  h.least _ (dom_bits h1 h2 (rulesT_iff hr))
theorem right_ten {m : M} {c : Int} (h : rightS m c = true) : rightS m 10 = true := by
  obtain ⟨h1, h2, h3⟩ := rightS_iff.1 h
  refine rightS_iff.2 ⟨by omega, by omega, fun x y hx hy => ?_⟩
  obtain ⟨a1, a2, a3⟩ := h3 x y hx hy
  exact ⟨a1, a2, fun ho => a3 (by unfold offP at *; omega)⟩
theorem margin_three {m : M} {a b : Nat} (ha : a < 10) (hb : b < 10) (h : rightS m 10 = true) : marginS m a b = m a b - m b a := by
  unfold marginS
  rw [if_pos ⟨inR_iff.2 ⟨by omega, by omega⟩, inR_iff.2 ⟨by omega, by omega⟩, h⟩]
  rfl
theorem range_lt {C : Nat} {S : List Int} (h : S.Sublist (rangeI C)) {j : Nat} {a b : Int} (ha : S[j]? = some a) (hb : S[j + 1]? = some b) : a < b := by
  have hp : S.Pairwise (· < ·) := List.Pairwise.sublist h (by
    unfold rangeI
    rw [List.pairwise_map]
    exact (List.pairwise_lt_range).imp fun h => by omega)
  obtain ⟨h1, rfl⟩ := List.getElem?_eq_some_iff.1 ha
  obtain ⟨h2, rfl⟩ := List.getElem?_eq_some_iff.1 hb
  exact List.pairwise_iff_getElem.1 hp j (j + 1) h1 h2 (by omega)
end Go.Proofs.YtolbceckbnifmaaGreat
