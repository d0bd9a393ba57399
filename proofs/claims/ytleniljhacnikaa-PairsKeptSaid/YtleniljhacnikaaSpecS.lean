/-
  The matrix of a sum of profiles is the sum of the matrices. No program is named here.
-/
import Derived.Test.YtleniljhacnikaaSpecR
import Derived.Test.YtleniljhacnikaaSpecQ
namespace Go.Proofs.Ytleniljhacnikaa

def ofT (k : Int) (l : List Row) (x y : Nat) : Int := (l.map fun r => if prefersS k r.1 x y = true then r.2 else 0).sum
theorem ofS_all (k : Int) (l : List Row) (x y : Nat) : ofS k l l.length x y = ofT k l x y := by unfold ofS ofT; rw [List.take_length]
theorem ofT_putS (k : Int) (l : List Row) (m : List Int) (y : Int) (a b : Nat) : ofT k (putS l m y) a b = ofT k l a b + if prefersS k m a b = true then y else 0 := by
  induction l with
  | nil => simp [putS, ofT]
  | cons r s ih =>
    unfold putS
    unfold ofT at *
    split
    · simp only [List.map_cons, List.sum_cons, ih]; omega
    · split
      · rename_i e
        subst e
        simp only [List.map_cons, List.sum_cons]
        split <;> omega
      · simp only [List.map_cons, List.sum_cons]; omega
theorem ofT_sumRows (k : Int) (l l' : List Row) (a b : Nat) : ofT k (sumRows l l') a b = ofT k l a b + ofT k l' a b := by
  unfold sumRows
  induction l' generalizing l with
  | nil => simp [ofT]
  | cons r s ih =>
    rw [List.foldl_cons, ih, ofT_putS]
    have : ofT k (r :: s) a b = (if prefersS k r.1 a b = true then r.2 else 0) + ofT k s a b := by simp [ofT]
    omega
theorem ofR_eq {c k : Int} {l : List Row} (h : checkS c k l = 0) (x y : Nat) : ofR c k l x y = if (x : Int) < c ∧ (y : Int) < c then ofT k l x y else 0 := by
  have := (check_iff.1 h).2.1
  unfold ofR
  rw [if_pos h]
  unfold ofM
  by_cases e : (x : Int) < c ∧ (y : Int) < c
  · rw [if_pos e, if_pos (by omega), ofS_all]
  · rw [if_neg e, if_neg (by omega)]
theorem ofR_sum {c k : Int} {l l' : List Row} (h : checkS c k l = 0) (h' : checkS c k l' = 0) (hs : checkS c k (sumRows l l') = 0) (x y : Nat) : sumA (ofR c k l) (ofR c k l') x y = ofR c k (sumRows l l') x y := by
  unfold sumA
  rw [ofR_eq h, ofR_eq h', ofR_eq hs, ofT_sumRows]
  split <;> omega
theorem rightS_congr {m m' : M} {c : Int} (e : ∀ x y, m x y = m' x y) : rightS m c = rightS m' c := by
  have : m = m' := funext fun x => funext fun y => e x y
  rw [this]
theorem sum_both {c k : Int} {l l' : List Row} (h : checkS c k l = 0) (h' : checkS c k l' = 0) (hs : checkS c k (sumRows l l') = 0) :
    sumErr (ofR c k l) (ofR c k l') = 0 ∧ ∀ x y, sumM (ofR c k l) (ofR c k l') x y = ofR c k (sumRows l l') x y := by
  have hc := (check_iff.1 h).2.2.1
  have h1 : sumErr (ofR c k l) (ofR c k l') = 0 := by
    unfold sumErr
    rw [if_pos ⟨ofR_right h hc (by omega), ofR_right h' hc (by omega)⟩, rightS_congr (ofR_sum h h' hs), if_pos (ofR_right hs hc (by omega))]
  exact ⟨h1, fun x y => by unfold sumM; rw [if_pos h1]; exact ofR_sum h h' hs x y⟩
theorem sum_other {c k : Int} {l l' : List Row} (h : checkS c k l = 0) (h' : checkS c k l' = 0) (hs : checkS c k (sumRows l l') = 0) :
    sumErr (ofR c k l') (ofR c k l) = 0 ∧ ∀ x y, sumM (ofR c k l') (ofR c k l) x y = ofR c k (sumRows l l') x y := by
  have hc := (check_iff.1 h).2.2.1
  have e : ∀ x y, sumA (ofR c k l') (ofR c k l) x y = ofR c k (sumRows l l') x y := fun x y => by rw [← ofR_sum h h' hs x y]; unfold sumA; omega
  have h1 : sumErr (ofR c k l') (ofR c k l) = 0 := by
    unfold sumErr
    rw [if_pos ⟨ofR_right h' hc (by omega), ofR_right h hc (by omega)⟩, rightS_congr e, if_pos (ofR_right hs hc (by omega))]
  exact ⟨h1, fun x y => by unfold sumM; rw [if_pos h1]; exact e x y⟩
/-- What a sum without an error is. -/
theorem sumP_ok {c k : Int} {l : List Row} {c' k' : Int} {l' : List Row} (h : (sumP c k l c' k' l').err = 0) :
    checkS c k l = 0 ∧ checkS c' k' l' = 0 ∧ k = k' ∧ c = c' ∧ checkS c k (sumRows l l') = 0 ∧ sumP c k l c' k' l' = ⟨0, c, k, sumRows l l'⟩ := by
  unfold sumP at h ⊢
  split at h
  · rename_i hb
    obtain ⟨h1, h2, h3, h4⟩ := both_ok hb
    unfold wholeP at h ⊢
    split at h
    · rename_i hw
      exact ⟨h1, h2, h3, h4, hw, by rw [if_pos hb, if_pos hw]⟩
    · rename_i hw; exact absurd h hw
  · rename_i hb; exact absurd h hb
end Go.Proofs.Ytleniljhacnikaa
