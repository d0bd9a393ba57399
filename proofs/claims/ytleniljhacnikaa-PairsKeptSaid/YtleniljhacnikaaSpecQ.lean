/-
  The matrix of a valid profile: what adds up. No program is named here.
-/
import Derived.Test.YtleniljhacnikaaSpec10e
namespace Go.Proofs.Ytleniljhacnikaa

theorem prefers_asym {k : Int} {ms : List Int} {x y : Int} (h : prefersS k ms x y = true) : prefersS k ms y x = false := by
  unfold prefersS at *
  by_cases h0 : x < 0 ∨ y < 0
  · rw [if_pos h0] at h; cases h
  rw [if_neg h0] at h
  rw [if_neg (by omega)]
  by_cases h1 : k = 1
  · rw [if_pos h1] at h ⊢; simp at h ⊢; omega
  rw [if_neg h1] at h ⊢
  by_cases h2 : k = 2
  · rw [if_pos h2] at h ⊢; simp at h ⊢; omega
  rw [if_neg h2] at h ⊢
  by_cases h3 : k = 3
  · rw [if_pos h3] at h ⊢; simp at h ⊢; omega
  · rw [if_neg h3] at h; cases h
theorem prefers_self (k : Int) (ms : List Int) (x : Int) : prefersS k ms x x = false := by
  cases h : prefersS k ms x x with
  | false => rfl
  | true => have := prefers_asym h; rw [h] at this; exact this

theorem placeS_inj {xs : List Int} {x y k : Int} (hk : 0 ≤ k) (hx : x ∈ xs) (h : placeS xs x k = placeS xs y k) : x = y := by
  induction xs generalizing k with
  | nil => simp at hx
  | cons a r ih =>
    unfold placeS at h
    by_cases e1 : a = x
    · rw [if_pos e1] at h
      by_cases e2 : a = y
      · rw [← e1, e2]
      · rw [if_neg e2] at h
        have hy : y ∈ r := by
          have := mt (placeS_neg (xs := r) (x := y) (k := k + 1) (by omega)).2
          by_cases hh : y ∈ r
          · exact hh
          · have := (placeS_neg (xs := r) (x := y) (k := k + 1) (by omega)).2 hh; omega
        have : ∀ (l : List Int) (j : Int), y ∈ l → j ≤ placeS l y j := by
          intro l
          induction l with
          | nil => intro j h; simp at h
          | cons b s ihs =>
            intro j hm
            unfold placeS
            split
            · omega
            · rename_i hne
              have := ihs (j + 1) ((List.mem_cons.1 hm).resolve_left fun e => hne e.symm)
              omega
        have := this r (k + 1) hy
        omega
    · rw [if_neg e1] at h
      have hxr : x ∈ r := (List.mem_cons.1 hx).resolve_left fun e => e1 e.symm
      by_cases e2 : a = y
      · rw [if_pos e2] at h
        have : ∀ (l : List Int) (j : Int), x ∈ l → j ≤ placeS l x j := by
          intro l
          induction l with
          | nil => intro j h; simp at h
          | cons b s ihs =>
            intro j hm
            unfold placeS
            split
            · omega
            · rename_i hne
              have := ihs (j + 1) ((List.mem_cons.1 hm).resolve_left fun e => hne e.symm)
              omega
        have := this r (k + 1) hxr
        omega
      · rw [if_neg e2] at h
        exact ih (by omega) hxr h

theorem fine_rank {k : Int} {ms : List Int} {c : Int} (h : bcheckS k ms c = 0) (hk : k = 1) : ms.Nodup ∧ ∀ x ∈ ms, 0 ≤ x ∧ x < c := by
  unfold bcheckS at h
  split at h
  · cases h
  split at h
  · rename_i hf
    subst hk
    simp only [fineS, if_neg (show ¬ (1 : Int) = 3 by omega), if_neg (show ¬ (1 : Int) = 2 by omega), if_true, Bool.and_eq_true, List.all_eq_true] at hf
    exact ⟨of_decide_eq_true hf.2, fun x hx => inR_iff.1 (hf.1 x hx)⟩
  · cases h

/-- A ranking of all candidates but one at most prefers one of two. -/
theorem prefers_full {ms : List Int} {c x y : Int} (hn : ms.Nodup) (hb : ∀ z ∈ ms, 0 ≤ z ∧ z < c) (hl : c - 1 ≤ ms.length) (hx : 0 ≤ x ∧ x < c) (hy : 0 ≤ y ∧ y < c) (hxy : x ≠ y) :
    prefersS 1 ms x y = true ∨ prefersS 1 ms y x = true := by
  have hmem : x ∈ ms ∨ y ∈ ms := by
    by_cases h1 : x ∈ ms
    · exact .inl h1
    by_cases h2 : y ∈ ms
    · exact .inr h2
    exfalso
    have hnd : (x :: y :: ms).Nodup := by
      rw [List.nodup_cons, List.nodup_cons]
      exact ⟨by simp [hxy, h1], h2, hn⟩
    have hs : (x :: y :: ms) ⊆ rangeI c.toNat := by
      intro z hz
      rw [mem_rangeI]
      rcases List.mem_cons.1 hz with rfl | hz
      · omega
      rcases List.mem_cons.1 hz with rfl | hz
      · omega
      · have := hb z hz; omega
    have := hnd.length_le_of_subset hs
    rw [length_rangeI] at this
    simp at this
    omega
  unfold prefersS
  rw [if_neg (show ¬ (x < 0 ∨ y < 0) by omega), if_neg (show ¬ (y < 0 ∨ x < 0) by omega), if_pos rfl, if_pos rfl]
  have hne : ∀ {a b : Int}, a ∈ ms → a ≠ b → placeS ms a 0 ≠ placeS ms b 0 := fun ha hab e => hab (placeS_inj (by omega) ha e)
  simp only [Bool.and_eq_true, Bool.or_eq_true, decide_eq_true_eq]
  rcases hmem with h | h
  · have h1 := placeS_nn h
    have h2 := hne h hxy
    by_cases h3 : 0 ≤ placeS ms y 0 <;> omega
  · have h1 := placeS_nn h
    have h2 := hne h (Ne.symm hxy)
    by_cases h3 : 0 ≤ placeS ms x 0 <;> omega

/-- The first i rows rank all candidates but one at most. -/
def fullB (c k : Int) (l : List Row) (i : Nat) : Bool := decide (k = 1) && allN i fun j => decide (c - 1 ≤ ((l.getD j ([], 0)).1.length : Int))

theorem fullB_succ (c k : Int) (l : List Row) (i : Nat) : fullB c k l (i + 1) = (fullB c k l i && decide (c - 1 ≤ ((l.getD i ([], 0)).1.length : Int))) := by
  unfold fullB allN
  rw [List.range_succ, List.all_append]
  simp [Bool.and_assoc]
theorem fullB_zero (c k : Int) (l : List Row) : fullB c k l 0 = decide (k = 1) := by simp [fullB, allN]

theorem of_both {c k : Int} {l : List Row} (h : checkS c k l = 0) (x y : Nat) (hx : (x : Int) < c) (hy : (y : Int) < c) : ∀ i, i ≤ l.length →
    ofS k l i x y + ofS k l i y x ≤ totS (l.take i) ∧ (fullB c k l i = true → x ≠ y → ofS k l i x y + ofS k l i y x = totS (l.take i))
  | 0, _ => by simp [ofS, totS]
  | i + 1, hi => by
    obtain ⟨_, _, _, _, _, _, h7⟩ := check_ok h
    have hl : i < l.length := by omega
    have he := List.getElem?_eq_getElem hl
    have h1 := of_both h x y hx hy i (by omega)
    have hrow := h7 i hl
    have h2 := rowOK_many hrow
    rw [getD_of he] at h2
    rw [ofS_succ he, ofS_succ he, totS_take_succ he, fullB_succ, getD_of he]
    refine ⟨?_, fun hf hxy => ?_⟩
    · by_cases e : prefersS k l[i].1 x y = true
      · rw [if_pos e, if_neg (by rw [prefers_asym e]; simp)]; omega
      · rw [if_neg e]; split <;> omega
    · simp only [Bool.and_eq_true, decide_eq_true_eq] at hf
      have hk : k = 1 := by have := hf.1; unfold fullB at this; simp only [Bool.and_eq_true, decide_eq_true_eq] at this; exact this.1
      have hb : bcheckS k l[i].1 c = 0 := by
        have := hrow
        simp only [rowOK, Bool.and_eq_true, decide_eq_true_eq, getD_of he] at this
        exact this.2
      obtain ⟨f1, f2⟩ := fine_rank hb hk
      have h3 := h1.2 hf.1 hxy
      have h4 := prefers_full f1 f2 hf.2 (x := x) (y := y) (by omega) (by omega) (by omega)
      subst hk
      rcases h4 with e | e
      · rw [if_pos e, if_neg (by rw [prefers_asym e]; simp)]; omega
      · rw [if_neg (by rw [prefers_asym e]; simp), if_pos e]; omega
theorem of_self {c k : Int} {l : List Row} (x : Nat) : ∀ i, ofS k l i x x = 0
  | 0 => by simp [ofS]
  | i + 1 => by
    by_cases hl : i < l.length
    · rw [ofS_succ (List.getElem?_eq_getElem hl), of_self (c := c) x i, if_neg (by rw [prefers_self]; simp)]; rfl
    · have := of_self (c := c) (k := k) (l := l) x i
      unfold ofS at *
      rw [List.take_of_length_le (by omega)] at this ⊢
      exact this

/-- The matrix of a valid profile. -/
theorem ofR_both {c k : Int} {l : List Row} (h : checkS c k l = 0) {x y : Nat} (hx : (x : Int) < c) (hy : (y : Int) < c) :
    0 ≤ ofR c k l x y ∧ 0 ≤ ofR c k l y x ∧ ofR c k l x y + ofR c k l y x ≤ totS l ∧ (fullB c k l l.length = true → x ≠ y → ofR c k l x y + ofR c k l y x = totS l) ∧ (x = y → ofR c k l x y + ofR c k l y x = 0) := by
  have h1 := of_both h x y hx hy l.length (Nat.le_refl _)
  rw [List.take_length] at h1
  have e : ∀ a b : Nat, (a : Int) < c → (b : Int) < c → ofR c k l a b = ofS k l l.length a b := fun a b ha hb => by
    unfold ofR ofM; rw [if_pos h, if_pos (by omega)]
  have h2 := ofM_bd h c.toNat (Nat.le_refl l.length)
  have e2 : ofR c k l = ofM k l c.toNat l.length := by unfold ofR; rw [if_pos h]
  refine ⟨by rw [e2]; exact (h2 x y).1, by rw [e2]; exact (h2 y x).1, by rw [e x y hx hy, e y x hy hx]; exact h1.1, fun hf hxy => by rw [e x y hx hy, e y x hy hx]; exact h1.2 hf hxy, fun hxy => ?_⟩
  subst hxy
  rw [e x x hx hx, of_self (c := c)]; rfl
theorem ofR_right {c k : Int} {l : List Row} (h : checkS c k l = 0) {c' : Int} (h1 : c ≤ c') (h2 : c' ≤ 10) : rightS (ofR c k l) c' = true := by
  obtain ⟨_, c1, c2, _, _, h6, _⟩ := check_ok h
  rw [rightS_iff]
  refine ⟨by omega, by omega, fun x y hx hy => ?_⟩
  have e2 : ofR c k l = ofM k l c.toNat l.length := by unfold ofR; rw [if_pos h]
  have hz : ∀ a b : Nat, ¬ ((a : Int) < c ∧ (b : Int) < c) → ofR c k l a b = 0 := fun a b hab => by
    rw [e2]; unfold ofM; rw [if_neg (by omega)]
  by_cases hin : (x : Int) < c ∧ (y : Int) < c
  · have h3 := ofR_both h hin.1 hin.2
    refine ⟨h3.1, by omega, fun ho => ?_⟩
    unfold offP at ho
    have hxy : x = y := by omega
    have := h3.2.2.2.2 hxy
    have := h3.1
    have := h3.2.1
    omega
  · rw [hz x y hin, hz y x (by omega)]
    exact ⟨by omega, by omega, fun _ => rfl⟩
theorem ofR_margin {c k : Int} {l : List Row} (h : checkS c k l = 0) {x y : Nat} (hx : (x : Int) < c) (hy : (y : Int) < c) : marginS (ofR c k l) x y = ofR c k l x y - ofR c k l y x := by
  obtain ⟨_, c1, c2, _, _, h6, _⟩ := check_ok h
  unfold marginS
  rw [if_pos ⟨inR_iff.2 (by omega), inR_iff.2 (by omega), ofR_right h (by omega) (by omega)⟩, Int.toNat_natCast, Int.toNat_natCast]
end Go.Proofs.Ytleniljhacnikaa
