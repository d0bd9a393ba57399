/-
  Sums of profiles in plain terms. No program is named here.
-/
import Derived.Test.YtleniljhacnikaaSpecP
namespace Go.Proofs.Ytleniljhacnikaa

theorem asc_of_step {l : List Row} (h : ∀ (i : Nat) a b, l[i]? = some a → l[i + 1]? = some b → cmpL a.1 b.1 < 0) : Asc l := by
  induction l with
  | nil => exact List.Pairwise.nil
  | cons a r ih =>
    have hr : Asc r := ih fun i x y hx hy => h (i + 1) x y (by simpa using hx) (by simpa using hy)
    refine List.pairwise_cons.2 ⟨fun x hx => ?_, hr⟩
    cases r with
    | nil => simp at hx
    | cons b s =>
      have hab := h 0 a b rfl rfl
      rcases List.mem_cons.1 hx with rfl | hx
      · exact hab
      · exact cmpL_trans hab ((List.pairwise_cons.1 hr).1 x hx)
theorem rowOK_of {c k : Int} {l : List Row} (h : checkS c k l = 0) {i : Nat} (hi : i < l.length) : rowOK c k l i = true := (check_ok h).2.2.2.2.2.2 i hi
theorem asc_check {c k : Int} {l : List Row} (h : checkS c k l = 0) : Asc l := by
  refine asc_of_step fun i a b ha hb => ?_
  have hi := (List.getElem?_eq_some_iff.1 hb).1
  have := rowOK_of h hi
  simp only [rowOK, Bool.and_eq_true, Bool.or_eq_true, decide_eq_true_eq] at this
  rw [show i + 1 - 1 = i by omega, getD_of ha, getD_of hb] at this
  omega
theorem pos_check {c k : Int} {l : List Row} (h : checkS c k l = 0) : Pos l := by
  intro x hx
  obtain ⟨i, hi⟩ := List.getElem?_of_mem hx
  have := rowOK_many (rowOK_of h (List.getElem?_eq_some_iff.1 hi).1)
  rwa [getD_of hi] at this
theorem marks_check {c k : Int} {l : List Row} (h : checkS c k l = 0) {x : Row} (hx : x ∈ l) : bcheckS k x.1 c = 0 := by
  obtain ⟨i, hi⟩ := List.getElem?_of_mem hx
  have := rowOK_of h (List.getElem?_eq_some_iff.1 hi).1
  simp only [rowOK, Bool.and_eq_true, decide_eq_true_eq, getD_of hi] at this
  exact this.2

/-- A valid profile, said plainly. -/
theorem check_iff {c k : Int} {l : List Row} : checkS c k l = 0 ↔ l.length ≤ 64 ∧ 1 ≤ c ∧ c ≤ 10 ∧ 1 ≤ k ∧ k ≤ 3 ∧ totS l ≤ 1000000 ∧ Asc l ∧ Pos l ∧ ∀ x ∈ l, bcheckS k x.1 c = 0 := by
  constructor
  · intro h
    obtain ⟨h1, h2, h3, h4, h5, h6, _⟩ := check_ok h
    exact ⟨h1, h2, h3, h4, h5, h6, asc_check h, pos_check h, fun x hx => marks_check h hx⟩
  · rintro ⟨h1, h2, h3, h4, h5, h6, h7, h8, h9⟩
    have hall : allN l.length (rowOK c k l) = true := allN_true.2 fun i hi => by
      have he := List.getElem?_eq_getElem hi
      have hm := List.getElem_mem hi
      simp only [rowOK, Bool.and_eq_true, Bool.or_eq_true, decide_eq_true_eq, getD_of he]
      refine ⟨⟨?_, h8 _ hm⟩, h9 _ hm⟩
      by_cases e : i = 0
      · exact .inl e
      · right
        have he' := List.getElem?_eq_getElem (show i - 1 < l.length by omega)
        rw [getD_of he']
        exact h7.lt (show i - 1 < i by omega) he' he
    have hne : newErr c k = 0 := by
      by_cases e : newErr c k = 0
      · exact e
      · exact absurd (newErr_bad.1 e) (by omega)
    unfold checkS
    rw [if_neg (by omega), hall, hne, if_neg (by simp), if_neg (by omega)]

theorem pos_putS {l : List Row} (h : Pos l) {m : List Int} {y : Int} (hy : 0 < y) : Pos (putS l m y) := by
  induction l with
  | nil => intro x hx; simp [putS] at hx; subst hx; exact hy
  | cons a r ih =>
    have ha := h a (List.mem_cons_self ..)
    have hr : Pos r := fun x hx => h x (List.mem_cons_of_mem _ hx)
    unfold putS
    intro x hx
    split at hx
    · rcases List.mem_cons.1 hx with rfl | hx
      · exact ha
      · exact ih hr x hx
    · split at hx
      · rcases List.mem_cons.1 hx with rfl | hx
        · simp only; omega
        · exact hr x hx
      · rcases List.mem_cons.1 hx with rfl | hx
        · exact hy
        · exact h x hx
theorem le_tot {l : List Row} (h : Pos l) {x : Row} (hx : x ∈ l) : x.2 ≤ totS l := by
  induction l with
  | nil => simp at hx
  | cons a r ih =>
    have ha := h a (List.mem_cons_self ..)
    have hr : Pos r := fun x hx => h x (List.mem_cons_of_mem _ hx)
    have h0 : 0 ≤ totS r := by
      have : ∀ s : List Row, Pos s → 0 ≤ totS s := fun s => by
        induction s with
        | nil => simp [totS]
        | cons b t iht =>
          intro hp
          have := hp b (List.mem_cons_self ..)
          have := iht fun x hx => hp x (List.mem_cons_of_mem _ hx)
          unfold totS at *; simp; omega
      exact this r hr
    have e : totS (a :: r) = a.2 + totS r := by simp [totS]
    rw [e]
    rcases List.mem_cons.1 hx with rfl | hx
    · omega
    · have := ih hr hx; omega

/-- All rows of l' put into l. -/
def sumRows (l l' : List Row) : List Row := l'.foldl (fun acc r => putS acc r.1 r.2) l

theorem sumRows_take {l l' : List Row} {t : Nat} {r : Row} (h : l'[t]? = some r) : sumRows l (l'.take (t + 1)) = putS (sumRows l (l'.take t)) r.1 r.2 := by
  unfold sumRows
  rw [List.take_add_one, h]
  simp
theorem asc_sumRows {l l' : List Row} (h : Asc l) : Asc (sumRows l l') := by
  unfold sumRows
  induction l' generalizing l with
  | nil => exact h
  | cons a r ih => exact ih (asc_putS h a.1 a.2)
theorem pos_sumRows {l l' : List Row} (h : Pos l) (h' : Pos l') : Pos (sumRows l l') := by
  unfold sumRows
  induction l' generalizing l with
  | nil => exact h
  | cons a r ih => exact ih (pos_putS h (h' a (List.mem_cons_self ..))) (fun x hx => h' x (List.mem_cons_of_mem _ hx))
theorem tot_sumRows (l l' : List Row) : totS (sumRows l l') = totS l + totS l' := by
  unfold sumRows
  induction l' generalizing l with
  | nil => simp [totS]
  | cons a r ih =>
    rw [List.foldl_cons, ih, totS_putS]
    have : totS (a :: r) = a.2 + totS r := by simp [totS]
    omega
theorem length_sumRows (l l' : List Row) : (sumRows l l').length ≤ l.length + l'.length := by
  unfold sumRows
  induction l' generalizing l with
  | nil => simp
  | cons a r ih =>
    rw [List.foldl_cons]
    have h1 := ih (putS l a.1 a.2)
    have h2 := (length_putS l a.1 a.2).2
    simp
    omega
theorem mem_sumRows {l l' : List Row} {x : Row} (h : x ∈ sumRows l l') : x.1 ∈ l.map (·.1) ∨ x.1 ∈ l'.map (·.1) := by
  unfold sumRows at h
  induction l' generalizing l with
  | nil => exact .inl (List.mem_map.2 ⟨x, h, rfl⟩)
  | cons a r ih =>
    rcases ih h with h1 | h1
    · obtain ⟨z, hz, e⟩ := List.mem_map.1 h1
      rcases mem_putS hz with e2 | hz
      · right; rw [← e, e2]; exact List.mem_cons_self ..
      · left; rw [← e]; exact List.mem_map.2 ⟨z, hz, rfl⟩
    · right; exact List.mem_cons_of_mem _ h1
theorem cntR_sumRows {l l' : List Row} (h : Asc l) (h' : Asc l') (m : List Int) : cntR (sumRows l l') m = cntR l m + cntR l' m := by
  unfold sumRows
  induction l' generalizing l with
  | nil => simp [cntR]
  | cons a r ih =>
    obtain ⟨a1, a2⟩ := List.pairwise_cons.1 h'
    rw [List.foldl_cons, ih (asc_putS h a.1 a.2) a2, cntR_putS h]
    have e : cntR (a :: r) m = if a.1 = m then a.2 else cntR r m := rfl
    rw [e]
    by_cases he : a.1 = m
    · subst he
      rw [if_pos rfl, if_pos rfl, cntR_lt a2 a1]; omega
    · rw [if_neg (fun e => he e.symm), if_neg he]; omega

/-- What a function that makes a profile hands back: an error, and a profile (all 0 beside an error). -/
structure PR where
  err : Int
  c : Int
  k : Int
  l : List Row
def badP (e : Int) : PR := ⟨e, 0, 0, []⟩
def wholeP (c k : Int) (l : List Row) : PR := if checkS c k l = 0 then ⟨0, c, k, l⟩ else badP (checkS c k l)
def bothS (c k : Int) (l : List Row) (c' k' : Int) (l' : List Row) : Int :=
  if checkS c k l = 0 then (if checkS c' k' l' = 0 then (if k = k' ∧ c = c' then 0 else 8) else checkS c' k' l') else checkS c k l
def sumP (c k : Int) (l : List Row) (c' k' : Int) (l' : List Row) : PR :=
  if bothS c k l c' k' l' = 0 then wholeP c k (sumRows l l') else badP (bothS c k l c' k' l')
theorem both_ok {c k : Int} {l : List Row} {c' k' : Int} {l' : List Row} (h : bothS c k l c' k' l' = 0) : checkS c k l = 0 ∧ checkS c' k' l' = 0 ∧ k = k' ∧ c = c' := by
  unfold bothS at h
  split at h
  · rename_i h1
    split at h
    · rename_i h2
      split at h
      · rename_i h3; exact ⟨h1, h2, h3⟩
      · cases h
    · rename_i h2; exact absurd h h2
  · rename_i h1; exact absurd h h1
end Go.Proofs.Ytleniljhacnikaa
