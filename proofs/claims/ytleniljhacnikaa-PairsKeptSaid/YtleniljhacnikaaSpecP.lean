/-
  Lists in order; rows that are put into a profile and taken out of it: in plain terms. No program is named here.
-/
import Derived.Test.YtleniljhacnikaaSpec10e
namespace Go.Proofs.Ytleniljhacnikaa

theorem cmpI_zero {x y : Int} : cmpI x y = 0 ↔ x = y := by unfold cmpI; repeat' split
                                                           all_goals omega
theorem cmpI_neg (x y : Int) : cmpI y x = -cmpI x y := by unfold cmpI; repeat' split
                                                          all_goals omega
theorem cmpI_lt {x y : Int} : cmpI x y < 0 ↔ x < y := by unfold cmpI; repeat' split
                                                         all_goals omega
theorem cmpL_zero : ∀ {a b : List Int}, cmpL a b = 0 ↔ a = b
  | [], [] => by simp [cmpL]
  | [], _ :: _ => by simp [cmpL]
  | _ :: _, [] => by simp [cmpL]
  | x :: r, y :: s => by
    unfold cmpL
    by_cases e : cmpI x y = 0
    · rw [if_pos e, cmpL_zero, cmpI_zero.1 e]; simp
    · rw [if_neg e]
      constructor
      · exact fun h => absurd h e
      · intro h; injection h with h1 h2; exact absurd (cmpI_zero.2 h1) e
theorem cmpL_self (a : List Int) : cmpL a a = 0 := cmpL_zero.2 rfl
theorem cmpL_neg : ∀ (a b : List Int), cmpL b a = -cmpL a b
  | [], [] => by simp [cmpL]
  | [], _ :: _ => by simp [cmpL]
  | _ :: _, [] => by simp [cmpL]
  | x :: r, y :: s => by
    unfold cmpL
    rw [cmpI_neg x y]
    by_cases e : cmpI x y = 0
    · rw [if_pos e, if_pos (by omega), cmpL_neg r s]
    · rw [if_neg e, if_neg (by omega)]
theorem cmpL_bd : ∀ (a b : List Int), -1 ≤ cmpL a b ∧ cmpL a b ≤ 1
  | [], [] => by simp [cmpL]
  | [], _ :: _ => by simp [cmpL]
  | _ :: _, [] => by simp [cmpL]
  | x :: r, y :: s => by
    unfold cmpL
    split
    · exact cmpL_bd r s
    · unfold cmpI; repeat' split
      all_goals omega
theorem cmpL_trans : ∀ {a b c : List Int}, cmpL a b < 0 → cmpL b c < 0 → cmpL a c < 0
  | [], [], _ => by simp [cmpL]
  | [], _ :: _, [] => by simp [cmpL]
  | [], _ :: _, _ :: _ => by simp [cmpL]
  | _ :: _, [], _ => by simp [cmpL]
  | _ :: _, _ :: _, [] => by simp [cmpL]
  | x :: r, y :: s, z :: t => by
    unfold cmpL
    intro h1 h2
    by_cases e1 : cmpI x y = 0
    · obtain rfl := cmpI_zero.1 e1
      rw [if_pos e1] at h1
      by_cases e2 : cmpI x z = 0
      · rw [if_pos e2] at h2 ⊢; exact cmpL_trans h1 h2
      · rw [if_neg e2] at h2 ⊢; exact h2
    · rw [if_neg e1] at h1
      by_cases e2 : cmpI y z = 0
      · obtain rfl := cmpI_zero.1 e2
        rw [if_neg e1]; exact h1
      · rw [if_neg e2] at h2
        have a := cmpI_lt.1 h1
        have b := cmpI_lt.1 h2
        have c : cmpI x z < 0 := cmpI_lt.2 (by omega)
        rw [if_neg (by omega)]; exact c

/-- Rows in strict order. -/
def Asc (l : List Row) : Prop := l.Pairwise fun a b => cmpL a.1 b.1 < 0

/-- How many rows come before the marks m (the rows being in order). -/
def plS : List Row → List Int → Nat
  | [], _ => 0
  | a :: r, m => if cmpL a.1 m < 0 then plS r m + 1 else 0

theorem plS_le (l : List Row) (m : List Int) : plS l m ≤ l.length := by
  induction l with
  | nil => simp [plS]
  | cons a r ih => unfold plS; split <;> simp <;> omega
theorem plS_before {l : List Row} {m : List Int} {i : Nat} {r : Row} (h : l[i]? = some r) (hi : i < plS l m) : cmpL r.1 m < 0 := by
  induction l generalizing i with
  | nil => simp at h
  | cons a t ih =>
    unfold plS at hi
    split at hi
    · cases i with
      | zero => simp at h; subst h; assumption
      | succ i => exact ih (by simpa using h) (by omega)
    · omega
theorem plS_at {l : List Row} {m : List Int} {r : Row} (h : l[plS l m]? = some r) : ¬ cmpL r.1 m < 0 := by
  induction l with
  | nil => simp at h
  | cons a t ih =>
    unfold plS at h
    split at h
    · exact ih (by simpa using h)
    · simp at h; subst h; assumption
/-- The place is where the rows before are less, and the row there, and so all behind it, is not. -/
theorem plS_eq {l : List Row} {m : List Int} {i : Nat} (hi : i ≤ l.length) (h1 : ∀ k r, k < i → l[k]? = some r → cmpL r.1 m < 0) (h2 : ∀ r, l[i]? = some r → ¬ cmpL r.1 m < 0) : plS l m = i := by
  induction l generalizing i with
  | nil => simp at hi; subst hi; rfl
  | cons a t ih =>
    unfold plS
    cases i with
    | zero => rw [if_neg (h2 a rfl)]
    | succ i =>
      rw [if_pos (h1 0 a (by omega) rfl), ih (by simpa using hi) (fun k r hk h => h1 (k + 1) r (by omega) (by simpa using h)) (fun r h => h2 r (by simpa using h))]
theorem Asc.lt {l : List Row} (h : Asc l) {i j : Nat} {a b : Row} (hij : i < j) (ha : l[i]? = some a) (hb : l[j]? = some b) : cmpL a.1 b.1 < 0 := by
  obtain ⟨hi, rfl⟩ := List.getElem?_eq_some_iff.1 ha
  obtain ⟨hj, rfl⟩ := List.getElem?_eq_some_iff.1 hb
  exact List.pairwise_iff_getElem.1 h i j hi hj hij

/-- y more ballots of the marks m. -/
def putS : List Row → List Int → Int → List Row
  | [], m, y => [(m, y)]
  | a :: r, m, y => if cmpL a.1 m < 0 then a :: putS r m y else if a.1 = m then (m, a.2 + y) :: r else (m, y) :: a :: r

/-- y ballots less of the marks m, if there are as many. -/
def dropS : List Row → List Int → Int → Option (List Row)
  | [], _, _ => none
  | a :: r, m, y => if cmpL a.1 m < 0 then (dropS r m y).map (a :: ·) else if a.1 = m then (if a.2 < y then none else if a.2 = y then some r else some ((m, a.2 - y) :: r)) else none

/-- How many ballots of the marks m. -/
def cntR : List Row → List Int → Int
  | [], _ => 0
  | a :: r, m => if a.1 = m then a.2 else cntR r m

theorem putS_is {l : List Row} {m : List Int} {y z : Int} (h : l[plS l m]? = some (m, z)) : putS l m y = l.set (plS l m) (m, z + y) := by
  induction l with
  | nil => simp at h
  | cons a r ih =>
    unfold plS at h
    unfold plS putS
    split
    · rename_i hlt
      rw [if_pos hlt] at h
      rw [ih (by simpa using h)]; simp
    · rename_i hlt
      rw [if_neg hlt] at h
      simp at h; subst h; simp
theorem putS_new {l : List Row} {m : List Int} {y : Int} (h : ∀ z, l[plS l m]? ≠ some (m, z)) : putS l m y = l.take (plS l m) ++ (m, y) :: l.drop (plS l m) := by
  induction l with
  | nil => simp [putS, plS]
  | cons a r ih =>
    unfold plS putS
    split
    · rename_i hlt
      rw [ih (fun z hz => h z (by unfold plS; rw [if_pos hlt]; simpa using hz))]; simp
    · rename_i hlt
      have : a.1 ≠ m := fun e => h a.2 (by unfold plS; rw [if_neg hlt]; simp [← e])
      rw [if_neg this]; simp
theorem dropS_is {l : List Row} {m : List Int} {y z : Int} (h : l[plS l m]? = some (m, z)) :
    dropS l m y = if z < y then none else if z = y then some (l.eraseIdx (plS l m)) else some (l.set (plS l m) (m, z - y)) := by
  induction l with
  | nil => simp at h
  | cons a r ih =>
    unfold plS at h
    unfold plS dropS
    split
    · rename_i hlt
      rw [if_pos hlt] at h
      rw [ih (by simpa using h)]
      split
      · rfl
      · split <;> simp
    · rename_i hlt
      rw [if_neg hlt] at h
      simp at h; subst h; simp
theorem dropS_none {l : List Row} {m : List Int} {y : Int} (h : ∀ z, l[plS l m]? ≠ some (m, z)) : dropS l m y = none := by
  induction l with
  | nil => simp [dropS]
  | cons a r ih =>
    unfold dropS
    split
    · rename_i hlt
      rw [ih (fun z hz => h z (by unfold plS; rw [if_pos hlt]; simpa using hz))]; rfl
    · rename_i hlt
      have : a.1 ≠ m := fun e => h a.2 (by unfold plS; rw [if_neg hlt]; simp [← e])
      rw [if_neg this]

theorem mem_putS {l : List Row} {m : List Int} {y : Int} {x : Row} (h : x ∈ putS l m y) : x.1 = m ∨ x ∈ l := by
  induction l with
  | nil => simp [putS] at h; subst h; exact .inl rfl
  | cons a r ih =>
    unfold putS at h
    split at h
    · rcases List.mem_cons.1 h with h | h
      · exact .inr (h ▸ List.mem_cons_self ..)
      · rcases ih h with h | h
        · exact .inl h
        · exact .inr (List.mem_cons_of_mem _ h)
    · split at h
      · rcases List.mem_cons.1 h with h | h
        · exact .inl (h ▸ rfl)
        · exact .inr (List.mem_cons_of_mem _ h)
      · rcases List.mem_cons.1 h with h | h
        · exact .inl (h ▸ rfl)
        · exact .inr h
theorem asc_putS {l : List Row} (h : Asc l) (m : List Int) (y : Int) : Asc (putS l m y) := by
  induction l with
  | nil => simp [putS, Asc]
  | cons a r ih =>
    obtain ⟨h1, h2⟩ := List.pairwise_cons.1 h
    unfold putS
    split
    · rename_i hlt
      refine List.pairwise_cons.2 ⟨fun x hx => ?_, ih h2⟩
      rcases mem_putS hx with e | e
      · rw [e]; exact hlt
      · exact h1 x e
    · rename_i hlt
      split
      · rename_i e
        refine List.pairwise_cons.2 ⟨fun x hx => ?_, h2⟩
        rw [← e]; exact h1 x hx
      · rename_i e
        have hma : cmpL m a.1 < 0 := by
          have e1 := cmpL_neg a.1 m
          have e2 := mt (cmpL_zero (a := a.1) (b := m)).1 e
          omega
        refine List.pairwise_cons.2 ⟨fun x hx => ?_, h⟩
        rcases List.mem_cons.1 hx with e | e
        · rw [e]; exact hma
        · exact cmpL_trans hma (h1 x e)
theorem totS_putS (l : List Row) (m : List Int) (y : Int) : totS (putS l m y) = totS l + y := by
  induction l with
  | nil => simp [putS, totS]
  | cons a r ih =>
    unfold putS
    unfold totS at *
    split
    · simp [ih]; omega
    · split <;> simp <;> omega
theorem length_putS (l : List Row) (m : List Int) (y : Int) : l.length ≤ (putS l m y).length ∧ (putS l m y).length ≤ l.length + 1 := by
  induction l with
  | nil => simp [putS]
  | cons a r ih =>
    unfold putS
    split
    · simp; omega
    · split <;> simp
theorem cntR_lt {l : List Row} (h : Asc l) {m : List Int} (h1 : ∀ x ∈ l, cmpL m x.1 < 0) : cntR l m = 0 := by
  induction l with
  | nil => rfl
  | cons a r ih =>
    unfold cntR
    have := h1 a (List.mem_cons_self ..)
    rw [if_neg (fun e => by rw [e, cmpL_self] at this; omega)]
    exact ih (List.pairwise_cons.1 h).2 (fun x hx => h1 x (List.mem_cons_of_mem _ hx))
theorem cntR_putS {l : List Row} (h : Asc l) (m : List Int) (y : Int) (k : List Int) : cntR (putS l m y) k = cntR l k + if k = m then y else 0 := by
  induction l with
  | nil => simp [putS, cntR]; by_cases e : m = k <;> simp [e, eq_comm]
  | cons a r ih =>
    obtain ⟨h1, h2⟩ := List.pairwise_cons.1 h
    unfold putS
    split
    · rename_i hlt
      unfold cntR
      rw [ih h2]
      by_cases e : a.1 = k
      · rw [if_pos e, if_pos e, if_neg]
        · omega
        · rintro rfl; rw [e, cmpL_self] at hlt; omega
      · rw [if_neg e, if_neg e]
    · rename_i hlt
      split
      · rename_i e
        subst e
        unfold cntR
        by_cases e2 : a.1 = k
        · simp [e2]
        · rw [if_neg e2, if_neg e2, if_neg (fun e => e2 e.symm)]; omega
      · rename_i e
        have hma : cmpL m a.1 < 0 := by
          have e1 := cmpL_neg a.1 m
          have e2 := mt (cmpL_zero (a := a.1) (b := m)).1 e
          omega
        rw [cntR]
        by_cases e2 : m = k
        · subst e2
          rw [if_pos rfl, if_pos rfl, cntR_lt h (fun x hx => by
            rcases List.mem_cons.1 hx with e | e
            · rw [e]; exact hma
            · exact cmpL_trans hma (h1 x e))]
          omega
        · rw [if_neg e2, if_neg (fun e => e2 e.symm)]; omega

/-- Rows in order, with positive counts, are known by their counts. -/
def Pos (l : List Row) : Prop := ∀ x ∈ l, 0 < x.2

theorem rows_ext : ∀ {l l' : List Row}, Asc l → Asc l' → Pos l → Pos l' → (∀ m, cntR l m = cntR l' m) → l = l'
  | [], [], _, _, _, _, _ => rfl
  | [], b :: s, _, _, _, hp', h => by
    have := h b.1
    have h2 := hp' b (List.mem_cons_self ..)
    simp [cntR] at this; omega
  | a :: r, [], _, _, hp, _, h => by
    have := h a.1
    have h2 := hp a (List.mem_cons_self ..)
    simp [cntR] at this; omega
  | a :: r, b :: s, ha, hb, hp, hp', h => by
    obtain ⟨a1, a2⟩ := List.pairwise_cons.1 ha
    obtain ⟨b1, b2⟩ := List.pairwise_cons.1 hb
    have pa := hp a (List.mem_cons_self ..)
    have pb := hp' b (List.mem_cons_self ..)
    have hab : a.1 = b.1 := by
      by_cases e : a.1 = b.1
      · exact e
      · exfalso
        have e0 := mt (cmpL_zero (a := a.1) (b := b.1)).1 e
        have e1 := cmpL_neg a.1 b.1
        by_cases hlt : cmpL a.1 b.1 < 0
        · have h1 := h a.1
          rw [cntR, if_pos rfl, cntR_lt hb (fun x hx => by
            rcases List.mem_cons.1 hx with e | e
            · rw [e]; exact hlt
            · exact cmpL_trans hlt (b1 x e))] at h1
          omega
        · have hlt : cmpL b.1 a.1 < 0 := by omega
          have h1 := h b.1
          rw [cntR_lt ha (fun x hx => by
            rcases List.mem_cons.1 hx with e | e
            · rw [e]; exact hlt
            · exact cmpL_trans hlt (a1 x e)), cntR, if_pos rfl] at h1
          omega
    have hab2 : a.2 = b.2 := by
      have h1 := h a.1
      rw [cntR, if_pos rfl, cntR, if_pos hab.symm] at h1
      exact h1
    have : a = b := Prod.ext hab hab2
    subst this
    rw [rows_ext a2 b2 (fun x hx => hp x (List.mem_cons_of_mem _ hx)) (fun x hx => hp' x (List.mem_cons_of_mem _ hx)) (fun m => ?_)]
    have h1 := h m
    rw [cntR, cntR] at h1
    by_cases e : a.1 = m
    · subst e
      rw [cntR_lt a2 a1, cntR_lt b2 b1]
    · rw [if_neg e, if_neg e] at h1; exact h1
end Go.Proofs.Ytleniljhacnikaa
