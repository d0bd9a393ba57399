/-
  Taking ballots away, in plain terms. No program is named here.
-/
import Derived.Test.YtoeajgjpakilgaaGreatSpecA
namespace Go.Proofs.YtoeajgjpakilgaaGreat

theorem keys_dropS {l : List Row} {m : List Int} {y : Int} {l' : List Row} (h : dropS l m y = some l') : (l'.map (·.1)).Sublist (l.map (·.1)) := by
  induction l generalizing l' with
  | nil => cases h
  | cons a r ih =>
    unfold dropS at h
    split at h
    · cases hd : dropS r m y with
      | none => rw [hd] at h; cases h
      | some r' => rw [hd] at h; cases h; exact (ih hd).cons_cons _
    · split at h
      · rename_i e
        split at h
        · cases h
        · split at h
          · cases h; exact List.sublist_cons_self _ _
          · cases h; rw [List.map_cons, List.map_cons, ← e]; exact List.Sublist.refl _
      · cases h
theorem asc_keys {l : List Row} : Asc l ↔ (l.map (·.1)).Pairwise (fun a b => cmpL a b < 0) := by unfold Asc; rw [List.pairwise_map]
theorem asc_dropS {l : List Row} {m : List Int} {y : Int} {l' : List Row} (h : Asc l) (hd : dropS l m y = some l') : Asc l' := asc_keys.2 ((asc_keys.1 h).sublist (keys_dropS hd))
theorem length_dropS {l : List Row} {m : List Int} {y : Int} {l' : List Row} (hd : dropS l m y = some l') : l'.length ≤ l.length := by
  have := (keys_dropS hd).length_le; simpa using this
theorem pos_dropS {l : List Row} {m : List Int} {y : Int} {l' : List Row} (h : Pos l) (hd : dropS l m y = some l') : Pos l' := by
  induction l generalizing l' with
  | nil => cases hd
  | cons a r ih =>
    have ha := h a (List.mem_cons_self ..)
    have hr : Pos r := fun x hx => h x (List.mem_cons_of_mem _ hx)
    unfold dropS at hd
    split at hd
    · cases hd' : dropS r m y with
      | none => rw [hd'] at hd; cases hd
      | some r' =>
        rw [hd'] at hd; cases hd
        intro x hx
        rcases List.mem_cons.1 hx with rfl | hx
        · exact ha
        · exact ih hr hd' x hx
    · split at hd
      · split at hd
        · cases hd
        · split at hd
          · cases hd; exact hr
          · cases hd
            intro x hx
            rcases List.mem_cons.1 hx with rfl | hx
            · simp only; omega
            · exact hr x hx
      · cases hd
theorem tot_dropS {l : List Row} {m : List Int} {y : Int} {l' : List Row} (hd : dropS l m y = some l') : totS l' = totS l - y := by
  induction l generalizing l' with
  | nil => cases hd
  | cons a r ih =>
    unfold dropS at hd
    split at hd
    · cases hd' : dropS r m y with
      | none => rw [hd'] at hd; cases hd
      | some r' =>
        rw [hd'] at hd; cases hd
        have := ih hd'
        unfold totS at *; simp; omega
    · split at hd
      · split at hd
        · cases hd
        · split at hd
          · cases hd; unfold totS; simp; omega
          · cases hd; unfold totS; simp; omega
      · cases hd
theorem cntR_gone {l : List Row} (h : Asc l) {a : Row} (ha : ∀ x ∈ l, cmpL a.1 x.1 < 0) : cntR l a.1 = 0 := cntR_lt h ha
/-- What is left after y ballots of the marks m are taken away. -/
theorem cntR_dropS {l : List Row} {m : List Int} {y : Int} {l' : List Row} (h : Asc l) (hd : dropS l m y = some l') (k : List Int) : cntR l' k = cntR l k - if k = m then y else 0 := by
  induction l generalizing l' with
  | nil => cases hd
  | cons a r ih =>
    obtain ⟨h1, h2⟩ := List.pairwise_cons.1 h
    unfold dropS at hd
    split at hd
    · rename_i hlt
      cases hd' : dropS r m y with
      | none => rw [hd'] at hd; cases hd
      | some r' =>
        rw [hd'] at hd; cases hd
        unfold cntR
        by_cases e : a.1 = k
        · rw [if_pos e, if_pos e, if_neg]
          · omega
          · rintro rfl; rw [e, cmpL_self] at hlt; omega
        · rw [if_neg e, if_neg e]; exact ih h2 hd'
    · split at hd
      · rename_i e
        subst e
        split at hd
        · cases hd
        · split at hd
          · rename_i e2
            cases hd
            show cntR r k = (if a.1 = k then a.2 else cntR r k) - if k = a.1 then y else 0
            by_cases e3 : a.1 = k
            · subst e3; rw [if_pos rfl, if_pos rfl, cntR_lt h2 h1]; omega
            · rw [if_neg e3, if_neg (fun e => e3 e.symm)]; omega
          · cases hd
            unfold cntR
            by_cases e3 : a.1 = k
            · rw [if_pos e3, if_pos e3, if_pos e3.symm]
            · rw [if_neg e3, if_neg e3, if_neg (fun e => e3 e.symm)]; omega
      · cases hd
/-- There are as many to take away. -/
theorem dropS_some {l : List Row} (h : Asc l) {m : List Int} {y : Int} (hy : 0 < y) : (dropS l m y).isSome = decide (y ≤ cntR l m) := by
  induction l with
  | nil => show false = decide (y ≤ 0); rw [eq_comm, decide_eq_false_iff_not]; omega
  | cons a r ih =>
    obtain ⟨h1, h2⟩ := List.pairwise_cons.1 h
    unfold dropS cntR
    split
    · rename_i hlt
      rw [if_neg (fun e => by rw [e, cmpL_self] at hlt; omega)]
      have := ih h2
      cases hd : dropS r m y with
      | none => rw [hd] at this; simpa using this
      | some r' => rw [hd] at this; simpa using this
    · rename_i hlt
      split
      · rename_i e
        split
        · simp; omega
        · split <;> simp <;> omega
      · rename_i e
        have hma : cmpL m a.1 < 0 := by
          have e1 := cmpL_neg a.1 m
          have e2 := mt (cmpL_zero (a := a.1) (b := m)).1 e
          omega
        rw [cntR_lt h2 (fun x hx => cmpL_trans hma (h1 x hx))]
        simp; omega

/-- The rows l less the first i rows of l', one after the other (those that are not there are passed by). -/
def minS (l l' : List Row) (i : Nat) : List Row := (l'.take i).foldl (fun acc r => (dropS acc r.1 r.2).getD acc) l
/-- Row i of l' can be taken away. -/
def mayMin (l l' : List Row) (i : Nat) : Bool := (dropS (minS l l' i) (l'.getD i ([], 0)).1 (l'.getD i ([], 0)).2).isSome
theorem minS_succ {l l' : List Row} {i : Nat} {r : Row} (h : l'[i]? = some r) : minS l l' (i + 1) = (dropS (minS l l' i) r.1 r.2).getD (minS l l' i) := by
  unfold minS
  rw [List.take_add_one, h]
  simp
theorem mayMin_at {l l' : List Row} {i : Nat} {r : Row} (h : l'[i]? = some r) : mayMin l l' i = (dropS (minS l l' i) r.1 r.2).isSome := by
  unfold mayMin; rw [getD_of h]
theorem minS_inv {l l' : List Row} (h : Asc l) (hp : Pos l) (hp' : Pos l') (i : Nat) : Asc (minS l l' i) ∧ Pos (minS l l' i) ∧ (minS l l' i).length ≤ l.length ∧ totS (minS l l' i) ≤ totS l := by
  unfold minS
  have hp2 : Pos (l'.take i) := fun x hx => hp' x (List.mem_of_mem_take hx)
  generalize l'.take i = t at hp2
  clear hp'
  induction t generalizing l with
  | nil => exact ⟨h, hp, Nat.le_refl _, Int.le_refl _⟩
  | cons a r ih =>
    have ha := hp2 a (List.mem_cons_self ..)
    have hr : Pos r := fun x hx => hp2 x (List.mem_cons_of_mem _ hx)
    rw [List.foldl_cons]
    cases hd : dropS l a.1 a.2 with
    | none => exact ih h hp hr
    | some l2 =>
      obtain ⟨k1, k2, k3, k4⟩ := ih (asc_dropS h hd) (pos_dropS hp hd) hr
      have e1 := length_dropS hd
      have e2 := tot_dropS hd
      exact ⟨k1, k2, Nat.le_trans k3 e1, by simp only [Option.getD_some] at *; omega⟩
end Go.Proofs.YtoeajgjpakilgaaGreat
