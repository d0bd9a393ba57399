/-
  Adding and taking away, sums and differences of profiles: what undoes what. No program is named here.
-/
import Derived.Test.YtleniljhacnikaaW9w
namespace Go.Proofs.Ytleniljhacnikaa

theorem drop_put {l : List Row} {m : List Int} {y : Int} (hp : Pos l) (hy : 0 < y) : dropS (putS l m y) m y = some l := by
  induction l with
  | nil => simp [putS, dropS, cmpL_self]
  | cons a r ih =>
    have ha := hp a (List.mem_cons_self ..)
    have hr : Pos r := fun x hx => hp x (List.mem_cons_of_mem _ hx)
    unfold putS
    split
    · rename_i hlt
      unfold dropS
      rw [if_pos hlt, ih hr]; rfl
    · rename_i hlt
      split
      · rename_i e
        unfold dropS
        simp only
        rw [if_neg (by rw [cmpL_self]; omega), if_pos trivial, if_neg (by omega), if_neg (by omega), ← e, show a.2 + y - y = a.2 by omega]
      · unfold dropS
        simp only
        rw [if_neg (by rw [cmpL_self]; omega), if_pos trivial, if_neg (by omega), if_pos trivial]

/-- Taken away again. -/
theorem take_add {c k : Int} {l : List Row} {kb : Int} {mb : List Int} {y : Int} (h : (addP c k l kb mb y).err = 0) : ∃ L, addP c k l kb mb y = ⟨0, c, k, L⟩ ∧ takeP c k L kb mb y = ⟨0, c, k, l⟩ := by
  unfold addP at h ⊢
  by_cases hm : mayS c k l kb mb y = 0
  · rw [if_pos hm] at h ⊢
    obtain ⟨h1, h2, h3, h4⟩ := may_ok hm
    obtain ⟨_, _, _, _, _, _, ha, hp, _⟩ := check_iff.1 h1
    unfold wholeP at h ⊢
    by_cases hc : checkS c k (putS l mb (cutS y)) = 0
    · rw [if_pos hc]
      have hy : cutS y = y := by
        have ht := (check_iff.1 hc).2.2.2.2.2.1
        rw [totS_putS] at ht
        have h0 : 0 ≤ totS l := by
          have := totS_nn (l := l) (n := l.length) (fun i hi => rowOK_many (rowOK_of h1 hi)) (Nat.le_refl _)
          rwa [List.take_length] at this
        unfold cutS at ht ⊢
        split at ht
        · omega
        · rename_i hh; rw [if_neg hh]
      rw [hy] at hc ⊢
      refine ⟨_, rfl, ?_⟩
      unfold takeP
      rw [if_pos (by unfold mayS; rw [if_pos hc, if_pos ⟨h2, by rw [h2]; exact h3⟩, if_neg (by omega)]), drop_put hp (by omega)]
    · rw [if_neg hc] at h
      exact absurd h hc
  · rw [if_neg hm] at h
    exact absurd h hm

theorem sumRows_comm {l l' : List Row} (h : Asc l) (h' : Asc l') (hp : Pos l) (hp' : Pos l') : sumRows l l' = sumRows l' l :=
  rows_ext (asc_sumRows h) (asc_sumRows h') (pos_sumRows hp hp') (pos_sumRows hp' hp) fun m => by rw [cntR_sumRows h h', cntR_sumRows h' h]; omega
theorem sumRows_assoc {l l' l'' : List Row} (h : Asc l) (h' : Asc l') (h'' : Asc l'') (hp : Pos l) (hp' : Pos l') (hp'' : Pos l'') : sumRows (sumRows l l') l'' = sumRows l (sumRows l' l'') :=
  rows_ext (asc_sumRows (asc_sumRows h)) (asc_sumRows h) (pos_sumRows (pos_sumRows hp hp') hp'') (pos_sumRows hp (pos_sumRows hp' hp'')) fun m => by
    rw [cntR_sumRows (asc_sumRows h) h'', cntR_sumRows h h', cntR_sumRows h (asc_sumRows h'), cntR_sumRows h' h'']; omega
theorem cntR_nn {l : List Row} (hp : Pos l) (m : List Int) : 0 ≤ cntR l m := by
  induction l with
  | nil => exact Int.le_refl _
  | cons a r ih =>
    have ha := hp a (List.mem_cons_self ..)
    rw [cntR]; split
    · omega
    · exact ih fun x hx => hp x (List.mem_cons_of_mem _ hx)
theorem cntR_mem {l : List Row} (hp : Pos l) {m : List Int} : m ∈ l.map (·.1) ↔ 0 < cntR l m := by
  induction l with
  | nil => simp [cntR]
  | cons a r ih =>
    have ha := hp a (List.mem_cons_self ..)
    have hr : Pos r := fun x hx => hp x (List.mem_cons_of_mem _ hx)
    rw [cntR, List.map_cons, List.mem_cons, ih hr]
    by_cases e : a.1 = m
    · subst e; rw [if_pos rfl]; simp [ha]
    · rw [if_neg e]; exact ⟨fun h => h.elim (fun h => absurd h.symm e) id, .inr⟩
theorem nodup_keys {l : List Row} (h : Asc l) : (l.map (·.1)).Nodup := by
  refine (asc_keys.1 h).imp fun {a b} hab e => ?_
  subst e
  rw [cmpL_self] at hab
  omega
/-- More ballots: not fewer rows. -/
theorem length_le_of_cnt {l l' : List Row} (h : Asc l) (hp : Pos l) (hp' : Pos l') (hc : ∀ m, cntR l m ≤ cntR l' m) : l.length ≤ l'.length := by
  have := (nodup_keys h).length_le_of_subset (l₂ := l'.map (·.1)) fun m hm => (cntR_mem hp').2 (by have := (cntR_mem hp).1 hm; have := hc m; omega)
  simpa using this

/-- Rows that are valid one by one, whatever their number: no other error than of the number. -/
theorem check_three {c k : Int} {l : List Row} (hc : 1 ≤ c ∧ c ≤ 10) (hk : 1 ≤ k ∧ k ≤ 3) (ha : Asc l) (hp : Pos l) (hm : ∀ x ∈ l, bcheckS k x.1 c = 0) :
    checkS c k l = if 64 < l.length then 9 else if 1000000 < totS l then 4 else 0 := by
  have hall : allN l.length (rowOK c k l) = true := allN_true.2 fun i hi => by
    have he := List.getElem?_eq_getElem hi
    have hm' := List.getElem_mem hi
    simp only [rowOK, Bool.and_eq_true, Bool.or_eq_true, decide_eq_true_eq, getD_of he]
    refine ⟨⟨?_, hp _ hm'⟩, hm _ hm'⟩
    by_cases e : i = 0
    · exact .inl e
    · right
      have he' := List.getElem?_eq_getElem (show i - 1 < l.length by omega)
      rw [getD_of he']
      exact ha.lt (show i - 1 < i by omega) he' he
  have hne : newErr c k = 0 := by
    by_cases e : newErr c k = 0
    · exact e
    · exact absurd (newErr_bad.1 e) (by omega)
  unfold checkS
  rw [hall, hne]
  simp
theorem marks_sum {c k : Int} {l l' : List Row} (h : ∀ x ∈ l, bcheckS k x.1 c = 0) (h' : ∀ x ∈ l', bcheckS k x.1 c = 0) : ∀ x ∈ sumRows l l', bcheckS k x.1 c = 0 := fun x hx => by
  rcases mem_sumRows hx with hm | hm
  · obtain ⟨r, hr, e⟩ := List.mem_map.1 hm; rw [← e]; exact h r hr
  · obtain ⟨r, hr, e⟩ := List.mem_map.1 hm; rw [← e]; exact h' r hr

/-- Row by row taken away again. -/
theorem min_sum {l l' : List Row} (h : Asc l) (h' : Asc l') (hp : Pos l) (hp' : Pos l') :
    ∀ i, i ≤ l'.length → (∀ j, j < i → mayMin (sumRows l l') l' j = true) ∧ ∀ m, cntR (minS (sumRows l l') l' i) m = cntR l m + cntR (l'.drop i) m := by
  have hA := asc_sumRows (l' := l') h
  have hP := pos_sumRows hp hp'
  intro i
  induction i with
  | zero =>
    intro _
    refine ⟨fun j hj => absurd hj (by omega), fun m => ?_⟩
    unfold minS
    rw [List.take_zero, List.foldl_nil, List.drop_zero, cntR_sumRows h h']
  | succ i ih =>
    intro hi
    obtain ⟨h1, h2⟩ := ih (by omega)
    have he := List.getElem?_eq_getElem (show i < l'.length by omega)
    generalize l'[i]'(by omega) = r at he
    have hd : l'.drop i = r :: l'.drop (i + 1) := by
      rw [drop_step (show i < l'.length by omega) ([], 0), getD_of he]
    have hr := hp' r (List.mem_of_getElem? he)
    have hAd : Asc (r :: l'.drop (i + 1)) := by rw [← hd]; exact h'.sublist (List.drop_sublist _ _)
    have hz : cntR (l'.drop (i + 1)) r.1 = 0 := cntR_lt (List.pairwise_cons.1 hAd).2 (List.pairwise_cons.1 hAd).1
    obtain ⟨q1, q2, _, _⟩ := minS_inv (l' := l') hA hP hp' i
    have hs := dropS_some q1 (m := r.1) hr
    rw [h2 r.1, hd, cntR, if_pos rfl] at hs
    have hn := cntR_nn hp r.1
    have hsome : (dropS (minS (sumRows l l') l' i) r.1 r.2).isSome = true := by rw [hs]; simp; omega
    obtain ⟨L, hL⟩ := Option.isSome_iff_exists.1 hsome
    refine ⟨fun j hj => ?_, fun m => ?_⟩
    · by_cases e : j = i
      · subst e; rw [mayMin_at he]; exact hsome
      · exact h1 j (by omega)
    · rw [minS_succ he, hL, Option.getD_some, cntR_dropS q1 hL, h2 m, hd, cntR]
      by_cases e : m = r.1
      · subst e; rw [if_pos rfl, if_pos rfl, hz]; omega
      · rw [if_neg e, if_neg (fun e' => e e'.symm)]; omega

/-- What sums of valid profiles of one kind do. -/
theorem back_law {c k : Int} {l l' l'' : List Row} (h : checkS c k l = 0) (h' : checkS c k l' = 0) (h'' : checkS c k l'' = 0) :
    sumP c k l' c k l = sumP c k l c k l' ∧ ((sumP c k l c k l').err = 0 ∨ (sumP c k l c k l').err = 9 ∨ (sumP c k l c k l').err = 4) ∧
    ((sumP c k l c k l').err = 0 → ∃ L, sumP c k l c k l' = ⟨0, c, k, L⟩ ∧ checkS c k L = 0 ∧ minusP c k L c k l' = ⟨0, c, k, l⟩ ∧
      (((sumP c k l' c k l'').err = 0 ∧ ∃ L2, sumP c k l' c k l'' = ⟨0, c, k, L2⟩ ∧ sumP c k L c k l'' = sumP c k l c k L2) ∨ ((sumP c k l' c k l'').err ≠ 0 ∧ (sumP c k L c k l'').err ≠ 0))) := by
  obtain ⟨h1, h2, h3, h4, h5, h6, h7, h8, h9⟩ := check_iff.1 h
  obtain ⟨g1, _, _, _, _, g6, g7, g8, g9⟩ := check_iff.1 h'
  obtain ⟨f1, _, _, _, _, f6, f7, f8, f9⟩ := check_iff.1 h''
  have hsum : ∀ {a b : List Row}, checkS c k a = 0 → checkS c k b = 0 → sumP c k a c k b = wholeP c k (sumRows a b) := fun ha hb => by
    unfold sumP bothS; rw [if_pos ha, if_pos hb, if_pos (⟨rfl, rfl⟩ : k = k ∧ c = c), if_pos rfl]
  have hc12 := sumRows_comm h7 g7 h8 g8
  have hA := asc_sumRows (l' := l') h7
  have hP := pos_sumRows h8 g8
  have hM := marks_sum h9 g9
  have ck : checkS c k (sumRows l l') = if 64 < (sumRows l l').length then 9 else if 1000000 < totS (sumRows l l') then 4 else 0 := check_three ⟨h2, h3⟩ ⟨h4, h5⟩ hA hP hM
  have hA2 := asc_sumRows (l' := l'') g7
  have hP2 := pos_sumRows g8 f8
  have hM2 := marks_sum g9 f9
  have ck2 : checkS c k (sumRows l' l'') = if 64 < (sumRows l' l'').length then 9 else if 1000000 < totS (sumRows l' l'') then 4 else 0 := check_three ⟨h2, h3⟩ ⟨h4, h5⟩ hA2 hP2 hM2
  have hA3 := asc_sumRows (l' := l'') hA
  have hP3 := pos_sumRows hP f8
  have hM3 := marks_sum hM f9
  have ck3 : checkS c k (sumRows (sumRows l l') l'') = if 64 < (sumRows (sumRows l l') l'').length then 9 else if 1000000 < totS (sumRows (sumRows l l') l'') then 4 else 0 := check_three ⟨h2, h3⟩ ⟨h4, h5⟩ hA3 hP3 hM3
  have t0 : 0 ≤ totS l := by
    have := totS_nn (l := l) (n := l.length) (fun i hi => rowOK_many (rowOK_of h hi)) (Nat.le_refl _)
    rwa [List.take_length] at this
  rw [hsum h h', hsum h' h, hsum h' h'', ← hc12]
  refine ⟨rfl, ?_, fun hz => ?_⟩
  · unfold wholeP
    by_cases e : checkS c k (sumRows l l') = 0
    · rw [if_pos e]; exact .inl rfl
    · rw [if_neg e]
      show checkS c k (sumRows l l') = 0 ∨ checkS c k (sumRows l l') = 9 ∨ checkS c k (sumRows l l') = 4
      rw [ck]
      repeat' split
      all_goals simp
  · have e : checkS c k (sumRows l l') = 0 := by
      unfold wholeP at hz
      by_cases e : checkS c k (sumRows l l') = 0
      · exact e
      · rw [if_neg e] at hz; exact absurd hz e
    refine ⟨sumRows l l', by unfold wholeP; rw [if_pos e], e, ?_, ?_⟩
    · obtain ⟨m1, m2⟩ := min_sum h7 g7 h8 g8 l'.length (Nat.le_refl _)
      obtain ⟨q1, q2, _, _⟩ := minS_inv (l' := l') hA hP g8 l'.length
      have hml : minS (sumRows l l') l' l'.length = l := rows_ext q1 h7 q2 h8 fun m => by
        rw [m2 m, List.drop_eq_nil_of_le (Nat.le_refl _)]
        show cntR l m + 0 = _
        omega
      unfold minusP bothS
      rw [if_pos e, if_pos h', if_pos (⟨rfl, rfl⟩ : k = k ∧ c = c), if_pos rfl, if_pos (allN_true.2 m1), hml]
    · by_cases e2 : checkS c k (sumRows l' l'') = 0
      · refine .inl ⟨by unfold wholeP; rw [if_pos e2], sumRows l' l'', by unfold wholeP; rw [if_pos e2], ?_⟩
        rw [hsum e h'', hsum h e2, sumRows_assoc h7 g7 f7 h8 g8 f8]
      · refine .inr ⟨by unfold wholeP; rw [if_neg e2]; exact e2, ?_⟩
        rw [hsum e h'']
        unfold wholeP
        have e3 : checkS c k (sumRows (sumRows l l') l'') ≠ 0 := by
          rw [ck3]
          rw [ck2] at e2
          have hle := length_le_of_cnt hA2 hP2 hP3 fun m => by
            rw [cntR_sumRows g7 f7, cntR_sumRows hA f7, cntR_sumRows h7 g7]
            have := cntR_nn h8 m
            omega
          have ht2 := tot_sumRows l' l''
          have ht3 := tot_sumRows (sumRows l l') l''
          have ht1 := tot_sumRows l l'
          split at e2
          · rw [if_pos (by omega)]; omega
          · split at e2
            · split
              · omega
              · rw [if_pos (by omega)]; omega
            · exact absurd rfl e2
        rw [if_neg e3]; exact e3
end Go.Proofs.Ytleniljhacnikaa
