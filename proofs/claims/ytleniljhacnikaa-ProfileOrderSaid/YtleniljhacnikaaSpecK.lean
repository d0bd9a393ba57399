/-
  The matrix of what Keep leaves. No program is named here.
-/
import Derived.Test.YtleniljhacnikaaSpecA
import Derived.Test.YtleniljhacnikaaW9m
namespace Go.Proofs.Ytleniljhacnikaa

theorem placeS_ge : ∀ (l : List Int) (y j : Int), y ∈ l → j ≤ placeS l y j
  | [], _, _, h => by simp at h
  | b :: s, y, j, h => by
    unfold placeS
    split
    · omega
    · rename_i hne
      have := placeS_ge s y (j + 1) ((List.mem_cons.1 h).resolve_left fun e => hne e.symm)
      omega
theorem place_filter (p : Int → Bool) : ∀ (l : List Int) (x y k k' : Int), p x = true → p y = true → x ∈ l → y ∈ l → (placeS (l.filter p) x k < placeS (l.filter p) y k ↔ placeS l x k' < placeS l y k')
  | [], _, _, _, _, _, _, h, _ => by simp at h
  | a :: r, x, y, k, k', px, py, hx, hy => by
    by_cases e1 : a = x
    · subst e1
      rw [List.filter_cons_of_pos px]
      unfold placeS
      rw [if_pos rfl, if_pos rfl]
      by_cases e2 : a = y
      · rw [if_pos e2, if_pos e2]; omega
      · rw [if_neg e2, if_neg e2]
        have hyr := (List.mem_cons.1 hy).resolve_left fun e => e2 e.symm
        have h1 := placeS_ge r y (k' + 1) hyr
        have h2 := placeS_ge (r.filter p) y (k + 1) (List.mem_filter.2 ⟨hyr, py⟩)
        omega
    · have hxr := (List.mem_cons.1 hx).resolve_left fun e => e1 e.symm
      by_cases e2 : a = y
      · subst e2
        rw [List.filter_cons_of_pos py]
        unfold placeS
        rw [if_pos rfl, if_pos rfl, if_neg e1, if_neg e1]
        have h1 := placeS_ge r x (k' + 1) hxr
        have h2 := placeS_ge (r.filter p) x (k + 1) (List.mem_filter.2 ⟨hxr, px⟩)
        omega
      · have hyr := (List.mem_cons.1 hy).resolve_left fun e => e2 e.symm
        cases pa : p a with
        | true =>
          rw [List.filter_cons_of_pos pa]
          have ih := place_filter p r x y (k + 1) (k' + 1) px py hxr hyr
          unfold placeS
          rw [if_neg e1, if_neg e2, if_neg e1, if_neg e2]
          exact ih
        | false =>
          rw [List.filter_cons_of_neg (by simp [pa])]
          have ih := place_filter p r x y k (k' + 1) px py hxr hyr
          rw [ih]
          conv => rhs; unfold placeS
          rw [if_neg e1, if_neg e2]

theorem place_mem {l : List Int} {x : Int} : 0 ≤ placeS l x 0 ↔ x ∈ l := by
  have := placeS_neg (xs := l) (x := x) (Int.le_refl 0)
  constructor
  · intro h
    by_cases hx : x ∈ l
    · exact hx
    · have := this.2 hx; omega
  · exact placeS_nn
theorem place_out {l : List Int} {x : Int} : placeS l x 0 < 0 ↔ x ∉ l := placeS_neg (Int.le_refl 0)

/-- Two of those that are left: nothing has turned. -/
theorem kept_same {k : Int} {ms : List Int} {bs : List Bool} {x y : Int} (hk : k = 1 ∨ k = 2) (hx : isS bs x = true) (hy : isS bs y = true) : prefersS k (keptS k ms bs) x y = prefersS k ms x y := by
  have e : keptS k ms bs = ms.filter fun z => isS bs z := by unfold keptS; rw [if_pos hk]
  rw [e]
  have mx : x ∈ ms.filter (fun z => isS bs z) ↔ x ∈ ms := by rw [List.mem_filter]; simp [hx]
  have my : y ∈ ms.filter (fun z => isS bs z) ↔ y ∈ ms := by rw [List.mem_filter]; simp [hy]
  unfold prefersS
  split
  · rfl
  rcases hk with rfl | rfl
  · rw [if_pos rfl, if_pos rfl, Bool.eq_iff_iff]
    simp only [Bool.and_eq_true, Bool.or_eq_true, decide_eq_true_eq, place_mem, place_out, mx, my]
    constructor
    · rintro ⟨h1, h2⟩
      refine ⟨h1, ?_⟩
      by_cases hm : y ∈ ms
      · exact .inr ((place_filter _ ms x y 0 0 hx hy h1 hm).1 (h2.resolve_left fun h => h hm))
      · exact .inl hm
    · rintro ⟨h1, h2⟩
      refine ⟨h1, ?_⟩
      by_cases hm : y ∈ ms
      · exact .inr ((place_filter _ ms x y 0 0 hx hy h1 hm).2 (h2.resolve_left fun h => h hm))
      · exact .inl hm
  · rw [Bool.eq_iff_iff]
    simp only [if_neg (show ¬ (2 : Int) = 1 by omega), if_true, Bool.and_eq_true, decide_eq_true_eq, place_mem, place_out, mx, my]
/-- One that is gone is preferred to none. -/
theorem kept_gone {k : Int} {ms : List Int} {bs : List Bool} {x y : Int} (hk : k = 1 ∨ k = 2) (hx : isS bs x = false) : prefersS k (keptS k ms bs) x y = false := by
  have e : keptS k ms bs = ms.filter fun z => isS bs z := by unfold keptS; rw [if_pos hk]
  rw [e]
  have mx : ¬ 0 ≤ placeS (ms.filter (fun z => isS bs z)) x 0 := by rw [place_mem, List.mem_filter]; simp [hx]
  unfold prefersS
  split
  · rfl
  rcases hk with rfl | rfl
  · rw [if_pos rfl]; simp; omega
  · rw [if_neg (show ¬ (2 : Int) = 1 by omega), if_pos rfl]; simp; omega
/-- One that is left gains over one that is gone. -/
theorem kept_more {k : Int} {ms : List Int} {bs : List Bool} {x y : Int} (hk : k = 1 ∨ k = 2) (hx : isS bs x = true) (hy : isS bs y = false) (h : prefersS k ms x y = true) : prefersS k (keptS k ms bs) x y = true := by
  have e : keptS k ms bs = ms.filter fun z => isS bs z := by unfold keptS; rw [if_pos hk]
  rw [e]
  have mx : x ∈ ms.filter (fun z => isS bs z) ↔ x ∈ ms := by rw [List.mem_filter]; simp [hx]
  have my : ¬ y ∈ ms.filter (fun z => isS bs z) := by rw [List.mem_filter]; simp [hy]
  unfold prefersS at *
  split at h
  · cases h
  rename_i h0
  rw [if_neg h0]
  rcases hk with rfl | rfl
  · rw [if_pos rfl] at h ⊢
    simp only [Bool.and_eq_true, Bool.or_eq_true, decide_eq_true_eq, place_mem, place_out, mx] at h ⊢
    exact ⟨h.1, .inl my⟩
  · rw [if_neg (show ¬ (2 : Int) = 1 by omega), if_pos rfl] at h ⊢
    simp only [Bool.and_eq_true, decide_eq_true_eq, place_mem, place_out, mx] at h ⊢
    exact ⟨h.1, my⟩

theorem ofT_each (f : List Int → List Int) (k : Int) (l : List Row) (x y : Nat) : ofT k (eachS f l) x y = ofT k (l.map fun r => (f r.1, r.2)) x y := by
  unfold eachS
  rw [ofT_sumRows]
  simp [ofT]
theorem ofT_map_zero {f : List Int → List Int} {k : Int} {l : List Row} {x y : Nat} (h : ∀ r ∈ l, prefersS k (f r.1) x y = false) : ofT k (l.map fun r => (f r.1, r.2)) x y = 0 := by
  induction l with
  | nil => simp [ofT]
  | cons a r ih =>
    have h1 := h a (List.mem_cons_self ..)
    have h2 := ih fun z hz => h z (List.mem_cons_of_mem _ hz)
    unfold ofT at *
    simp only [List.map_cons, List.sum_cons, h2, h1]
    simp
theorem ofT_map_same {f : List Int → List Int} {k : Int} {l : List Row} {x y : Nat} (h : ∀ r ∈ l, prefersS k (f r.1) x y = prefersS k r.1 x y) : ofT k (l.map fun r => (f r.1, r.2)) x y = ofT k l x y := by
  induction l with
  | nil => simp [ofT]
  | cons a r ih =>
    have h1 := h a (List.mem_cons_self ..)
    have h2 := ih fun z hz => h z (List.mem_cons_of_mem _ hz)
    unfold ofT at *
    simp only [List.map_cons, List.sum_cons, h2, h1]
theorem ofT_map_more {f : List Int → List Int} {k : Int} {l : List Row} {x y : Nat} (hp : Pos l) (h : ∀ r ∈ l, prefersS k r.1 x y = true → prefersS k (f r.1) x y = true) : ofT k l x y ≤ ofT k (l.map fun r => (f r.1, r.2)) x y := by
  induction l with
  | nil => simp [ofT]
  | cons a r ih =>
    have h0 := hp a (List.mem_cons_self ..)
    have h1 := h a (List.mem_cons_self ..)
    have h2 := ih (fun z hz => hp z (List.mem_cons_of_mem _ hz)) fun z hz => h z (List.mem_cons_of_mem _ hz)
    unfold ofT at *
    simp only [List.map_cons, List.sum_cons]
    by_cases e : prefersS k a.1 x y = true
    · rw [if_pos e, if_pos (h1 e)]; omega
    · rw [if_neg e]; split <;> omega

theorem sortedB_iff : ∀ {l : List Int}, sortedB l = true ↔ l.Pairwise (· ≤ ·)
  | [] => by simp [sortedB]
  | [a] => by simp [sortedB]
  | a :: b :: r => by
    have ih := sortedB_iff (l := b :: r)
    unfold sortedB
    rw [Bool.and_eq_true, decide_eq_true_eq, ih, List.pairwise_cons (a := a)]
    constructor
    · rintro ⟨h1, h2⟩
      refine ⟨fun x hx => ?_, h2⟩
      rcases List.mem_cons.1 hx with rfl | hx
      · exact h1
      · exact Int.le_trans h1 ((List.pairwise_cons.1 h2).1 x hx)
    · rintro ⟨h1, h2⟩
      exact ⟨h1 b (List.mem_cons_self ..), h2⟩

theorem kept_fine {k c : Int} {ms : List Int} (bs : List Bool) (hk : k = 1 ∨ k = 2) (h : bcheckS k ms c = 0) : bcheckS k (keptS k ms bs) c = 0 := by
  have e : keptS k ms bs = ms.filter fun z => isS bs z := by unfold keptS; rw [if_pos hk]
  rw [e]
  unfold bcheckS at *
  split at h
  · cases h
  rename_i h0
  rw [if_neg h0]
  split at h
  · rename_i hf
    rw [if_pos ?_]
    rcases hk with rfl | rfl
    · simp only [fineS, if_neg (show ¬ (1 : Int) = 3 by omega), if_neg (show ¬ (1 : Int) = 2 by omega), if_true, Bool.and_eq_true, List.all_eq_true, nodupB, decide_eq_true_eq] at hf ⊢
      exact ⟨fun x hx => hf.1 x (List.mem_filter.1 hx).1, hf.2.filter _⟩
    · simp only [fineS, if_neg (show ¬ (2 : Int) = 3 by omega), if_true, Bool.and_eq_true, List.all_eq_true, nodupB, decide_eq_true_eq, sortedB_iff] at hf ⊢
      exact ⟨⟨fun x hx => hf.1.1 x (List.mem_filter.1 hx).1, hf.1.2.filter _⟩, hf.2.filter _⟩
  · cases h

/-- What Keep leaves is a valid profile. -/
theorem kept_check {c k : Int} {l : List Row} (bs : List Bool) (hk : k = 1 ∨ k = 2) (h : checkS c k l = 0) : checkS c k (eachS (fun ms => keptS k ms bs) l) = 0 := by
  obtain ⟨h1, h2, h3, h4, h5, h6, h7, h8, h9⟩ := check_iff.1 h
  refine check_iff.2 ⟨?_, h2, h3, h4, h5, ?_, asc_sumRows asc_nil, pos_sumRows pos_nil (pos_map h8 (fun ms => keptS k ms bs)), fun x hx => ?_⟩
  · show (sumRows [] (l.map fun r => (keptS k r.1 bs, r.2))).length ≤ 64
    have := length_sumRows [] (l.map fun r => (keptS k r.1 bs, r.2))
    rw [List.length_map] at this
    simp only [List.length_nil] at this
    omega
  · unfold eachS
    rw [tot_sumRows, tot_map l (fun ms => keptS k ms bs)]
    have : totS [] = 0 := rfl
    omega
  · rcases mem_sumRows hx with hm | hm
    · simp at hm
    · rw [List.map_map] at hm
      obtain ⟨r, hr, e⟩ := List.mem_map.1 hm
      rw [← e]
      exact kept_fine bs hk (h9 r hr)

/-- The law in plain terms. -/
theorem kept_ofR {c k : Int} {l : List Row} (bs : List Bool) (hk : k = 1 ∨ k = 2) (h : checkS c k l = 0) {x y : Nat} (hx : (x : Int) < c) (hy : (y : Int) < c) :
    (isS bs x = false → ofR c k (eachS (fun ms => keptS k ms bs) l) x y = 0) ∧
    (isS bs x = true → isS bs y = true → ofR c k (eachS (fun ms => keptS k ms bs) l) x y = ofR c k l x y) ∧
    (isS bs x = true → isS bs y = false → ofR c k l x y ≤ ofR c k (eachS (fun ms => keptS k ms bs) l) x y) := by
  rw [ofR_eq (kept_check bs hk h), ofR_eq h, if_pos ⟨hx, hy⟩, if_pos ⟨hx, hy⟩, ofT_each]
  refine ⟨fun h1 => ofT_map_zero (f := fun ms => keptS k ms bs) fun r _ => kept_gone hk h1, fun h1 h2 => ofT_map_same (f := fun ms => keptS k ms bs) fun r _ => kept_same hk h1 h2, fun h1 h2 => ofT_map_more (f := fun ms => keptS k ms bs) (check_iff.1 h).2.2.2.2.2.2.2.1 fun r _ h3 => kept_more hk h1 h2 h3⟩
end Go.Proofs.Ytleniljhacnikaa
