/-
  The matrix of what Keep leaves. No program is named here.
  The matrix of a renamed profile. No program is named here.
  Profiles whose marks are turned one by one: what counts of them; keeping in plain terms. No program is named here.
  Renaming there and back, and renaming what is kept, in plain terms. No program is named here.
  The reference's ways of renaming a ballot: mark by mark, candidate by candidate. No program is named here.
  First preferences: who has how many ballots. No program is named here.
-/
import Derived.Test.YtolbceckbnifmaaGreatSpecA
import Derived.Test.YtolbceckbnifmaaGreatW9m
import Derived.Test.YtolbceckbnifmaaGreatW9o
namespace Go.Proofs.YtolbceckbnifmaaGreat

theorem placeS_ge : ∀ (l : List Int) (y j : Int), y ∈ l → j ≤ placeS l y j
  | [], _, _, h => by simp at h
  | b :: s, y, j, h => by
    unfold placeS
    split
    · omega
    · rename_i hne
      have := placeS_ge s y (j + 1) ((List.mem_cons.1 h).resolve_left fun e => hne e.symm)
      omega
theorem place_filter (p : Int → Bool) : ∀ (l : List Int) (x y k k' : Int), p x = true → p y = true → x ∈ l → y ∈ l → (placeS (l.filter p) x k < placeS (l.filter p) y k ↔ placeS l x k' < placeS l y k')
  | [], _, _, _, _, _, _, h, _ => by simp at h
  | a :: r, x, y, k, k', px, py, hx, hy => by
    by_cases e1 : a = x
    · subst e1
      rw [List.filter_cons_of_pos px]
      unfold placeS
      rw [if_pos rfl, if_pos rfl]
      by_cases e2 : a = y
      · rw [if_pos e2, if_pos e2]; omega
      · rw [if_neg e2, if_neg e2]
        have hyr := (List.mem_cons.1 hy).resolve_left fun e => e2 e.symm
        have h1 := placeS_ge r y (k' + 1) hyr
        have h2 := placeS_ge (r.filter p) y (k + 1) (List.mem_filter.2 ⟨hyr, py⟩)
        omega
    · have hxr := (List.mem_cons.1 hx).resolve_left fun e => e1 e.symm
      by_cases e2 : a = y
      · subst e2
        rw [List.filter_cons_of_pos py]
        unfold placeS
        rw [if_pos rfl, if_pos rfl, if_neg e1, if_neg e1]
        have h1 := placeS_ge r x (k' + 1) hxr
        have h2 := placeS_ge (r.filter p) x (k + 1) (List.mem_filter.2 ⟨hxr, px⟩)
        omega
      · have hyr := (List.mem_cons.1 hy).resolve_left fun e => e2 e.symm
        cases pa : p a with
        | true =>
          rw [List.filter_cons_of_pos pa]
          have ih := place_filter p r x y (k + 1) (k' + 1) px py hxr hyr
          unfold placeS
          rw [if_neg e1, if_neg e2, if_neg e1, if_neg e2]
          exact ih
        | false =>
          rw [List.filter_cons_of_neg (by simp [pa])]
          have ih := place_filter p r x y k (k' + 1) px py hxr hyr
          rw [ih]
          conv => rhs; unfold placeS
          rw [if_neg e1, if_neg e2]

theorem place_mem {l : List Int} {x : Int} : 0 ≤ placeS l x 0 ↔ x ∈ l := by
  have := placeS_neg (xs := l) (x := x) (Int.le_refl 0)
  constructor
  · intro h
    by_cases hx : x ∈ l
    · exact hx
    · have := this.2 hx; omega
  · exact placeS_nn
theorem place_out {l : List Int} {x : Int} : placeS l x 0 < 0 ↔ x ∉ l := placeS_neg (Int.le_refl 0)

/-- Two of those that are left: nothing has turned. -/
theorem kept_same {k : Int} {ms : List Int} {bs : List Bool} {x y : Int} (hk : k = 1 ∨ k = 2) (hx : isS bs x = true) (hy : isS bs y = true) : prefersS k (keptS k ms bs) x y = prefersS k ms x y := by
  have e : keptS k ms bs = ms.filter fun z => isS bs z := by unfold keptS; rw [if_pos hk]
  rw [e]
  have mx : x ∈ ms.filter (fun z => isS bs z) ↔ x ∈ ms := by rw [List.mem_filter]; simp [hx]
  have my : y ∈ ms.filter (fun z => isS bs z) ↔ y ∈ ms := by rw [List.mem_filter]; simp [hy]
  unfold prefersS
  split
  · rfl
  rcases hk with rfl | rfl
  · rw [if_pos rfl, if_pos rfl, Bool.eq_iff_iff]
    simp only [Bool.and_eq_true, Bool.or_eq_true, decide_eq_true_eq, place_mem, place_out, mx, my]
    constructor
    · rintro ⟨h1, h2⟩
      refine ⟨h1, ?_⟩
      by_cases hm : y ∈ ms
      · exact .inr ((place_filter _ ms x y 0 0 hx hy h1 hm).1 (h2.resolve_left fun h => h hm))
      · exact .inl hm
    · rintro ⟨h1, h2⟩
      refine ⟨h1, ?_⟩
      by_cases hm : y ∈ ms
      · exact .inr ((place_filter _ ms x y 0 0 hx hy h1 hm).2 (h2.resolve_left fun h => h hm))
      · exact .inl hm
  · rw [Bool.eq_iff_iff]
    simp only [if_neg (show ¬ (2 : Int) = 1 by omega), if_true, Bool.and_eq_true, decide_eq_true_eq, place_mem, place_out, mx, my]
/-- One that is gone is preferred to none. -/
theorem kept_gone {k : Int} {ms : List Int} {bs : List Bool} {x y : Int} (hk : k = 1 ∨ k = 2) (hx : isS bs x = false) : prefersS k (keptS k ms bs) x y = false := by
  have e : keptS k ms bs = ms.filter fun z => isS bs z := by unfold keptS; rw [if_pos hk]
  rw [e]
  have mx : ¬ 0 ≤ placeS (ms.filter (fun z => isS bs z)) x 0 := by rw [place_mem, List.mem_filter]; simp [hx]
  unfold prefersS
  split
  · rfl
  rcases hk with rfl | rfl
  · rw [if_pos rfl]; simp; omega
  · rw [if_neg (show ¬ (2 : Int) = 1 by omega), if_pos rfl]; simp; omega
/-- One that is left gains over one that is gone. -/
theorem kept_more {k : Int} {ms : List Int} {bs : List Bool} {x y : Int} (hk : k = 1 ∨ k = 2) (hx : isS bs x = true) (hy : isS bs y = false) (h : prefersS k ms x y = true) : prefersS k (keptS k ms bs) x y = true := by
  have e : keptS k ms bs = ms.filter fun z => isS bs z := by unfold keptS; rw [if_pos hk]
  rw [e]
  have mx : x ∈ ms.filter (fun z => isS bs z) ↔ x ∈ ms := by rw [List.mem_filter]; simp [hx]
  have my : ¬ y ∈ ms.filter (fun z => isS bs z) := by rw [List.mem_filter]; simp [hy]
  unfold prefersS at *
  split at h
  · cases h
  rename_i h0
  rw [if_neg h0]
  rcases hk with rfl | rfl
  · rw [if_pos rfl] at h ⊢
    simp only [Bool.and_eq_true, Bool.or_eq_true, decide_eq_true_eq, place_mem, place_out, mx] at h ⊢
    exact ⟨h.1, .inl my⟩
  · rw [if_neg (show ¬ (2 : Int) = 1 by omega), if_pos rfl] at h ⊢
    simp only [Bool.and_eq_true, decide_eq_true_eq, place_mem, place_out, mx] at h ⊢
    exact ⟨h.1, my⟩

theorem ofT_each (f : List Int → List Int) (k : Int) (l : List Row) (x y : Nat) : ofT k (eachS f l) x y = ofT k (l.map fun r => (f r.1, r.2)) x y := by
  unfold eachS
  rw [ofT_sumRows]
  simp [ofT]
theorem ofT_map_zero {f : List Int → List Int} {k : Int} {l : List Row} {x y : Nat} (h : ∀ r ∈ l, prefersS k (f r.1) x y = false) : ofT k (l.map fun r => (f r.1, r.2)) x y = 0 := by
  induction l with
  | nil => simp [ofT]
  | cons a r ih =>
    have h1 := h a (List.mem_cons_self ..)
    have h2 := ih fun z hz => h z (List.mem_cons_of_mem _ hz)
    unfold ofT at *
    simp only [List.map_cons, List.sum_cons, h2, h1]
    simp
theorem ofT_map_same {f : List Int → List Int} {k : Int} {l : List Row} {x y : Nat} (h : ∀ r ∈ l, prefersS k (f r.1) x y = prefersS k r.1 x y) : ofT k (l.map fun r => (f r.1, r.2)) x y = ofT k l x y := by
  induction l with
  | nil => simp [ofT]
  | cons a r ih =>
    have h1 := h a (List.mem_cons_self ..)
    have h2 := ih fun z hz => h z (List.mem_cons_of_mem _ hz)
    unfold ofT at *
    simp only [List.map_cons, List.sum_cons, h2, h1]
theorem ofT_map_more {f : List Int → List Int} {k : Int} {l : List Row} {x y : Nat} (hp : Pos l) (h : ∀ r ∈ l, prefersS k r.1 x y = true → prefersS k (f r.1) x y = true) : ofT k l x y ≤ ofT k (l.map fun r => (f r.1, r.2)) x y := by
  induction l with
  | nil => simp [ofT]
  | cons a r ih =>
    have h0 := hp a (List.mem_cons_self ..)
    have h1 := h a (List.mem_cons_self ..)
    have h2 := ih (fun z hz => hp z (List.mem_cons_of_mem _ hz)) fun z hz => h z (List.mem_cons_of_mem _ hz)
    unfold ofT at *
    simp only [List.map_cons, List.sum_cons]
    by_cases e : prefersS k a.1 x y = true
    · rw [if_pos e, if_pos (h1 e)]; omega
    · rw [if_neg e]; split <;> omega

theorem sortedB_iff : ∀ {l : List Int}, sortedB l = true ↔ l.Pairwise (· ≤ ·)
  | [] => by simp [sortedB]
  | [a] => by simp [sortedB]
  | a :: b :: r => by
    have ih := sortedB_iff (l := b :: r)
    unfold sortedB
    rw [Bool.and_eq_true, decide_eq_true_eq, ih, List.pairwise_cons (a := a)]
    constructor
    · rintro ⟨h1, h2⟩
      refine ⟨fun x hx => ?_, h2⟩
      rcases List.mem_cons.1 hx with rfl | hx
      · exact h1
      · exact Int.le_trans h1 ((List.pairwise_cons.1 h2).1 x hx)
    · rintro ⟨h1, h2⟩
      exact ⟨h1 b (List.mem_cons_self ..), h2⟩

theorem kept_fine {k c : Int} {ms : List Int} (bs : List Bool) (hk : k = 1 ∨ k = 2) (h : bcheckS k ms c = 0) : bcheckS k (keptS k ms bs) c = 0 := by
  have e : keptS k ms bs = ms.filter fun z => isS bs z := by unfold keptS; rw [if_pos hk]
  rw [e]
  unfold bcheckS at *
  split at h
  · cases h
  rename_i h0
  rw [if_neg h0]
  split at h
  · rename_i hf
    rw [if_pos ?_]
    rcases hk with rfl | rfl
    · simp only [fineS, if_neg (show ¬ (1 : Int) = 3 by omega), if_neg (show ¬ (1 : Int) = 2 by omega), if_true, Bool.and_eq_true, List.all_eq_true, nodupB, decide_eq_true_eq] at hf ⊢
      exact ⟨fun x hx => hf.1 x (List.mem_filter.1 hx).1, hf.2.filter _⟩
    · simp only [fineS, if_neg (show ¬ (2 : Int) = 3 by omega), if_true, Bool.and_eq_true, List.all_eq_true, nodupB, decide_eq_true_eq, sortedB_iff] at hf ⊢
      exact ⟨⟨fun x hx => hf.1.1 x (List.mem_filter.1 hx).1, hf.1.2.filter _⟩, hf.2.filter _⟩
  · cases h

/-- What Keep leaves is a valid profile. -/
theorem kept_check {c k : Int} {l : List Row} (bs : List Bool) (hk : k = 1 ∨ k = 2) (h : checkS c k l = 0) : checkS c k (eachS (fun ms => keptS k ms bs) l) = 0 := by
  obtain ⟨h1, h2, h3, h4, h5, h6, h7, h8, h9⟩ := check_iff.1 h
  refine check_iff.2 ⟨?_, h2, h3, h4, h5, ?_, asc_sumRows asc_nil, pos_sumRows pos_nil (pos_map h8 (fun ms => keptS k ms bs)), fun x hx => ?_⟩
  · show (sumRows [] (l.map fun r => (keptS k r.1 bs, r.2))).length ≤ 64
    have := length_sumRows [] (l.map fun r => (keptS k r.1 bs, r.2))
    rw [List.length_map] at this
    simp only [List.length_nil] at this
    omega
  · unfold eachS
    rw [tot_sumRows, tot_map l (fun ms => keptS k ms bs)]
    have : totS [] = 0 := rfl
    omega
  · rcases mem_sumRows hx with hm | hm
    · simp at hm
    · rw [List.map_map] at hm
      obtain ⟨r, hr, e⟩ := List.mem_map.1 hm
      rw [← e]
      exact kept_fine bs hk (h9 r hr)

/-- The law in plain terms. -/
theorem kept_ofR {c k : Int} {l : List Row} (bs : List Bool) (hk : k = 1 ∨ k = 2) (h : checkS c k l = 0) {x y : Nat} (hx : (x : Int) < c) (hy : (y : Int) < c) :
    (isS bs x = false → ofR c k (eachS (fun ms => keptS k ms bs) l) x y = 0) ∧
    (isS bs x = true → isS bs y = true → ofR c k (eachS (fun ms => keptS k ms bs) l) x y = ofR c k l x y) ∧
    (isS bs x = true → isS bs y = false → ofR c k l x y ≤ ofR c k (eachS (fun ms => keptS k ms bs) l) x y) := by
  rw [ofR_eq (kept_check bs hk h), ofR_eq h, if_pos ⟨hx, hy⟩, if_pos ⟨hx, hy⟩, ofT_each]
  refine ⟨fun h1 => ofT_map_zero (f := fun ms => keptS k ms bs) fun r _ => kept_gone hk h1, fun h1 h2 => ofT_map_same (f := fun ms => keptS k ms bs) fun r _ => kept_same hk h1 h2, fun h1 h2 => ofT_map_more (f := fun ms => keptS k ms bs) (check_iff.1 h).2.2.2.2.2.2.2.1 fun r _ h3 => kept_more hk h1 h2 h3⟩
end Go.Proofs.YtolbceckbnifmaaGreat

namespace Go.Proofs.YtolbceckbnifmaaGreat

def nameS (p : List Int) (x : Int) : Int := p.getD x.toNat 0

theorem partR_map {k : Int} (hk : k ≠ 3) (ms p : List Int) : partR k ms p ms.length = ms.map (nameS p) := by
  unfold partR
  rw [if_neg hk]
  apply List.ext_getElem?
  intro i
  by_cases hi : i < ms.length
  · simp only [List.getElem?_map, List.getElem?_range hi, Option.map_some, if_pos hi, List.getElem?_eq_getElem hi]
    simp [nameS, List.getD, hi]
  · rw [List.getElem?_eq_none (by simp; omega), List.getElem?_eq_none (by simp; omega)]
theorem place_map (f : Int → Int) (a : Int) : ∀ (l : List Int) (k : Int), (∀ x ∈ l, f x = f a → x = a) → placeS (l.map f) (f a) k = placeS l a k
  | [], _, _ => rfl
  | b :: r, k, h => by
    rw [List.map_cons]
    unfold placeS
    by_cases e : b = a
    · subst e; rw [if_pos rfl, if_pos rfl]
    · rw [if_neg (fun e' => e (h b (List.mem_cons_self ..) e')), if_neg e, place_map f a r (k + 1) fun x hx => h x (List.mem_cons_of_mem _ hx)]

/-- Names of the numbers below n, each once. -/
structure Names (p : List Int) (n : Nat) : Prop where
  len : p.length = n
  le : n ≤ 10
  one : 1 ≤ n
  nd : p.Nodup
  rng : ∀ x ∈ p, 0 ≤ x ∧ x < n
theorem names_of {p : List Int} {n : Nat} (h : turnedS p = true) (hl : p.length = n) : Names p n := by
  obtain ⟨h1, h2, h3⟩ := turned_iff.1 h
  obtain ⟨-, h4, -⟩ := turned_perm.1 h
  exact ⟨hl, by omega, by omega, h2, fun x hx => by have := h3 x hx; omega⟩
theorem Names.get {p : List Int} {n : Nat} (h : Names p n) {i : Nat} (hi : i < n) : p[i]? = some (nameS p i) := by
  have : i < p.length := by rw [h.len]; exact hi
  simp [nameS, List.getD, this]
theorem Names.inj {p : List Int} {n : Nat} (h : Names p n) {x y : Int} (hx : 0 ≤ x ∧ x < n) (hy : 0 ≤ y ∧ y < n) (e : nameS p x = nameS p y) : x = y := by
  have h1 := h.get (i := x.toNat) (by omega)
  have h2 := h.get (i := y.toNat) (by omega)
  rw [Int.toNat_of_nonneg hx.1] at h1
  rw [Int.toNat_of_nonneg hy.1] at h2
  have a1 := placeS_at h.nd h1
  have a2 := placeS_at h.nd h2
  rw [e, a2] at a1
  omega
theorem Names.name_in {p : List Int} {n : Nat} (h : Names p n) {x : Int} (hx : 0 ≤ x ∧ x < n) : 0 ≤ nameS p x ∧ nameS p x < n := by
  have h1 := h.get (i := x.toNat) (by omega)
  rw [Int.toNat_of_nonneg hx.1] at h1
  exact h.rng _ (List.mem_of_getElem? h1)

/-- Who is preferred to whom goes along with the names. -/
theorem ren_prefers {k : Int} {ms p : List Int} {n : Nat} (hN : Names p n) (hb : bcheckS k ms n = 0) {i j : Nat} (hi : i < n) (hj : j < n) :
    prefersS k (renS k ms p) (nameS p i) (nameS p j) = prefersS k ms i j := by
  have ni := hN.name_in (x := (i : Int)) (by omega)
  have nj := hN.name_in (x := (j : Int)) (by omega)
  have hf : fineS k ms n = true := by
    unfold bcheckS at hb
    split at hb
    · cases hb
    · split at hb
      · assumption
      · cases hb
  unfold prefersS
  rw [if_neg (show ¬ (nameS p i < 0 ∨ nameS p j < 0) by omega), if_neg (show ¬ ((i : Int) < 0 ∨ (j : Int) < 0) by omega)]
  by_cases h1 : k = 1
  · subst h1
    have hr : ∀ x ∈ ms, 0 ≤ x ∧ x < n := fun x hx => by
      obtain ⟨M, e, h⟩ := fine_mark hf (by omega) hx
      omega
    rw [if_pos rfl, if_pos rfl]
    have e : renS 1 ms p = ms.map (nameS p) := by unfold renS; rw [if_neg (by omega), partR_map (by omega)]
    rw [e, place_map _ _ _ _ (fun x hx h => hN.inj (hr x hx) (by omega) h), place_map _ _ _ _ (fun x hx h => hN.inj (hr x hx) (by omega) h)]
  · rw [if_neg h1, if_neg h1]
    by_cases h2 : k = 2
    · subst h2
      have hr : ∀ x ∈ ms, 0 ≤ x ∧ x < n := fun x hx => by
        obtain ⟨M, e, h⟩ := fine_mark hf (by omega) hx
        omega
      rw [if_pos rfl, if_pos rfl]
      have e : ∀ y, y ∈ renS 2 ms p ↔ y ∈ ms.map (nameS p) := fun y => by
        unfold renS
        rw [if_pos rfl, partR_map (by omega)]
        exact (List.mergeSort_perm _ _).mem_iff
      have em : ∀ z : Nat, z < n → (nameS p z ∈ renS 2 ms p ↔ (z : Int) ∈ ms) := fun z hz => by
        rw [e, List.mem_map]
        constructor
        · rintro ⟨x, hx, h⟩
          rw [← hN.inj (hr x hx) (by omega) h]; exact hx
        · intro h; exact ⟨_, h, rfl⟩
      rw [Bool.eq_iff_iff]
      simp only [Bool.and_eq_true, decide_eq_true_eq, place_mem, place_out, em i hi, em j hj]
    · rw [if_neg h2, if_neg h2]
      by_cases h3 : k = 3
      · subst h3
        rw [if_pos rfl, if_pos rfl]
        have hl : ms.length = n := by
          simp only [fineS, if_true, Bool.and_eq_true, decide_eq_true_eq] at hf
          omega
        have e : ∀ z : Nat, z < n → (renS 3 ms p).getD (nameS p z).toNat 0 = ms.getD z 0 := fun z hz => by
          have nz := hN.name_in (x := (z : Int)) (by omega)
          have hpl := placeS_at hN.nd (hN.get hz)
          have : (renS 3 ms p)[(nameS p z).toNat]? = some (ms.getD z 0) := by
            unfold renS partR
            rw [if_neg (by omega), if_pos rfl]
            simp only [List.getElem?_map, List.getElem?_range (show (nameS p z).toNat < ms.length by omega), Option.map_some]
            rw [Int.toNat_of_nonneg nz.1, hpl, if_pos (by omega), Int.toNat_natCast]
          simp [List.getD, this]
        rw [e i hi, e j hj, length_renS]
        simp only [Int.toNat_natCast]
        rw [show decide (nameS p i < (ms.length : Int)) = true by simp; omega, show decide (nameS p j < (ms.length : Int)) = true by simp; omega, show decide ((i : Int) < (ms.length : Int)) = true by simp; omega, show decide ((j : Int) < (ms.length : Int)) = true by simp; omega]
      · rw [if_neg h3, if_neg h3]

theorem nodup_map_names {p ms : List Int} {n : Nat} (hN : Names p n) (hr : ∀ x ∈ ms, 0 ≤ x ∧ x < n) (hn : ms.Nodup) : (ms.map (nameS p)).Nodup := by
  unfold List.Nodup at *
  rw [List.pairwise_map]
  exact hn.imp_of_mem fun ha hb h e => h (hN.inj (hr _ ha) (hr _ hb) e)
/-- A renamed ballot is valid. -/
theorem ren_fine {k : Int} {ms p : List Int} {n : Nat} (hN : Names p n) (hb : bcheckS k ms n = 0) : bcheckS k (renS k ms p) n = 0 := by
  unfold bcheckS at *
  split at hb
  · cases hb
  rename_i h0
  rw [if_neg h0]
  split at hb
  · rename_i hf
    rw [if_pos ?_]
    have hr : k ≠ 3 → ∀ x ∈ ms, 0 ≤ x ∧ x < n := fun hk x hx => by
      obtain ⟨M, e, h⟩ := fine_mark hf hk hx
      omega
    by_cases h3 : k = 3
    · subst h3
      simp only [fineS, if_true, Bool.and_eq_true, List.all_eq_true, decide_eq_true_eq] at hf ⊢
      refine ⟨fun x hx => ?_, by rw [length_renS]; exact hf.2⟩
      unfold renS partR at hx
      rw [if_neg (by omega), if_pos rfl] at hx
      obtain ⟨i, hi, rfl⟩ := List.mem_map.1 hx
      split
      · rename_i hp
        by_cases hin : (placeS p i 0).toNat < ms.length
        · exact hf.1 _ (by simp [List.getD, hin])
        · simp [List.getD, List.getElem?_eq_none (Nat.le_of_not_lt hin), inR]
      · simp [inR]
    · by_cases h2 : k = 2
      · subst h2
        have hpm := List.mergeSort_perm (partR 2 ms p ms.length) (fun a b => decide (a ≤ b))
        have hso := List.pairwise_mergeSort (le := fun a b : Int => decide (a ≤ b)) (by intro a b c; simp; omega) (by intro a b; simp; omega) (partR 2 ms p ms.length)
        have hm : partR 2 ms p ms.length = ms.map (nameS p) := partR_map (by omega) ms p
        simp only [fineS, if_neg (show ¬ (2 : Int) = 3 by omega), if_true, Bool.and_eq_true, List.all_eq_true, nodupB, decide_eq_true_eq, sortedB_iff] at hf ⊢
        unfold renS
        rw [if_pos rfl]
        refine ⟨⟨fun x hx => ?_, hso.imp fun h => by simpa using h⟩, hpm.nodup_iff.2 (by rw [hm]; exact nodup_map_names hN (hr (by omega)) hf.2)⟩
        have hx := hpm.mem_iff.1 hx
        rw [hm] at hx
        obtain ⟨y, hy, rfl⟩ := List.mem_map.1 hx
        exact inR_iff.2 (hN.name_in (hr (by omega) y hy))
      · by_cases h1 : k = 1
        · subst h1
          have hm : renS 1 ms p = ms.map (nameS p) := by unfold renS; rw [if_neg (by omega)]; exact partR_map (by omega) ms p
          rw [hm]
          simp only [fineS, if_neg (show ¬ (1 : Int) = 3 by omega), if_neg (show ¬ (1 : Int) = 2 by omega), if_true, Bool.and_eq_true, List.all_eq_true, nodupB, decide_eq_true_eq] at hf ⊢
          refine ⟨fun x hx => ?_, nodup_map_names hN (hr (by omega)) hf.2⟩
          obtain ⟨y, hy, rfl⟩ := List.mem_map.1 hx
          exact inR_iff.2 (hN.name_in (hr (by omega) y hy))
        · unfold fineS at hf
          rw [if_neg h3, if_neg h2, if_neg h1] at hf
          cases hf
  · cases hb
/-- A renamed profile is valid. -/
theorem ren_check {n : Nat} {k : Int} {l : List Row} {p : List Int} (hN : Names p n) (h : checkS n k l = 0) : checkS n k (eachS (fun ms => renS k ms p) l) = 0 := by
  obtain ⟨h1, h2, h3, h4, h5, h6, h7, h8, h9⟩ := check_iff.1 h
  refine check_iff.2 ⟨?_, h2, h3, h4, h5, ?_, asc_sumRows asc_nil, pos_sumRows pos_nil (pos_map h8 (fun ms => renS k ms p)), fun x hx => ?_⟩
  · show (sumRows [] (l.map fun r => (renS k r.1 p, r.2))).length ≤ 64
    have := length_sumRows [] (l.map fun r => (renS k r.1 p, r.2))
    rw [List.length_map] at this
    simp only [List.length_nil] at this
    omega
  · unfold eachS
    rw [tot_sumRows, tot_map l (fun ms => renS k ms p)]
    have : totS [] = 0 := rfl
    omega
  · rcases mem_sumRows hx with hm | hm
    · simp at hm
    · rw [List.map_map] at hm
      obtain ⟨r, hr, e⟩ := List.mem_map.1 hm
      rw [← e]
      exact ren_fine hN (h9 r hr)
theorem ofT_map_at {f : List Int → List Int} {k : Int} {l : List Row} {x y x' y' : Nat} (h : ∀ r ∈ l, prefersS k (f r.1) x' y' = prefersS k r.1 x y) : ofT k (l.map fun r => (f r.1, r.2)) x' y' = ofT k l x y := by
  induction l with
  | nil => simp [ofT]
  | cons a r ih =>
    have h1 := h a (List.mem_cons_self ..)
    have h2 := ih fun z hz => h z (List.mem_cons_of_mem _ hz)
    unfold ofT at *
    simp only [List.map_cons, List.sum_cons, h2, h1]
/-- The matrix goes along with the names. -/
theorem ren_ofR {n : Nat} {k : Int} {l : List Row} {p : List Int} (hN : Names p n) (h : checkS n k l = 0) {i j : Nat} (hi : i < n) (hj : j < n) :
    ofR n k (eachS (fun ms => renS k ms p) l) (nameS p i).toNat (nameS p j).toNat = ofR n k l i j := by
  have ni := hN.name_in (x := (i : Int)) (by omega)
  have nj := hN.name_in (x := (j : Int)) (by omega)
  rw [ofR_eq (ren_check hN h), ofR_eq h, if_pos (by omega), if_pos (by omega), ofT_each]
  refine ofT_map_at (f := fun ms => renS k ms p) fun r hr => ?_
  rw [Int.toNat_of_nonneg ni.1, Int.toNat_of_nonneg nj.1]
  exact ren_prefers hN ((check_iff.1 h).2.2.2.2.2.2.2.2 r hr) hi hj

theorem name_onto {q : List Int} {n : Nat} (ht : turnedS q = true) (hl : q.length = n) {a : Nat} (ha : a < n) : ∃ i, i < n ∧ q[i]? = some (a : Int) ∧ nameS q i = a := by
  have hp := (turned_perm.1 ht).2.2
  have : (a : Int) ∈ q := hp.subset (mem_rangeI.2 (by rw [hl]; omega))
  obtain ⟨i, hi⟩ := List.getElem?_of_mem this
  have hin : i < n := by rw [← hl]; exact (List.getElem?_eq_some_iff.1 hi).1
  refine ⟨i, hin, hi, ?_⟩
  have := (names_of ht hl).get hin
  rw [hi] at this
  exact (Option.some.inj this).symm
/-- What a renamed matrix is. -/
theorem renM_eq {m m' : M} {q : List Int} {n : Nat} (ht : turnedS q = true) (hl : q.length = n) (hr : rightS m n = true) (hz : ∀ a b : Nat, ¬ (a < n ∧ b < n) → m' a b = 0)
    (he : ∀ i j : Nat, i < n → j < n → m' (nameS q i).toNat (nameS q j).toNat = m i j) : renErr m q = 0 ∧ ∀ a b, renM m q a b = m' a b := by
  have hN := names_of ht hl
  have h0 : renErr m q = 0 := by unfold renErr; rw [if_pos ht, hl, if_pos hr]
  refine ⟨h0, fun a b => ?_⟩
  unfold renM
  rw [if_pos h0]
  unfold renA
  have out : ∀ a : Nat, ¬ a < n → ¬ idx q a < q.length := fun a ha h => by
    unfold idx at h
    have hm := List.idxOf_lt_length_iff.1 h
    have := hN.rng _ hm
    omega
  by_cases ha : a < n
  · by_cases hb : b < n
    · obtain ⟨i, hi, gi, ei⟩ := name_onto ht hl ha
      obtain ⟨j, hj, gj, ej⟩ := name_onto ht hl hb
      have xi := (idx_eq hN.nd gi a).2 rfl
      have xj := (idx_eq hN.nd gj b).2 rfl
      rw [xi, xj, hl, if_pos ⟨hi, hj⟩, ← he i j hi hj, ei, ej, Int.toNat_natCast, Int.toNat_natCast]
    · rw [if_neg (fun h => out b hb h.2), hz a b (by omega)]
  · rw [if_neg (fun h => out a ha h.1), hz a b (by omega)]
theorem ofR_out {n : Nat} {k : Int} {l : List Row} (h : checkS n k l = 0) (a b : Nat) (hab : ¬ (a < n ∧ b < n)) : ofR n k l a b = 0 := by
  rw [ofR_eq h, if_neg (by omega)]
/-- The renamed matrix is the renamed profile's. -/
theorem ren_there {n : Nat} {k : Int} {l : List Row} {p : List Int} (ht : turnedS p = true) (hl : p.length = n) (h : checkS n k l = 0) :
    renErr (ofR n k l) p = 0 ∧ ∀ a b, renM (ofR n k l) p a b = ofR n k (eachS (fun ms => renS k ms p) l) a b := by
  have hN := names_of ht hl
  have hle := hN.le
  exact renM_eq ht hl (ofR_right h (Int.le_refl _) (by omega)) (ofR_out (ren_check hN h)) fun i j hi hj => ren_ofR hN h hi hj
/-- The way back. -/
def backS (p : List Int) : List Int := (List.range p.length).map fun j : Nat => placeS p j 0
theorem back_name {p : List Int} {n : Nat} (ht : turnedS p = true) (hl : p.length = n) {i : Nat} (hi : i < n) : nameS (backS p) (nameS p i) = i := by
  have hN := names_of ht hl
  have ni := hN.name_in (x := (i : Int)) (by omega)
  have : (backS p)[(nameS p i).toNat]? = some (i : Int) := by
    unfold backS
    rw [List.getElem?_map, List.getElem?_range (by omega), Option.map_some, Int.toNat_of_nonneg ni.1, placeS_at hN.nd (hN.get hi)]
  show (backS p).getD (nameS p i).toNat 0 = _
  rw [List.getD_eq_getElem?_getD, this]
  rfl
theorem back_turned {p : List Int} {n : Nat} (ht : turnedS p = true) (hl : p.length = n) : turnedS (backS p) = true ∧ (backS p).length = n := by
  have hN := names_of ht hl
  have hlb : (backS p).length = n := by simp [backS, hl]
  refine ⟨?_, hlb⟩
  unfold turnedS
  rw [hlb]
  simp only [Bool.and_eq_true, decide_eq_true_eq, List.all_eq_true, List.mem_range]
  refine ⟨⟨hN.one, hN.le⟩, fun i hi => ?_⟩
  have ni := hN.name_in (x := (i : Int)) (by omega)
  have h1 := back_name ht hl hi
  have hlt : (nameS p i).toNat < (backS p).length := by omega
  rw [← h1]
  show (backS p).getD (nameS p i).toNat 0 ∈ _
  rw [List.getD_eq_getElem?_getD, List.getElem?_eq_getElem hlt]
  exact List.getElem_mem hlt
/-- Back again. -/
theorem ren_back {n : Nat} {k : Int} {l : List Row} {p : List Int} (ht : turnedS p = true) (hl : p.length = n) (h : checkS n k l = 0) :
    renErr (ofR n k (eachS (fun ms => renS k ms p) l)) (backS p) = 0 ∧ ∀ a b, renM (ofR n k (eachS (fun ms => renS k ms p) l)) (backS p) a b = ofR n k l a b := by
  have hN := names_of ht hl
  have hle := hN.le
  obtain ⟨hb, hlb⟩ := back_turned ht hl
  refine renM_eq hb hlb (ofR_right (ren_check hN h) (Int.le_refl _) (by omega)) (ofR_out h) fun i j hi hj => ?_
  obtain ⟨i0, hi0, -, ei⟩ := name_onto ht hl hi
  obtain ⟨j0, hj0, -, ej⟩ := name_onto ht hl hj
  have := ren_ofR hN h hi0 hj0
  rw [ei, ej, Int.toNat_natCast, Int.toNat_natCast] at this
  rw [this, ← ei, ← ej, back_name ht hl hi0, back_name ht hl hj0, Int.toNat_natCast, Int.toNat_natCast]

theorem names_perm {p : List Int} {n : Nat} (ht : turnedS p = true) (hl : p.length = n) : ((List.range n).map fun j : Nat => (nameS p j).toNat).Perm (List.range n) := by
  have hN := names_of ht hl
  refine perm_of_subset ?_ (fun a ha => ?_) (by simp)
  · unfold List.Nodup
    rw [List.pairwise_map]
    refine (List.nodup_range (n := n)).imp_of_mem fun {a b} ha hb h e => h ?_
    rw [List.mem_range] at ha hb
    have na := hN.name_in (x := (a : Int)) (by omega)
    have nb := hN.name_in (x := (b : Int)) (by omega)
    have := hN.inj (x := (a : Int)) (y := (b : Int)) (by omega) (by omega) (by omega)
    omega
  · obtain ⟨j, hj, rfl⟩ := List.mem_map.1 ha
    rw [List.mem_range] at hj ⊢
    have := hN.name_in (x := (j : Int)) (by omega)
    omega
/-- The wins go along with the names. -/
theorem wins_at {m m' : M} {p : List Int} {n : Nat} (ht : turnedS p = true) (hl : p.length = n) (he : ∀ i j : Nat, i < n → j < n → m' (nameS p i).toNat (nameS p j).toNat = m i j) {i : Nat} (hi : i < n) :
    winsOf m' n (nameS p i).toNat = winsOf m n i := by
  unfold winsOf
  rw [← ((names_perm ht hl).filter _).length_eq, List.filter_map, List.length_map]
  congr 1
  refine List.filter_congr fun j hj => ?_
  rw [List.mem_range] at hj
  simp only [Function.comp]
  rw [he j i hj hi, he i j hi hj]

theorem cntS_eq (m : M) (x : Nat) : ∀ Y, cntS m x Y = winsOf m Y x
  | 0 => by simp [cntS, winsOf]
  | Y + 1 => by
    unfold winsOf
    rw [List.range_succ, List.filter_append, List.length_append]
    have := cntS_eq m x Y
    unfold winsOf at this
    rw [cntS, this]
    by_cases h : m Y x < m x Y
    · simp [h]
    · simp [h]
theorem winM_get {m : M} {n : Nat} (hn : 1 ≤ n ∧ n ≤ 10) (hr : rightS m n = true) {i : Nat} (hi : i < n) : (winM m n)[i]? = some (winsOf m n i : Int) := by
  have h0 : winErr m n = 0 := by unfold winErr; rw [if_pos (by omega), if_pos hr]
  unfold winM
  rw [if_pos h0, Int.toNat_natCast]
  unfold winsL
  rw [List.getElem?_map, List.getElem?_range hi, Option.map_some, cntS_eq]

/-- The way back, as the law makes it. -/
theorem back_made {p : List Int} {n : Nat} (ht : turnedS p = true) (hl : p.length = n) : partR 3 (rangeI n) p n = backS p := by
  have hN := names_of ht hl
  unfold partR backS
  rw [if_pos rfl, length_rangeI, hl]
  refine List.map_congr_left fun j hj => ?_
  rw [List.mem_range] at hj
  obtain ⟨i, hi, gi, -⟩ := name_onto ht hl hj
  have hp := placeS_at hN.nd gi
  rw [hp, if_pos (by omega), Int.toNat_natCast]
  simp [List.getD, get_rangeI hi]
end Go.Proofs.YtolbceckbnifmaaGreat

namespace Go.Proofs.YtolbceckbnifmaaGreat

/-- The ballots whose marks φ takes. -/
def wsum (φ : List Int → Bool) (l : List Row) : Int := (l.map fun r => if φ r.1 = true then r.2 else 0).sum
theorem wsum_nil (φ : List Int → Bool) : wsum φ [] = 0 := rfl
theorem wsum_cons (φ : List Int → Bool) (a : Row) (r : List Row) : wsum φ (a :: r) = (if φ a.1 = true then a.2 else 0) + wsum φ r := by simp [wsum]
theorem wsum_putS (φ : List Int → Bool) (l : List Row) (m : List Int) (y : Int) : wsum φ (putS l m y) = wsum φ l + if φ m = true then y else 0 := by
  induction l with
  | nil => simp [putS, wsum]
  | cons a r ih =>
    unfold putS
    split
    · rw [wsum_cons, wsum_cons, ih]; omega
    · split
      · rename_i e
        rw [wsum_cons, wsum_cons, ← e]
        split <;> (try simp only) <;> omega
      · rw [wsum_cons]; (try simp only); omega
theorem wsum_sumRows (φ : List Int → Bool) (l L : List Row) : wsum φ (sumRows l L) = wsum φ l + wsum φ L := by
  unfold sumRows
  induction L generalizing l with
  | nil => simp [wsum]
  | cons a r ih => rw [List.foldl_cons, ih, wsum_putS, wsum_cons]; omega
theorem wsum_map (φ : List Int → Bool) (f : List Int → List Int) (l : List Row) : wsum φ (l.map fun r => (f r.1, r.2)) = wsum (fun k => φ (f k)) l := by
  unfold wsum; rw [List.map_map]; rfl
theorem wsum_each (φ : List Int → Bool) (f : List Int → List Int) (l : List Row) : wsum φ (eachS f l) = wsum (fun k => φ (f k)) l := by
  unfold eachS; rw [wsum_sumRows, wsum_map, wsum_nil]; omega
theorem wsum_congr {φ ψ : List Int → Bool} {l : List Row} (h : ∀ r ∈ l, φ r.1 = ψ r.1) : wsum φ l = wsum ψ l := by
  induction l with
  | nil => rfl
  | cons a r ih => rw [wsum_cons, wsum_cons, h a (List.mem_cons_self ..), ih (fun x hx => h x (List.mem_cons_of_mem _ hx))]
theorem wsum_zero {φ : List Int → Bool} {l : List Row} (h : ∀ r ∈ l, φ r.1 = false) : wsum φ l = 0 := by
  induction l with
  | nil => rfl
  | cons a r ih => rw [wsum_cons, h a (List.mem_cons_self ..), ih (fun x hx => h x (List.mem_cons_of_mem _ hx))]; rfl
theorem cntR_wsum {l : List Row} (h : Asc l) (m : List Int) : cntR l m = wsum (fun k => decide (k = m)) l := by
  induction l with
  | nil => rfl
  | cons a r ih =>
    obtain ⟨h1, h2⟩ := List.pairwise_cons.1 h
    rw [wsum_cons, ← ih h2, cntR]
    by_cases e : a.1 = m
    · subst e
      rw [if_pos rfl, if_pos (by simp), cntR_lt h2 h1]; omega
    · rw [if_neg e, if_neg (by simpa using e)]; omega

theorem asc_each (f : List Int → List Int) (l : List Row) : Asc (eachS f l) := asc_sumRows asc_nil
theorem pos_each {f : List Int → List Int} {l : List Row} (h : Pos l) : Pos (eachS f l) := pos_sumRows pos_nil (pos_map h f)
theorem tot_each (f : List Int → List Int) (l : List Row) : totS (eachS f l) = totS l := by
  unfold eachS; rw [tot_sumRows, tot_map]; simp [totS]
theorem cntR_each (f : List Int → List Int) (l : List Row) (m : List Int) : cntR (eachS f l) m = wsum (fun k => decide (f k = m)) l := by
  rw [cntR_wsum (asc_each f l), wsum_each]
/-- Turned once more. -/
theorem each_each (f g : List Int → List Int) {l : List Row} (h : Pos l) : eachS f (eachS g l) = eachS (fun ms => f (g ms)) l :=
  rows_ext (asc_each _ _) (asc_each _ _) (pos_each (pos_each h)) (pos_each h) fun m => by rw [cntR_each, wsum_each, cntR_each]
theorem each_congr {f g : List Int → List Int} {l : List Row} (h : ∀ r ∈ l, f r.1 = g r.1) : eachS f l = eachS g l := by
  unfold eachS
  congr 1
  exact List.map_congr_left fun r hr => by rw [h r hr]
/-- Nothing turned. -/
theorem each_same {f : List Int → List Int} {l : List Row} (ha : Asc l) (hp : Pos l) (h : ∀ r ∈ l, f r.1 = r.1) : eachS f l = l :=
  rows_ext (asc_each _ _) ha (pos_each hp) hp fun m => by rw [cntR_each, cntR_wsum ha]; exact wsum_congr fun r hr => by rw [h r hr]
theorem mem_each {f : List Int → List Int} {l : List Row} {x : Row} (h : x ∈ eachS f l) : ∃ r ∈ l, x.1 = f r.1 := by
  rcases mem_sumRows h with h | h
  · simp at h
  · rw [List.map_map] at h
    obtain ⟨r, hr, e⟩ := List.mem_map.1 h
    exact ⟨r, hr, e.symm⟩
theorem length_each (f : List Int → List Int) (l : List Row) : (eachS f l).length ≤ l.length := by
  have := length_sumRows [] (l.map fun r => (f r.1, r.2))
  rw [List.length_map] at this
  simpa [eachS] using this
/-- Valid marks for valid marks: a valid profile. -/
theorem each_check {f : List Int → List Int} {c k : Int} {l : List Row} (h : checkS c k l = 0) (hf : ∀ ms, bcheckS k ms c = 0 → bcheckS k (f ms) c = 0) : checkS c k (eachS f l) = 0 := by
  obtain ⟨h1, h2, h3, h4, h5, h6, h7, h8, h9⟩ := check_iff.1 h
  refine check_iff.2 ⟨Nat.le_trans (length_each f l) h1, h2, h3, h4, h5, by rw [tot_each]; exact h6, asc_each f l, pos_each h8, fun x hx => ?_⟩
  obtain ⟨r, hr, e⟩ := mem_each hx
  rw [e]; exact hf _ (h9 r hr)

theorem kept_fine' {k c : Int} {ms : List Int} (bs : List Bool) (h : bcheckS k ms c = 0) : bcheckS k (keptS k ms bs) c = 0 := by
  by_cases hk : k = 1 ∨ k = 2
  · exact kept_fine bs hk h
  · by_cases hk3 : k = 3
    · subst hk3
      unfold bcheckS at h ⊢
      split at h
      · cases h
      rename_i hc
      rw [if_neg hc]
      split at h
      · rename_i hf
        rw [if_pos]
        unfold fineS at hf ⊢
        rw [if_pos rfl] at hf ⊢
        simp only [Bool.and_eq_true, List.all_eq_true, decide_eq_true_eq] at hf ⊢
        unfold keptS
        rw [if_neg (by omega), if_pos rfl]
        refine ⟨fun x hx => ?_, by rw [List.length_map, List.length_range]; exact hf.2⟩
        obtain ⟨i, hi, rfl⟩ := List.mem_map.1 hx
        split
        · have hi' := List.mem_range.1 hi
          have : ms.getD i 0 = ms[i] := by simp [List.getD, hi']
          rw [this]; exact hf.1 _ (List.getElem_mem hi')
        · rfl
      · cases h
    · unfold bcheckS at h
      split at h
      · cases h
      · have : fineS k ms c = false := by unfold fineS; rw [if_neg hk3, if_neg (by omega), if_neg (by omega)]
        rw [this] at h
        simp at h
theorem kept_check' {c k : Int} {l : List Row} (bs : List Bool) (h : checkS c k l = 0) : checkS c k (eachS (fun ms => keptS k ms bs) l) = 0 := each_check h fun _ hm => kept_fine' bs hm

/-- Both of two sets. -/
def bothB (one two : List Bool) (t : Nat) : List Bool := (List.range (min one.length two.length)).map fun i : Nat => decide (i < t) && (one.getD i false && two.getD i false)
theorem length_bothB (one two : List Bool) (t : Nat) : (bothB one two t).length = min one.length two.length := by simp [bothB]
theorem bothB_zero (one two : List Bool) : bothB one two 0 = List.replicate (min one.length two.length) false := by
  unfold bothB
  apply List.ext_getElem?
  intro i
  rw [List.getElem?_map, List.getElem?_replicate]
  by_cases h : i < min one.length two.length
  · rw [List.getElem?_range h, if_pos h]; simp
  · rw [List.getElem?_eq_none (by simpa using h), if_neg h]; rfl
theorem bothB_succ {one two : List Bool} {t : Nat} (ht : t < min one.length two.length) : bothB one two (t + 1) = (bothB one two t).set t (one.getD t false && two.getD t false) := by
  apply List.ext_getElem?
  intro i
  by_cases h : i = t
  · subst h
    rw [List.getElem?_set_self (by rw [length_bothB]; exact ht)]
    unfold bothB
    rw [List.getElem?_map, List.getElem?_range ht]
    simp
  · rw [List.getElem?_set_ne (Ne.symm h)]
    unfold bothB
    rw [List.getElem?_map, List.getElem?_map]
    by_cases hi : i < min one.length two.length
    · rw [List.getElem?_range hi]
      simp only [Option.map_some]
      by_cases e : i < t
      · simp [e, show i < t + 1 by omega]
      · simp [e, show ¬ i < t + 1 by omega]
    · rw [List.getElem?_eq_none (by simpa using hi)]; rfl
theorem isS_both (one two : List Bool) (x : Int) : isS (bothB one two (min one.length two.length)) x = (isS one x && isS two x) := by
  unfold isS
  rw [length_bothB]
  by_cases h0 : 0 ≤ x
  · obtain ⟨n, rfl⟩ : ∃ n : Nat, x = n := ⟨x.toNat, by omega⟩
    by_cases h : n < min one.length two.length
    · have h1 : inR 0 one.length n = true := inR_iff.2 (by omega)
      have h2 : inR 0 two.length n = true := inR_iff.2 (by omega)
      have h3 : inR 0 ((min one.length two.length : Nat) : Int) n = true := inR_iff.2 (by omega)
      rw [h1, h2, h3]
      unfold bothB
      rw [Int.toNat_natCast, List.getD_eq_getElem?_getD, List.getElem?_map, List.getElem?_range h]
      simp [h]
    · have h3 : inR 0 ((min one.length two.length : Nat) : Int) n = false := by
        rw [← Bool.not_eq_true, inR_iff]; omega
      rw [h3]
      by_cases ho : n < one.length
      · have h2 : inR 0 two.length n = false := by rw [← Bool.not_eq_true, inR_iff]; omega
        rw [h2]; simp
      · have h1 : inR 0 one.length n = false := by rw [← Bool.not_eq_true, inR_iff]; omega
        rw [h1]; simp
  · have hn : ∀ m : Int, inR 0 m x = false := fun m => by rw [← Bool.not_eq_true, inR_iff]; omega
    simp [hn]
/-- Kept twice is kept in both. -/
theorem kept_kept (k : Int) (ms : List Int) {one two both : List Bool} (hb : ∀ x, isS both x = (isS one x && isS two x)) : keptS k (keptS k ms one) two = keptS k ms both := by
  unfold keptS
  by_cases hk : k = 1 ∨ k = 2
  · rw [if_pos hk, if_pos hk, if_pos hk, List.filter_filter]
    congr 1
    funext x
    rw [hb x, Bool.and_comm]
  · rw [if_neg hk, if_neg hk, if_neg hk]
    by_cases h3 : k = 3
    · rw [if_pos h3, if_pos h3, if_pos h3, List.length_map, List.length_range]
      refine List.map_congr_left fun i hi => ?_
      have hi' := List.mem_range.1 hi
      rw [hb i, List.getD_eq_getElem?_getD (l := List.map _ _), List.getElem?_map, List.getElem?_range hi']
      simp only [Option.map_some, Option.getD_some]
      cases isS one i <;> cases isS two i <;> simp
    · rw [if_neg h3, if_neg h3, if_neg h3]
theorem isS_all {n : Nat} {x : Int} (h : 0 ≤ x ∧ x < n) : isS (List.replicate n true) x = true := by
  unfold isS
  rw [List.length_replicate, inR_iff.2 h, List.getD_eq_getElem?_getD, List.getElem?_replicate, if_pos (by omega)]; rfl
/-- All kept: nothing turned. -/
theorem kept_all {k : Int} {n : Nat} {ms : List Int} (h : bcheckS k ms n = 0) : keptS k ms (List.replicate n true) = ms := by
  unfold bcheckS at h
  split at h
  · cases h
  split at h
  · rename_i hf
    unfold fineS at hf
    unfold keptS
    by_cases h3 : k = 3
    · rw [if_pos h3] at hf
      rw [if_neg (by omega), if_pos h3]
      simp only [Bool.and_eq_true, decide_eq_true_eq] at hf
      apply List.ext_getElem?
      intro i
      rw [List.getElem?_map]
      by_cases hi : i < ms.length
      · rw [List.getElem?_range hi, List.getElem?_eq_getElem hi]
        simp only [Option.map_some]
        rw [isS_all (by omega)]
        simp [List.getD, hi]
      · rw [List.getElem?_eq_none (by simpa using hi), List.getElem?_eq_none (by omega)]; rfl
    · rw [if_neg h3] at hf
      have hr : (k = 1 ∨ k = 2) ∧ ∀ x ∈ ms, inR 0 n x = true := by
        split at hf
        · rename_i h2
          simp only [Bool.and_eq_true, List.all_eq_true] at hf
          exact ⟨.inr h2, hf.1.1⟩
        · split at hf
          · rename_i h1
            simp only [Bool.and_eq_true, List.all_eq_true] at hf
            exact ⟨.inl h1, hf.1⟩
          · cases hf
      rw [if_pos hr.1, List.filter_eq_self]
      exact fun x hx => isS_all (inR_iff.1 (hr.2 x hx))
  · cases h
end Go.Proofs.YtolbceckbnifmaaGreat

namespace Go.Proofs.YtolbceckbnifmaaGreat

theorem renS_ne {k : Int} (hk : k ≠ 3) (h2 : k ≠ 2) (ms p : List Int) : renS k ms p = ms.map (nameS p) := by
  unfold renS; rw [if_neg h2, partR_map hk]
theorem renS_two_perm (ms p : List Int) : (renS 2 ms p).Perm (ms.map (nameS p)) := by
  unfold renS
  rw [if_pos rfl, partR_map (by omega)]
  exact List.mergeSort_perm _ _
theorem renS_two_sorted (ms p : List Int) : (renS 2 ms p).Pairwise (· ≤ ·) := by
  unfold renS
  rw [if_pos rfl]
  exact (List.pairwise_mergeSort (le := fun a b : Int => decide (a ≤ b)) (by intro a b c; simp; omega) (by intro a b; simp; omega) (partR 2 ms p ms.length)).imp fun h => by simpa using h
theorem renS_two_eq {ms p ys : List Int} (hp : ys.Perm (ms.map (nameS p))) (hs : ys.Pairwise (· ≤ ·)) : ys = renS 2 ms p :=
  renS_sorted (by rw [partR_map (by omega)]; exact hp) hs
theorem renS_three (ms p : List Int) {i : Nat} (hi : i < ms.length) : (renS 3 ms p)[i]? = some (if placeS p i 0 < ms.length ∧ 0 ≤ placeS p i 0 then ms.getD (placeS p i 0).toNat 0 else 0) := by
  unfold renS partR
  rw [if_neg (by omega), if_pos rfl, List.getElem?_map, List.getElem?_range hi]; rfl

/-- Marks of the first two kinds are names; of the third, as many as there are candidates. -/
theorem marks_of {k : Int} {ms : List Int} {n : Nat} (h : bcheckS k ms n = 0) : (k = 1 ∨ k = 2 ∨ k = 3) ∧ (k ≠ 3 → ∀ x ∈ ms, 0 ≤ x ∧ x < n) ∧ (k = 3 → ms.length = n) ∧ (k = 2 → ms.Pairwise (· ≤ ·)) := by
  unfold bcheckS at h
  split at h
  · cases h
  split at h
  · rename_i hf
    unfold fineS at hf
    split at hf
    · rename_i h3
      simp only [Bool.and_eq_true, decide_eq_true_eq] at hf
      exact ⟨.inr (.inr h3), fun e => absurd h3 e, fun _ => by omega, fun e => by omega⟩
    · rename_i h3
      split at hf
      · rename_i h2
        simp only [Bool.and_eq_true, List.all_eq_true] at hf
        exact ⟨.inr (.inl h2), fun _ x hx => inR_iff.1 (hf.1.1 x hx), fun e => absurd e h3, fun _ => sortedB_iff.1 hf.1.2⟩
      · split at hf
        · rename_i h2 h1
          simp only [Bool.and_eq_true, List.all_eq_true] at hf
          exact ⟨.inl h1, fun _ x hx => inR_iff.1 (hf.1 x hx), fun e => absurd e h3, fun e => absurd e h2⟩
        · cases hf
  · cases h

theorem back_map {p ms : List Int} {n : Nat} (ht : turnedS p = true) (hl : p.length = n) (hr : ∀ x ∈ ms, 0 ≤ x ∧ x < n) : (ms.map (nameS p)).map (nameS (backS p)) = ms := by
  rw [List.map_map]
  conv => rhs; rw [← List.map_id ms]
  refine List.map_congr_left fun x hx => ?_
  have hx' := hr x hx
  obtain ⟨i, rfl⟩ : ∃ i : Nat, x = i := ⟨x.toNat, by omega⟩
  exact back_name ht hl (by omega)
theorem place_back {p : List Int} {n : Nat} (ht : turnedS p = true) (hl : p.length = n) {i : Nat} (hi : i < n) : placeS (backS p) i 0 = nameS p i := by
  have hN := names_of ht hl
  obtain ⟨hb, hlb⟩ := back_turned ht hl
  have hNb := names_of hb hlb
  have ni := hN.name_in (x := (i : Int)) (by omega)
  have h1 := hNb.get (i := (nameS p i).toNat) (by omega)
  rw [Int.toNat_of_nonneg ni.1, back_name ht hl hi] at h1
  rw [placeS_at hNb.nd h1]
  omega
theorem place_name {p : List Int} {n : Nat} (hN : Names p n) {i : Nat} (hi : i < n) : placeS p (nameS p i) 0 = i := placeS_at hN.nd (hN.get hi)

/-- A ballot renamed, and renamed back. -/
theorem ren_ren {k : Int} {ms p : List Int} {n : Nat} (ht : turnedS p = true) (hl : p.length = n) (h : bcheckS k ms n = 0) : renS k (renS k ms p) (backS p) = ms := by
  obtain ⟨hk, hr, h3, hs⟩ := marks_of h
  have hN := names_of ht hl
  rcases hk with rfl | rfl | rfl
  · rw [renS_ne (by omega) (by omega), renS_ne (by omega) (by omega), back_map ht hl (hr (by omega))]
  · refine (renS_two_eq ?_ (hs rfl)).symm
    have := (renS_two_perm ms p).map (nameS (backS p))
    rw [back_map ht hl (hr (by omega))] at this
    exact this.symm
  · have hm := h3 rfl
    have hlr := length_renS 3 ms p
    apply List.ext_getElem?
    intro i
    by_cases hi : i < n
    · have ni := hN.name_in (x := (i : Int)) (by omega)
      obtain ⟨j, hj⟩ : ∃ j : Nat, nameS p i = j := ⟨(nameS p i).toNat, by omega⟩
      rw [renS_three _ _ (by omega), place_back ht hl hi, if_pos (by omega), hj, Int.toNat_natCast, List.getD_eq_getElem?_getD, renS_three _ _ (by omega), ← hj, place_name hN hi, if_pos (by omega), Int.toNat_natCast]
      simp [List.getD, show i < ms.length by omega]
    · rw [List.getElem?_eq_none (by rw [length_renS, hlr]; omega), List.getElem?_eq_none (by omega)]

/-- Which names are left, after t of them have been put. -/
def movB (left : List Bool) (p : List Int) (t : Nat) : List Bool := (List.range p.length).map fun i : Nat => decide (placeS p i 0 < t ∧ 0 ≤ placeS p i 0) && left.getD (placeS p i 0).toNat false
theorem length_movB (left : List Bool) (p : List Int) (t : Nat) : (movB left p t).length = p.length := by simp [movB]
theorem movB_zero (left : List Bool) (p : List Int) : movB left p 0 = List.replicate p.length false := by
  unfold movB
  refine List.ext_getElem (by simp) fun i h1 h2 => ?_
  simp
  intro h; omega
theorem movB_point {left : List Bool} {p : List Int} {t : Nat} {v : Int} (hn : p.Nodup) (hv : p[t]? = some v) (h0 : 0 ≤ v) : movB left p (t + 1) = (movB left p t).set v.toNat (left.getD t false) := by
  have hpl := placeS_at hn hv
  unfold movB
  apply List.ext_getElem?
  intro i
  by_cases hi : i < p.length
  · by_cases e : v.toNat = i
    · rw [e, List.getElem?_set_self (by simpa using hi)]
      simp only [List.getElem?_map, List.getElem?_range hi, Option.map_some]
      rw [show (i : Int) = v by omega, hpl]
      simp
      omega
    · rw [List.getElem?_set_ne e]
      simp only [List.getElem?_map, List.getElem?_range hi, Option.map_some]
      have hne : placeS p i 0 ≠ t := fun h => by
        have hin : (i : Int) ∈ p := by
          by_cases hmem : (i : Int) ∈ p
          · exact hmem
          · have := (placeS_neg (xs := p) (x := (i : Int)) (Int.le_refl 0)).2 hmem; omega
        have := placeS_inj (xs := p) (x := (i : Int)) (y := v) (k := 0) (by omega) hin (by rw [h, hpl])
        omega
      have : (placeS p i 0 < ((t + 1 : Nat) : Int) ∧ 0 ≤ placeS p i 0) ↔ (placeS p i 0 < (t : Int) ∧ 0 ≤ placeS p i 0) := by omega
      simp only [this]
  · rw [List.getElem?_eq_none (by simp; omega), List.getElem?_eq_none (by simp; omega)]
theorem isS_getD (bs : List Bool) (i : Nat) : isS bs i = bs.getD i false := by
  unfold isS
  by_cases h : i < bs.length
  · rw [inR_iff.2 (by omega)]; simp
  · have : inR 0 bs.length i = false := by rw [← Bool.not_eq_true, inR_iff]; omega
    simp [this, List.getD, List.getElem?_eq_none (Nat.le_of_not_lt h)]
theorem isS_mov {left : List Bool} {p : List Int} {n : Nat} (hN : Names p n) {i : Nat} (hi : i < n) : isS (movB left p n) (nameS p i) = isS left i := by
  have ni := hN.name_in (x := (i : Int)) (by omega)
  obtain ⟨j, hj⟩ : ∃ j : Nat, nameS p i = j := ⟨(nameS p i).toNat, by omega⟩
  have hpl := place_name hN hi
  rw [hj] at hpl ⊢
  rw [isS_getD, isS_getD, List.getD_eq_getElem?_getD]
  unfold movB
  rw [List.getElem?_map, List.getElem?_range (by rw [hN.len]; omega), Option.map_some, hpl]
  simp
  intro h; omega
/-- What is kept, renamed, is the renamed, kept by its names. -/
theorem kept_ren {k : Int} {ms p : List Int} {n : Nat} {left : List Bool} (ht : turnedS p = true) (hl : p.length = n) (h : bcheckS k ms n = 0) :
    keptS k (renS k ms p) (movB left p n) = renS k (keptS k ms left) p := by
  obtain ⟨hk, hr, h3, hs⟩ := marks_of h
  have hN := names_of ht hl
  have hfil : ∀ xs : List Int, (∀ x ∈ xs, 0 ≤ x ∧ x < n) → (xs.map (nameS p)).filter (fun x => isS (movB left p n) x) = (xs.filter fun x => isS left x).map (nameS p) := fun xs hx => by
    rw [List.filter_map]
    congr 1
    refine List.filter_congr fun x hxx => ?_
    have hx' := hx x hxx
    obtain ⟨i, rfl⟩ : ∃ i : Nat, x = i := ⟨x.toNat, by omega⟩
    exact isS_mov hN (by omega)
  rcases hk with rfl | rfl | rfl
  · have e1 : ∀ ms bs, keptS 1 ms bs = ms.filter fun x => isS bs x := fun ms bs => by unfold keptS; rw [if_pos (.inl rfl)]
    rw [renS_ne (by omega) (by omega), renS_ne (by omega) (by omega), e1, e1]
    exact hfil ms (hr (by omega))
  · have e1 : ∀ ms bs, keptS 2 ms bs = ms.filter fun x => isS bs x := fun ms bs => by unfold keptS; rw [if_pos (.inr rfl)]
    rw [e1, e1]
    refine renS_two_eq ?_ ((renS_two_sorted ms p).filter _)
    have := (renS_two_perm ms p).filter (fun x => isS (movB left p n) x)
    rw [hfil ms (hr (by omega))] at this
    exact this
  · have hm := h3 rfl
    have e1 : ∀ ms bs, keptS 3 ms bs = (List.range ms.length).map fun i : Nat => if isS bs i = true then ms.getD i 0 else 0 := fun ms bs => by unfold keptS; rw [if_neg (by omega), if_pos rfl]
    have hlk : (keptS 3 ms left).length = n := by rw [e1]; simp [hm]
    apply List.ext_getElem?
    intro i
    by_cases hi : i < n
    · obtain ⟨j, hj, hgj, hnj⟩ := name_onto ht hl hi
      have hpl : placeS p i 0 = j := by rw [← hnj]; exact place_name hN hj
      have a1 : isS (movB left p n) (i : Int) = isS left j := by rw [← hnj]; exact isS_mov hN hj
      have a2 : (renS 3 ms p).getD i 0 = ms.getD j 0 := by rw [List.getD_eq_getElem?_getD, renS_three _ _ (by omega), hpl, if_pos (by omega), Int.toNat_natCast]; rfl
      have a3 : (keptS 3 ms left).getD j 0 = if isS left j = true then ms.getD j 0 else 0 := by rw [e1, List.getD_eq_getElem?_getD, List.getElem?_map, List.getElem?_range (by omega)]; rfl
      have a4 : (renS 3 (keptS 3 ms left) p)[i]? = some (if isS left j = true then ms.getD j 0 else 0) := by rw [renS_three _ _ (by omega), hpl, if_pos (by omega), Int.toNat_natCast, a3]
      rw [e1 (renS 3 ms p) (movB left p n), List.getElem?_map, List.getElem?_range (by rw [length_renS]; omega), Option.map_some, a1, a2, a4]
    · rw [List.getElem?_eq_none (by rw [e1, List.length_map, List.length_range, length_renS]; omega), List.getElem?_eq_none (by rw [length_renS]; omega)]

theorem names_law {n : Nat} {k : Int} {l : List Row} {p : List Int} (left : List Bool) (ht : turnedS p = true) (hl : p.length = n) (h : checkS n k l = 0) :
    checkS n k (eachS (fun ms => renS k ms p) l) = 0 ∧ eachS (fun ms => renS k ms (backS p)) (eachS (fun ms => renS k ms p) l) = l ∧ totS (eachS (fun ms => renS k ms p) l) = totS l ∧
      turnP (fun ms => keptS k ms left) n k l = ⟨0, n, k, eachS (fun ms => keptS k ms left) l⟩ ∧ checkS n k (eachS (fun ms => keptS k ms left) l) = 0 ∧
      turnP (fun ms => keptS k ms (movB left p n)) n k (eachS (fun ms => renS k ms p) l) = ⟨0, n, k, eachS (fun ms => renS k ms p) (eachS (fun ms => keptS k ms left) l)⟩ := by
  have hN := names_of ht hl
  obtain ⟨h1, h2, h3, h4, h5, h6, h7, h8, h9⟩ := check_iff.1 h
  have hc := ren_check hN h
  refine ⟨hc, ?_, tot_each _ _, ?_, kept_check' left h, ?_⟩
  · rw [each_each _ _ h8]
    exact each_same h7 h8 fun r hr => ren_ren ht hl (h9 r hr)
  · unfold turnP; rw [if_pos h]
  · unfold turnP
    rw [if_pos hc, each_each _ _ h8, each_each _ _ h8]
    rw [each_congr (f := fun ms => keptS k (renS k ms p) (movB left p n)) (g := fun ms => renS k (keptS k ms left) p) fun r hr => kept_ren ht hl (h9 r hr)]
end Go.Proofs.YtolbceckbnifmaaGreat

namespace Go.Proofs.YtolbceckbnifmaaGreat

def rankT (ms p : List Int) (t : Nat) : List Int := (ms.take t).map (nameS p)
def setT (ms p : List Int) (t : Nat) : List Int := (rangeI t).filter fun c => decide (0 ≤ placeS ms (placeS p c 0) 0)
def scoreT (ms p : List Int) (t : Nat) : List Int := (rangeI t).map fun c => ms.getD (placeS p c 0).toNat 0

theorem rankT_succ {ms p : List Int} {t : Nat} {m : Int} (hat : ms[t]? = some m) : rankT ms p (t + 1) = rankT ms p t ++ [nameS p m] := by
  unfold rankT; rw [List.take_add_one, hat, List.map_append]; rfl
theorem setT_in {ms p : List Int} {t : Nat} (h : 0 ≤ placeS ms (placeS p t 0) 0) : setT ms p (t + 1) = setT ms p t ++ [(t : Int)] := by
  unfold setT; rw [rangeI_succ, List.filter_append]; simp [h]
theorem setT_out {ms p : List Int} {t : Nat} (h : ¬ 0 ≤ placeS ms (placeS p t 0) 0) : setT ms p (t + 1) = setT ms p t := by
  unfold setT; rw [rangeI_succ, List.filter_append]; simp [h]
theorem scoreT_succ (ms p : List Int) (t : Nat) : scoreT ms p (t + 1) = scoreT ms p t ++ [ms.getD (placeS p t 0).toNat 0] := by
  unfold scoreT; rw [rangeI_succ, List.map_append]; rfl
theorem length_rankT (ms p : List Int) (t : Nat) : (rankT ms p t).length ≤ t := by unfold rankT; rw [List.length_map, List.length_take]; omega
theorem length_setT (ms p : List Int) (t : Nat) : (setT ms p t).length ≤ t := Nat.le_trans (List.length_filter_le _ _) (by rw [length_rangeI]; exact Nat.le_refl _)
theorem length_scoreT (ms p : List Int) (t : Nat) : (scoreT ms p t).length ≤ t := by unfold scoreT; rw [List.length_map, length_rangeI]; exact Nat.le_refl _
theorem rankT_end (ms p : List Int) : rankT ms p ms.length = renS 1 ms p := by
  unfold rankT; rw [List.take_length, renS_ne (by omega) (by omega)]
theorem lt_rangeI (t : Nat) : (rangeI t).Pairwise (· < ·) := by
  unfold rangeI
  rw [List.pairwise_map]
  exact List.pairwise_lt_range.imp fun h => by omega
theorem setT_end {ms p : List Int} {n : Nat} (ht : turnedS p = true) (hl : p.length = n) (h : bcheckS 2 ms n = 0) : setT ms p n = renS 2 ms p := by
  have hN := names_of ht hl
  obtain ⟨_, hr, _, _⟩ := marks_of h
  have hr := hr (by omega)
  have hnd : ms.Nodup := by
    unfold bcheckS at h
    split at h
    · cases h
    · split at h
      · rename_i hf
        unfold fineS at hf
        rw [if_neg (by omega), if_pos rfl] at hf
        simp only [Bool.and_eq_true] at hf
        exact of_decide_eq_true hf.2
      · cases h
  have hs : (setT ms p n).Pairwise (· < ·) := (lt_rangeI n).sublist List.filter_sublist
  refine renS_two_eq ((List.perm_ext_iff_of_nodup (hs.imp fun h e => by omega) (nodup_map_names hN hr hnd)).2 fun x => ?_) (hs.imp fun h => by omega)
  unfold setT
  rw [List.mem_filter, mem_rangeI, List.mem_map]
  constructor
  · rintro ⟨⟨h0, h1⟩, h2⟩
    have h2 := of_decide_eq_true h2
    obtain ⟨i, hi, _, hx⟩ := name_onto ht hl (a := x.toNat) (by omega)
    have hx' : nameS p (i : Int) = x := by rw [hx]; omega
    have hp := place_name hN hi
    rw [hx'] at hp
    rw [hp] at h2
    refine ⟨(i : Int), ?_, hx'⟩
    by_cases hm : (i : Int) ∈ ms
    · exact hm
    · exact absurd ((placeS_neg (Int.le_refl 0)).2 hm) (by omega)
  · rintro ⟨m, hm, rfl⟩
    have hmr := hr m hm
    refine ⟨hN.name_in hmr, ?_⟩
    have hp := place_name hN (i := m.toNat) (by omega)
    rw [Int.toNat_of_nonneg hmr.1] at hp
    rw [hp]
    exact decide_eq_true (placeS_nn hm)
theorem scoreT_end {ms p : List Int} {n : Nat} (ht : turnedS p = true) (hl : p.length = n) (hm : ms.length = n) : scoreT ms p n = renS 3 ms p := by
  have hN := names_of ht hl
  refine List.ext_getElem? fun i => ?_
  by_cases hi : i < n
  · rw [renS_three ms p (show i < ms.length by omega)]
    obtain ⟨j, hj, _, hx⟩ := name_onto ht hl hi
    have hp := place_name hN hj
    rw [hx] at hp
    unfold scoreT rangeI
    rw [List.getElem?_map, List.getElem?_map, List.getElem?_range hi, hp]
    simp only [Option.map_some]
    rw [hp, if_pos (by omega)]
  · rw [List.getElem?_eq_none (by have := length_scoreT ms p n; omega), List.getElem?_eq_none (by rw [length_renS]; omega)]
end Go.Proofs.YtolbceckbnifmaaGreat

namespace Go.Proofs.YtolbceckbnifmaaGreat

/-- The ballots whose first mark that φ takes is x. -/
def hadS (φ : Int → Bool) (l : List Row) (x : Int) : Int := wsum (fun ms => decide (ms.find? φ = some x)) l
/-- The ballots that have no mark that φ takes. -/
def lostS (φ : Int → Bool) (l : List Row) : Int := wsum (fun ms => decide (ms.find? φ = none)) l
def hadL (φ : Int → Bool) (l : List Row) (n : Nat) : List Int := (List.range n).map fun x : Nat => hadS φ l (x : Int)
theorem length_hadL (φ : Int → Bool) (l : List Row) (n : Nat) : (hadL φ l n).length = n := by simp [hadL]
theorem get_hadL (φ : Int → Bool) (l : List Row) {n x : Nat} (h : x < n) : (hadL φ l n)[x]? = some (hadS φ l (x : Int)) := by
  unfold hadL; rw [List.getElem?_map, List.getElem?_range h]; rfl
theorem wsum_take_succ (φ : List Int → Bool) {l : List Row} {t : Nat} {ms : List Int} {y : Int} (hat : l[t]? = some (ms, y)) : wsum φ (l.take (t + 1)) = wsum φ (l.take t) + if φ ms = true then y else 0 := by
  rw [List.take_add_one, hat]
  unfold wsum
  rw [List.map_append, List.sum_append]
  simp
theorem hadL_hit {φ : Int → Bool} {l : List Row} {n t m : Nat} {ms : List Int} {y : Int} (hat : l[t]? = some (ms, y)) (hf : ms.find? φ = some (m : Int)) : hadL φ (l.take (t + 1)) n = (hadL φ (l.take t) n).set m (hadS φ (l.take t) (m : Int) + y) := by
  refine List.ext_getElem? fun i => ?_
  by_cases hi : i < n
  · rw [get_hadL φ _ hi]
    by_cases e : i = m
    · subst e
      rw [List.getElem?_set_self (by rw [length_hadL]; exact hi)]
      unfold hadS
      rw [wsum_take_succ _ hat, hf]
      simp
    · rw [List.getElem?_set_ne (Ne.symm e), get_hadL φ _ hi]
      unfold hadS
      rw [wsum_take_succ _ hat, hf]
      have : ¬ (some (m : Int) = some (i : Int)) := fun h => e (by have := Option.some.inj h; omega)
      simp [this]
  · rw [List.getElem?_eq_none (by rw [length_hadL]; omega), List.getElem?_eq_none (by rw [List.length_set, length_hadL]; omega)]
theorem hadL_miss {φ : Int → Bool} {l : List Row} {n t : Nat} {ms : List Int} {y : Int} (hat : l[t]? = some (ms, y)) (hf : ms.find? φ = none) : hadL φ (l.take (t + 1)) n = hadL φ (l.take t) n := by
  unfold hadL hadS
  refine List.map_congr_left fun x _ => ?_
  rw [wsum_take_succ _ hat, hf]
  simp
theorem lostS_hit {φ : Int → Bool} {l : List Row} {t : Nat} {m : Int} {ms : List Int} {y : Int} (hat : l[t]? = some (ms, y)) (hf : ms.find? φ = some m) : lostS φ (l.take (t + 1)) = lostS φ (l.take t) := by
  unfold lostS; rw [wsum_take_succ _ hat, hf]; simp
theorem lostS_miss {φ : Int → Bool} {l : List Row} {t : Nat} {ms : List Int} {y : Int} (hat : l[t]? = some (ms, y)) (hf : ms.find? φ = none) : lostS φ (l.take (t + 1)) = lostS φ (l.take t) + y := by
  unfold lostS; rw [wsum_take_succ _ hat, hf]; simp
theorem hadL_zero (φ : Int → Bool) (n : Nat) : hadL φ [] n = List.replicate n 0 := by
  unfold hadL hadS
  refine List.ext_getElem (by simp) fun i h1 h2 => ?_
  simp [wsum]
theorem wsum_nn {φ : List Int → Bool} {l : List Row} (h : Pos l) : 0 ≤ wsum φ l := by
  induction l with
  | nil => exact Int.le_refl _
  | cons a r ih =>
    have ha := h a (List.mem_cons_self ..)
    have hr := ih fun x hx => h x (List.mem_cons_of_mem _ hx)
    rw [wsum_cons]; split <;> omega
theorem wsum_le_tot {φ : List Int → Bool} {l : List Row} (h : Pos l) : wsum φ l ≤ totS l := by
  induction l with
  | nil => exact Int.le_refl _
  | cons a r ih =>
    have ha := h a (List.mem_cons_self ..)
    have hr := ih fun x hx => h x (List.mem_cons_of_mem _ hx)
    have e : totS (a :: r) = a.2 + totS r := by simp [totS]
    rw [wsum_cons, e]; split <;> omega
/-- A number of ballots fits. -/
theorem hadS_bd {φ : Int → Bool} {l : List Row} (h : Pos l) (x : Int) : 0 ≤ hadS φ l x ∧ hadS φ l x ≤ totS l := ⟨wsum_nn h, wsum_le_tot h⟩
theorem lostS_bd {φ : Int → Bool} {l : List Row} (h : Pos l) : 0 ≤ lostS φ l ∧ lostS φ l ≤ totS l := ⟨wsum_nn h, wsum_le_tot h⟩
/-- Every ballot counts once. -/
theorem had_all {φ : Int → Bool} {l : List Row} {n : Nat} (hm : ∀ r ∈ l, ∀ x ∈ r.1, 0 ≤ x ∧ x < n) : (hadL φ l n).sum + lostS φ l = totS l := by
  induction l with
  | nil => rw [hadL_zero]; simp [lostS, wsum, totS]
  | cons a r ih =>
    have ih := ih fun x hx => hm x (List.mem_cons_of_mem _ hx)
    have e : totS (a :: r) = a.2 + totS r := by simp [totS]
    have hs : ∀ (f : Nat → Int) (k : Nat), ((List.range (k + 1)).map f).sum = ((List.range k).map f).sum + f k := fun f k => by
      rw [List.range_succ, List.map_append, List.sum_append]; simp
    have hh : ∀ x : Nat, hadS φ (a :: r) (x : Int) = (if a.1.find? φ = some (x : Int) then a.2 else 0) + hadS φ r (x : Int) := fun x => by
      unfold hadS; rw [wsum_cons]; simp
    have hl : lostS φ (a :: r) = (if a.1.find? φ = none then a.2 else 0) + lostS φ r := by unfold lostS; rw [wsum_cons]; simp
    have hsum : ∀ k, ((List.range k).map fun x : Nat => hadS φ (a :: r) (x : Int)).sum = ((List.range k).map fun x : Nat => if a.1.find? φ = some (x : Int) then a.2 else 0).sum + ((List.range k).map fun x : Nat => hadS φ r (x : Int)).sum := fun k => by
      induction k with
      | zero => rfl
      | succ k ihk => rw [hs, hs, hs, ihk, hh]; omega
    have hone : ((List.range n).map fun x : Nat => if a.1.find? φ = some (x : Int) then a.2 else 0).sum = if a.1.find? φ = none then 0 else a.2 := by
      cases hf : a.1.find? φ with
      | none =>
        rw [if_pos rfl]
        have : ∀ k, ((List.range k).map fun x : Nat => if (none : Option Int) = some (x : Int) then a.2 else 0).sum = 0 := fun k => by
          induction k with
          | zero => rfl
          | succ k ihk => rw [hs, ihk]; simp
        exact this n
      | some m =>
        rw [if_neg (by simp)]
        obtain ⟨h0, h1⟩ := hm a (List.mem_cons_self ..) m (List.mem_of_find?_eq_some hf)
        have : ∀ k : Nat, ((List.range k).map fun x : Nat => if some m = some (x : Int) then a.2 else 0).sum = if m < k then a.2 else 0 := fun k => by
          induction k with
          | zero => rw [if_neg (by omega)]; rfl
          | succ k ihk =>
            rw [hs, ihk]
            simp only [Option.some.injEq]
            by_cases e1 : m = (k : Int)
            · rw [if_neg (by omega), if_pos e1, if_pos (by omega)]; omega
            · rw [if_neg e1]
              by_cases e2 : m < (k : Int)
              · rw [if_pos e2, if_pos (by omega)]; omega
              · rw [if_neg e2, if_neg (by omega)]; omega
        rw [this n, if_pos h1]
    unfold hadL at ih ⊢
    rw [hsum, hone, hl, e]
    split <;> omega
end Go.Proofs.YtolbceckbnifmaaGreat
