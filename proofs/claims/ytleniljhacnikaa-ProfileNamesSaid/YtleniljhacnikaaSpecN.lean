/-
  The matrix of a renamed profile. No program is named here.
-/
import Derived.Test.YtleniljhacnikaaSpecK
import Derived.Test.YtleniljhacnikaaW9o
namespace Go.Proofs.Ytleniljhacnikaa

def nameS (p : List Int) (x : Int) : Int := p.getD x.toNat 0

theorem partR_map {k : Int} (hk : k ≠ 3) (ms p : List Int) : partR k ms p ms.length = ms.map (nameS p) := by
  unfold partR
  rw [if_neg hk]
  apply List.ext_getElem?
  intro i
  by_cases hi : i < ms.length
  · simp only [List.getElem?_map, List.getElem?_range hi, Option.map_some, if_pos hi, List.getElem?_eq_getElem hi]
    simp [nameS, List.getD, hi]
  · rw [List.getElem?_eq_none (by simp; omega), List.getElem?_eq_none (by simp; omega)]
theorem place_map (f : Int → Int) (a : Int) : ∀ (l : List Int) (k : Int), (∀ x ∈ l, f x = f a → x = a) → placeS (l.map f) (f a) k = placeS l a k
  | [], _, _ => rfl
  | b :: r, k, h => by
    rw [List.map_cons]
    unfold placeS
    by_cases e : b = a
    · subst e; rw [if_pos rfl, if_pos rfl]
    · rw [if_neg (fun e' => e (h b (List.mem_cons_self ..) e')), if_neg e, place_map f a r (k + 1) fun x hx => h x (List.mem_cons_of_mem _ hx)]

/-- Names of the numbers below n, each once. -/
structure Names (p : List Int) (n : Nat) : Prop where
  len : p.length = n
  le : n ≤ 10
  one : 1 ≤ n
  nd : p.Nodup
  rng : ∀ x ∈ p, 0 ≤ x ∧ x < n
theorem names_of {p : List Int} {n : Nat} (h : turnedS p = true) (hl : p.length = n) : Names p n := by
  obtain ⟨h1, h2, h3⟩ := turned_iff.1 h
  obtain ⟨-, h4, -⟩ := turned_perm.1 h
  exact ⟨hl, by omega, by omega, h2, fun x hx => by have := h3 x hx; omega⟩
theorem Names.get {p : List Int} {n : Nat} (h : Names p n) {i : Nat} (hi : i < n) : p[i]? = some (nameS p i) := by
  have : i < p.length := by rw [h.len]; exact hi
  simp [nameS, List.getD, this]
theorem Names.inj {p : List Int} {n : Nat} (h : Names p n) {x y : Int} (hx : 0 ≤ x ∧ x < n) (hy : 0 ≤ y ∧ y < n) (e : nameS p x = nameS p y) : x = y := by
  have h1 := h.get (i := x.toNat) (by omega)
  have h2 := h.get (i := y.toNat) (by omega)
  rw [Int.toNat_of_nonneg hx.1] at h1
  rw [Int.toNat_of_nonneg hy.1] at h2
  have a1 := placeS_at h.nd h1
  have a2 := placeS_at h.nd h2
  rw [e, a2] at a1
  omega
theorem Names.name_in {p : List Int} {n : Nat} (h : Names p n) {x : Int} (hx : 0 ≤ x ∧ x < n) : 0 ≤ nameS p x ∧ nameS p x < n := by
  have h1 := h.get (i := x.toNat) (by omega)
  rw [Int.toNat_of_nonneg hx.1] at h1
  exact h.rng _ (List.mem_of_getElem? h1)

/-- Who is preferred to whom goes along with the names. -/
theorem ren_prefers {k : Int} {ms p : List Int} {n : Nat} (hN : Names p n) (hb : bcheckS k ms n = 0) {i j : Nat} (hi : i < n) (hj : j < n) :
    prefersS k (renS k ms p) (nameS p i) (nameS p j) = prefersS k ms i j := by
  have ni := hN.name_in (x := (i : Int)) (by omega)
  have nj := hN.name_in (x := (j : Int)) (by omega)
  have hf : fineS k ms n = true := by
    unfold bcheckS at hb
    split at hb
    · cases hb
    · split at hb
      · assumption
      · cases hb
  unfold prefersS
  rw [if_neg (show ¬ (nameS p i < 0 ∨ nameS p j < 0) by omega), if_neg (show ¬ ((i : Int) < 0 ∨ (j : Int) < 0) by omega)]
  by_cases h1 : k = 1
  · subst h1
    have hr : ∀ x ∈ ms, 0 ≤ x ∧ x < n := fun x hx => by
      obtain ⟨M, e, h⟩ := fine_mark hf (by omega) hx
      omega
    rw [if_pos rfl, if_pos rfl]
    have e : renS 1 ms p = ms.map (nameS p) := by unfold renS; rw [if_neg (by omega), partR_map (by omega)]
    rw [e, place_map _ _ _ _ (fun x hx h => hN.inj (hr x hx) (by omega) h), place_map _ _ _ _ (fun x hx h => hN.inj (hr x hx) (by omega) h)]
  · rw [if_neg h1, if_neg h1]
    by_cases h2 : k = 2
    · subst h2
      have hr : ∀ x ∈ ms, 0 ≤ x ∧ x < n := fun x hx => by
        obtain ⟨M, e, h⟩ := fine_mark hf (by omega) hx
        omega
      rw [if_pos rfl, if_pos rfl]
      have e : ∀ y, y ∈ renS 2 ms p ↔ y ∈ ms.map (nameS p) := fun y => by
        unfold renS
        rw [if_pos rfl, partR_map (by omega)]
        exact (List.mergeSort_perm _ _).mem_iff
      have em : ∀ z : Nat, z < n → (nameS p z ∈ renS 2 ms p ↔ (z : Int) ∈ ms) := fun z hz => by
        rw [e, List.mem_map]
        constructor
        · rintro ⟨x, hx, h⟩
          rw [← hN.inj (hr x hx) (by omega) h]; exact hx
        · intro h; exact ⟨_, h, rfl⟩
      rw [Bool.eq_iff_iff]
      simp only [Bool.and_eq_true, decide_eq_true_eq, place_mem, place_out, em i hi, em j hj]
    · rw [if_neg h2, if_neg h2]
      by_cases h3 : k = 3
      · subst h3
        rw [if_pos rfl, if_pos rfl]
        have hl : ms.length = n := by
          simp only [fineS, if_true, Bool.and_eq_true, decide_eq_true_eq] at hf
          omega
        have e : ∀ z : Nat, z < n → (renS 3 ms p).getD (nameS p z).toNat 0 = ms.getD z 0 := fun z hz => by
          have nz := hN.name_in (x := (z : Int)) (by omega)
          have hpl := placeS_at hN.nd (hN.get hz)
          have : (renS 3 ms p)[(nameS p z).toNat]? = some (ms.getD z 0) := by
            unfold renS partR
            rw [if_neg (by omega), if_pos rfl]
            simp only [List.getElem?_map, List.getElem?_range (show (nameS p z).toNat < ms.length by omega), Option.map_some]
            rw [Int.toNat_of_nonneg nz.1, hpl, if_pos (by omega), Int.toNat_natCast]
          simp [List.getD, this]
        rw [e i hi, e j hj, length_renS]
        simp only [Int.toNat_natCast]
        rw [show decide (nameS p i < (ms.length : Int)) = true by simp; omega, show decide (nameS p j < (ms.length : Int)) = true by simp; omega, show decide ((i : Int) < (ms.length : Int)) = true by simp; omega, show decide ((j : Int) < (ms.length : Int)) = true by simp; omega]
      · rw [if_neg h3, if_neg h3]

theorem nodup_map_names {p ms : List Int} {n : Nat} (hN : Names p n) (hr : ∀ x ∈ ms, 0 ≤ x ∧ x < n) (hn : ms.Nodup) : (ms.map (nameS p)).Nodup := by
  unfold List.Nodup at *
  rw [List.pairwise_map]
  exact hn.imp_of_mem fun ha hb h e => h (hN.inj (hr _ ha) (hr _ hb) e)
/-- A renamed ballot is valid. -/
theorem ren_fine {k : Int} {ms p : List Int} {n : Nat} (hN : Names p n) (hb : bcheckS k ms n = 0) : bcheckS k (renS k ms p) n = 0 := by
  unfold bcheckS at *
  split at hb
  · cases hb
  rename_i h0
  rw [if_neg h0]
  split at hb
  · rename_i hf
    rw [if_pos ?_]
    have hr : k ≠ 3 → ∀ x ∈ ms, 0 ≤ x ∧ x < n := fun hk x hx => by
      obtain ⟨M, e, h⟩ := fine_mark hf hk hx
      omega
    by_cases h3 : k = 3
    · subst h3
      simp only [fineS, if_true, Bool.and_eq_true, List.all_eq_true, decide_eq_true_eq] at hf ⊢
      refine ⟨fun x hx => ?_, by rw [length_renS]; exact hf.2⟩
      unfold renS partR at hx
      rw [if_neg (by omega), if_pos rfl] at hx
      obtain ⟨i, hi, rfl⟩ := List.mem_map.1 hx
      split
      · rename_i hp
        by_cases hin : (placeS p i 0).toNat < ms.length
        · exact hf.1 _ (by simp [List.getD, hin])
        · simp [List.getD, List.getElem?_eq_none (Nat.le_of_not_lt hin), inR]
      · simp [inR]
    · by_cases h2 : k = 2
      · subst h2
        have hpm := List.mergeSort_perm (partR 2 ms p ms.length) (fun a b => decide (a ≤ b))
        have hso := List.pairwise_mergeSort (le := fun a b : Int => decide (a ≤ b)) (by intro a b c; simp; omega) (by intro a b; simp; omega) (partR 2 ms p ms.length)
        have hm : partR 2 ms p ms.length = ms.map (nameS p) := partR_map (by omega) ms p
        simp only [fineS, if_neg (show ¬ (2 : Int) = 3 by omega), if_true, Bool.and_eq_true, List.all_eq_true, nodupB, decide_eq_true_eq, sortedB_iff] at hf ⊢
        unfold renS
        rw [if_pos rfl]
        refine ⟨⟨fun x hx => ?_, hso.imp fun h => by simpa using h⟩, hpm.nodup_iff.2 (by rw [hm]; exact nodup_map_names hN (hr (by omega)) hf.2)⟩
        have hx := hpm.mem_iff.1 hx
        rw [hm] at hx
        obtain ⟨y, hy, rfl⟩ := List.mem_map.1 hx
        exact inR_iff.2 (hN.name_in (hr (by omega) y hy))
      · by_cases h1 : k = 1
        · subst h1
          have hm : renS 1 ms p = ms.map (nameS p) := by unfold renS; rw [if_neg (by omega)]; exact partR_map (by omega) ms p
          rw [hm]
          simp only [fineS, if_neg (show ¬ (1 : Int) = 3 by omega), if_neg (show ¬ (1 : Int) = 2 by omega), if_true, Bool.and_eq_true, List.all_eq_true, nodupB, decide_eq_true_eq] at hf ⊢
          refine ⟨fun x hx => ?_, nodup_map_names hN (hr (by omega)) hf.2⟩
          obtain ⟨y, hy, rfl⟩ := List.mem_map.1 hx
          exact inR_iff.2 (hN.name_in (hr (by omega) y hy))
        · unfold fineS at hf
          rw [if_neg h3, if_neg h2, if_neg h1] at hf
          cases hf
  · cases hb
/-- A renamed profile is valid. -/
theorem ren_check {n : Nat} {k : Int} {l : List Row} {p : List Int} (hN : Names p n) (h : checkS n k l = 0) : checkS n k (eachS (fun ms => renS k ms p) l) = 0 := by
  obtain ⟨h1, h2, h3, h4, h5, h6, h7, h8, h9⟩ := check_iff.1 h
  refine check_iff.2 ⟨?_, h2, h3, h4, h5, ?_, asc_sumRows asc_nil, pos_sumRows pos_nil (pos_map h8 (fun ms => renS k ms p)), fun x hx => ?_⟩
  · show (sumRows [] (l.map fun r => (renS k r.1 p, r.2))).length ≤ 64
    have := length_sumRows [] (l.map fun r => (renS k r.1 p, r.2))
    rw [List.length_map] at this
    simp only [List.length_nil] at this
    omega
  · unfold eachS
    rw [tot_sumRows, tot_map l (fun ms => renS k ms p)]
    have : totS [] = 0 := rfl
    omega
  · rcases mem_sumRows hx with hm | hm
    · simp at hm
    · rw [List.map_map] at hm
      obtain ⟨r, hr, e⟩ := List.mem_map.1 hm
      rw [← e]
      exact ren_fine hN (h9 r hr)
theorem ofT_map_at {f : List Int → List Int} {k : Int} {l : List Row} {x y x' y' : Nat} (h : ∀ r ∈ l, prefersS k (f r.1) x' y' = prefersS k r.1 x y) : ofT k (l.map fun r => (f r.1, r.2)) x' y' = ofT k l x y := by
  induction l with
  | nil => simp [ofT]
  | cons a r ih =>
    have h1 := h a (List.mem_cons_self ..)
    have h2 := ih fun z hz => h z (List.mem_cons_of_mem _ hz)
    unfold ofT at *
    simp only [List.map_cons, List.sum_cons, h2, h1]
/-- The matrix goes along with the names. -/
theorem ren_ofR {n : Nat} {k : Int} {l : List Row} {p : List Int} (hN : Names p n) (h : checkS n k l = 0) {i j : Nat} (hi : i < n) (hj : j < n) :
    ofR n k (eachS (fun ms => renS k ms p) l) (nameS p i).toNat (nameS p j).toNat = ofR n k l i j := by
  have ni := hN.name_in (x := (i : Int)) (by omega)
  have nj := hN.name_in (x := (j : Int)) (by omega)
  rw [ofR_eq (ren_check hN h), ofR_eq h, if_pos (by omega), if_pos (by omega), ofT_each]
  refine ofT_map_at (f := fun ms => renS k ms p) fun r hr => ?_
  rw [Int.toNat_of_nonneg ni.1, Int.toNat_of_nonneg nj.1]
  exact ren_prefers hN ((check_iff.1 h).2.2.2.2.2.2.2.2 r hr) hi hj

theorem name_onto {q : List Int} {n : Nat} (ht : turnedS q = true) (hl : q.length = n) {a : Nat} (ha : a < n) : ∃ i, i < n ∧ q[i]? = some (a : Int) ∧ nameS q i = a := by
  have hp := (turned_perm.1 ht).2.2
  have : (a : Int) ∈ q := hp.subset (mem_rangeI.2 (by rw [hl]; omega))
  obtain ⟨i, hi⟩ := List.getElem?_of_mem this
  have hin : i < n := by rw [← hl]; exact (List.getElem?_eq_some_iff.1 hi).1
  refine ⟨i, hin, hi, ?_⟩
  have := (names_of ht hl).get hin
  rw [hi] at this
  exact (Option.some.inj this).symm
/-- What a renamed matrix is. -/
theorem renM_eq {m m' : M} {q : List Int} {n : Nat} (ht : turnedS q = true) (hl : q.length = n) (hr : rightS m n = true) (hz : ∀ a b : Nat, ¬ (a < n ∧ b < n) → m' a b = 0)
    (he : ∀ i j : Nat, i < n → j < n → m' (nameS q i).toNat (nameS q j).toNat = m i j) : renErr m q = 0 ∧ ∀ a b, renM m q a b = m' a b := by
  have hN := names_of ht hl
  have h0 : renErr m q = 0 := by unfold renErr; rw [if_pos ht, hl, if_pos hr]
  refine ⟨h0, fun a b => ?_⟩
  unfold renM
  rw [if_pos h0]
  unfold renA
  have out : ∀ a : Nat, ¬ a < n → ¬ idx q a < q.length := fun a ha h => by
    unfold idx at h
    have hm := List.idxOf_lt_length_iff.1 h
    have := hN.rng _ hm
    omega
  by_cases ha : a < n
  · by_cases hb : b < n
    · obtain ⟨i, hi, gi, ei⟩ := name_onto ht hl ha
      obtain ⟨j, hj, gj, ej⟩ := name_onto ht hl hb
      have xi := (idx_eq hN.nd gi a).2 rfl
      have xj := (idx_eq hN.nd gj b).2 rfl
      rw [xi, xj, hl, if_pos ⟨hi, hj⟩, ← he i j hi hj, ei, ej, Int.toNat_natCast, Int.toNat_natCast]
    · rw [if_neg (fun h => out b hb h.2), hz a b (by omega)]
  · rw [if_neg (fun h => out a ha h.1), hz a b (by omega)]
theorem ofR_out {n : Nat} {k : Int} {l : List Row} (h : checkS n k l = 0) (a b : Nat) (hab : ¬ (a < n ∧ b < n)) : ofR n k l a b = 0 := by
  rw [ofR_eq h, if_neg (by omega)]
/-- The renamed matrix is the renamed profile's. -/
theorem ren_there {n : Nat} {k : Int} {l : List Row} {p : List Int} (ht : turnedS p = true) (hl : p.length = n) (h : checkS n k l = 0) :
    renErr (ofR n k l) p = 0 ∧ ∀ a b, renM (ofR n k l) p a b = ofR n k (eachS (fun ms => renS k ms p) l) a b := by
  have hN := names_of ht hl
  have hle := hN.le
  exact renM_eq ht hl (ofR_right h (Int.le_refl _) (by omega)) (ofR_out (ren_check hN h)) fun i j hi hj => ren_ofR hN h hi hj
/-- The way back. -/
def backS (p : List Int) : List Int := (List.range p.length).map fun j : Nat => placeS p j 0
theorem back_name {p : List Int} {n : Nat} (ht : turnedS p = true) (hl : p.length = n) {i : Nat} (hi : i < n) : nameS (backS p) (nameS p i) = i := by
  have hN := names_of ht hl
  have ni := hN.name_in (x := (i : Int)) (by omega)
  have : (backS p)[(nameS p i).toNat]? = some (i : Int) := by
    unfold backS
    rw [List.getElem?_map, List.getElem?_range (by omega), Option.map_some, Int.toNat_of_nonneg ni.1, placeS_at hN.nd (hN.get hi)]
  show (backS p).getD (nameS p i).toNat 0 = _
  rw [List.getD_eq_getElem?_getD, this]
  rfl
theorem back_turned {p : List Int} {n : Nat} (ht : turnedS p = true) (hl : p.length = n) : turnedS (backS p) = true ∧ (backS p).length = n := by
  have hN := names_of ht hl
  have hlb : (backS p).length = n := by simp [backS, hl]
  refine ⟨?_, hlb⟩
  unfold turnedS
  rw [hlb]
  simp only [Bool.and_eq_true, decide_eq_true_eq, List.all_eq_true, List.mem_range]
  refine ⟨⟨hN.one, hN.le⟩, fun i hi => ?_⟩
  have ni := hN.name_in (x := (i : Int)) (by omega)
  have h1 := back_name ht hl hi
  have hlt : (nameS p i).toNat < (backS p).length := by omega
  rw [← h1]
  show (backS p).getD (nameS p i).toNat 0 ∈ _
  rw [List.getD_eq_getElem?_getD, List.getElem?_eq_getElem hlt]
  exact List.getElem_mem hlt
/-- Back again. -/
theorem ren_back {n : Nat} {k : Int} {l : List Row} {p : List Int} (ht : turnedS p = true) (hl : p.length = n) (h : checkS n k l = 0) :
    renErr (ofR n k (eachS (fun ms => renS k ms p) l)) (backS p) = 0 ∧ ∀ a b, renM (ofR n k (eachS (fun ms => renS k ms p) l)) (backS p) a b = ofR n k l a b := by
  have hN := names_of ht hl
  have hle := hN.le
  obtain ⟨hb, hlb⟩ := back_turned ht hl
  refine renM_eq hb hlb (ofR_right (ren_check hN h) (Int.le_refl _) (by omega)) (ofR_out h) fun i j hi hj => ?_
  obtain ⟨i0, hi0, -, ei⟩ := name_onto ht hl hi
  obtain ⟨j0, hj0, -, ej⟩ := name_onto ht hl hj
  have := ren_ofR hN h hi0 hj0
  rw [ei, ej, Int.toNat_natCast, Int.toNat_natCast] at this
  rw [this, ← ei, ← ej, back_name ht hl hi0, back_name ht hl hj0, Int.toNat_natCast, Int.toNat_natCast]

theorem names_perm {p : List Int} {n : Nat} (ht : turnedS p = true) (hl : p.length = n) : ((List.range n).map fun j : Nat => (nameS p j).toNat).Perm (List.range n) := by
  have hN := names_of ht hl
  refine perm_of_subset ?_ (fun a ha => ?_) (by simp)
  · unfold List.Nodup
    rw [List.pairwise_map]
    refine (List.nodup_range (n := n)).imp_of_mem fun {a b} ha hb h e => h ?_
    rw [List.mem_range] at ha hb
    have na := hN.name_in (x := (a : Int)) (by omega)
    have nb := hN.name_in (x := (b : Int)) (by omega)
    have := hN.inj (x := (a : Int)) (y := (b : Int)) (by omega) (by omega) (by omega)
    omega
  · obtain ⟨j, hj, rfl⟩ := List.mem_map.1 ha
    rw [List.mem_range] at hj ⊢
    have := hN.name_in (x := (j : Int)) (by omega)
    omega
/-- The wins go along with the names. -/
theorem wins_at {m m' : M} {p : List Int} {n : Nat} (ht : turnedS p = true) (hl : p.length = n) (he : ∀ i j : Nat, i < n → j < n → m' (nameS p i).toNat (nameS p j).toNat = m i j) {i : Nat} (hi : i < n) :
    winsOf m' n (nameS p i).toNat = winsOf m n i := by
  unfold winsOf
  rw [← ((names_perm ht hl).filter _).length_eq, List.filter_map, List.length_map]
  congr 1
  refine List.filter_congr fun j hj => ?_
  rw [List.mem_range] at hj
  simp only [Function.comp]
  rw [he j i hj hi, he i j hi hj]

theorem cntS_eq (m : M) (x : Nat) : ∀ Y, cntS m x Y = winsOf m Y x
  | 0 => by simp [cntS, winsOf]
  | Y + 1 => by
    unfold winsOf
    rw [List.range_succ, List.filter_append, List.length_append]
    have := cntS_eq m x Y
    unfold winsOf at this
    rw [cntS, this]
    by_cases h : m Y x < m x Y
    · simp [h]
    · simp [h]
theorem winM_get {m : M} {n : Nat} (hn : 1 ≤ n ∧ n ≤ 10) (hr : rightS m n = true) {i : Nat} (hi : i < n) : (winM m n)[i]? = some (winsOf m n i : Int) := by
  have h0 : winErr m n = 0 := by unfold winErr; rw [if_pos (by omega), if_pos hr]
  unfold winM
  rw [if_pos h0, Int.toNat_natCast]
  unfold winsL
  rw [List.getElem?_map, List.getElem?_range hi, Option.map_some, cntS_eq]

/-- The way back, as the law makes it. -/
theorem back_made {p : List Int} {n : Nat} (ht : turnedS p = true) (hl : p.length = n) : partR 3 (rangeI n) p n = backS p := by
  have hN := names_of ht hl
  unfold partR backS
  rw [if_pos rfl, length_rangeI, hl]
  refine List.map_congr_left fun j hj => ?_
  rw [List.mem_range] at hj
  obtain ⟨i, hi, gi, -⟩ := name_onto ht hl hj
  have hp := placeS_at hN.nd gi
  rw [hp, if_pos (by omega), Int.toNat_natCast]
  simp [List.getD, get_rangeI hi]
end Go.Proofs.Ytleniljhacnikaa
