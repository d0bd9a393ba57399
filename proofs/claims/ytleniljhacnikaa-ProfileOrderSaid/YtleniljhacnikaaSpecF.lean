/-
  Profiles whose marks are turned one by one: what counts of them; keeping in plain terms. No program is named here.
-/
import Derived.Test.YtleniljhacnikaaSpecK
namespace Go.Proofs.Ytleniljhacnikaa

/-- The ballots whose marks φ takes. -/
def wsum (φ : List Int → Bool) (l : List Row) : Int := (l.map fun r => if φ r.1 = true then r.2 else 0).sum
theorem wsum_nil (φ : List Int → Bool) : wsum φ [] = 0 := rfl
theorem wsum_cons (φ : List Int → Bool) (a : Row) (r : List Row) : wsum φ (a :: r) = (if φ a.1 = true then a.2 else 0) + wsum φ r := by simp [wsum]
theorem wsum_putS (φ : List Int → Bool) (l : List Row) (m : List Int) (y : Int) : wsum φ (putS l m y) = wsum φ l + if φ m = true then y else 0 := by
  induction l with
  | nil => simp [putS, wsum]
  | cons a r ih =>
    unfold putS
    split
    · rw [wsum_cons, wsum_cons, ih]; omega
    · split
      · rename_i e
        rw [wsum_cons, wsum_cons, ← e]
        split <;> (try simp only) <;> omega
      · rw [wsum_cons]; (try simp only); omega
theorem wsum_sumRows (φ : List Int → Bool) (l L : List Row) : wsum φ (sumRows l L) = wsum φ l + wsum φ L := by
  unfold sumRows
  induction L generalizing l with
  | nil => simp [wsum]
  | cons a r ih => rw [List.foldl_cons, ih, wsum_putS, wsum_cons]; omega
theorem wsum_map (φ : List Int → Bool) (f : List Int → List Int) (l : List Row) : wsum φ (l.map fun r => (f r.1, r.2)) = wsum (fun k => φ (f k)) l := by
  unfold wsum; rw [List.map_map]; rfl
theorem wsum_each (φ : List Int → Bool) (f : List Int → List Int) (l : List Row) : wsum φ (eachS f l) = wsum (fun k => φ (f k)) l := by
  unfold eachS; rw [wsum_sumRows, wsum_map, wsum_nil]; omega
theorem wsum_congr {φ ψ : List Int → Bool} {l : List Row} (h : ∀ r ∈ l, φ r.1 = ψ r.1) : wsum φ l = wsum ψ l := by
  induction l with
  | nil => rfl
  | cons a r ih => rw [wsum_cons, wsum_cons, h a (List.mem_cons_self ..), ih (fun x hx => h x (List.mem_cons_of_mem _ hx))]
theorem wsum_zero {φ : List Int → Bool} {l : List Row} (h : ∀ r ∈ l, φ r.1 = false) : wsum φ l = 0 := by
  induction l with
  | nil => rfl
  | cons a r ih => rw [wsum_cons, h a (List.mem_cons_self ..), ih (fun x hx => h x (List.mem_cons_of_mem _ hx))]; rfl
theorem cntR_wsum {l : List Row} (h : Asc l) (m : List Int) : cntR l m = wsum (fun k => decide (k = m)) l := by
  induction l with
  | nil => rfl
  | cons a r ih =>
    obtain ⟨h1, h2⟩ := List.pairwise_cons.1 h
    rw [wsum_cons, ← ih h2, cntR]
    by_cases e : a.1 = m
    · subst e
      rw [if_pos rfl, if_pos (by simp), cntR_lt h2 h1]; omega
    · rw [if_neg e, if_neg (by simpa using e)]; omega

theorem asc_each (f : List Int → List Int) (l : List Row) : Asc (eachS f l) := asc_sumRows asc_nil
theorem pos_each {f : List Int → List Int} {l : List Row} (h : Pos l) : Pos (eachS f l) := pos_sumRows pos_nil (pos_map h f)
theorem tot_each (f : List Int → List Int) (l : List Row) : totS (eachS f l) = totS l := by
  unfold eachS; rw [tot_sumRows, tot_map]; simp [totS]
theorem cntR_each (f : List Int → List Int) (l : List Row) (m : List Int) : cntR (eachS f l) m = wsum (fun k => decide (f k = m)) l := by
  rw [cntR_wsum (asc_each f l), wsum_each]
/-- Turned once more. -/
theorem each_each (f g : List Int → List Int) {l : List Row} (h : Pos l) : eachS f (eachS g l) = eachS (fun ms => f (g ms)) l :=
  rows_ext (asc_each _ _) (asc_each _ _) (pos_each (pos_each h)) (pos_each h) fun m => by rw [cntR_each, wsum_each, cntR_each]
theorem each_congr {f g : List Int → List Int} {l : List Row} (h : ∀ r ∈ l, f r.1 = g r.1) : eachS f l = eachS g l := by
  unfold eachS
  congr 1
  exact List.map_congr_left fun r hr => by rw [h r hr]
/-- Nothing turned. -/
theorem each_same {f : List Int → List Int} {l : List Row} (ha : Asc l) (hp : Pos l) (h : ∀ r ∈ l, f r.1 = r.1) : eachS f l = l :=
  rows_ext (asc_each _ _) ha (pos_each hp) hp fun m => by rw [cntR_each, cntR_wsum ha]; exact wsum_congr fun r hr => by rw [h r hr]
theorem mem_each {f : List Int → List Int} {l : List Row} {x : Row} (h : x ∈ eachS f l) : ∃ r ∈ l, x.1 = f r.1 := by
  rcases mem_sumRows h with h | h
  · simp at h
  · rw [List.map_map] at h
    obtain ⟨r, hr, e⟩ := List.mem_map.1 h
    exact ⟨r, hr, e.symm⟩
theorem length_each (f : List Int → List Int) (l : List Row) : (eachS f l).length ≤ l.length := by
  have := length_sumRows [] (l.map fun r => (f r.1, r.2))
  rw [List.length_map] at this
  simpa [eachS] using this
/-- Valid marks for valid marks: a valid profile. -/
theorem each_check {f : List Int → List Int} {c k : Int} {l : List Row} (h : checkS c k l = 0) (hf : ∀ ms, bcheckS k ms c = 0 → bcheckS k (f ms) c = 0) : checkS c k (eachS f l) = 0 := by
  obtain ⟨h1, h2, h3, h4, h5, h6, h7, h8, h9⟩ := check_iff.1 h
  refine check_iff.2 ⟨Nat.le_trans (length_each f l) h1, h2, h3, h4, h5, by rw [tot_each]; exact h6, asc_each f l, pos_each h8, fun x hx => ?_⟩
  obtain ⟨r, hr, e⟩ := mem_each hx
  rw [e]; exact hf _ (h9 r hr)

theorem kept_fine' {k c : Int} {ms : List Int} (bs : List Bool) (h : bcheckS k ms c = 0) : bcheckS k (keptS k ms bs) c = 0 := by
  by_cases hk : k = 1 ∨ k = 2
  · exact kept_fine bs hk h
  · by_cases hk3 : k = 3
    · subst hk3
      unfold bcheckS at h ⊢
      split at h
      · cases h
      rename_i hc
      rw [if_neg hc]
      split at h
      · rename_i hf
        rw [if_pos]
        unfold fineS at hf ⊢
        rw [if_pos rfl] at hf ⊢
        simp only [Bool.and_eq_true, List.all_eq_true, decide_eq_true_eq] at hf ⊢
        unfold keptS
        rw [if_neg (by omega), if_pos rfl]
        refine ⟨fun x hx => ?_, by rw [List.length_map, List.length_range]; exact hf.2⟩
        obtain ⟨i, hi, rfl⟩ := List.mem_map.1 hx
        split
        · have hi' := List.mem_range.1 hi
          have : ms.getD i 0 = ms[i] := by simp [List.getD, hi']
          rw [this]; exact hf.1 _ (List.getElem_mem hi')
        · rfl
      · cases h
    · unfold bcheckS at h
      split at h
      · cases h
      · have : fineS k ms c = false := by unfold fineS; rw [if_neg hk3, if_neg (by omega), if_neg (by omega)]
        rw [this] at h
        simp at h
theorem kept_check' {c k : Int} {l : List Row} (bs : List Bool) (h : checkS c k l = 0) : checkS c k (eachS (fun ms => keptS k ms bs) l) = 0 := each_check h fun _ hm => kept_fine' bs hm

/-- Both of two sets. -/
def bothB (one two : List Bool) (t : Nat) : List Bool := (List.range (min one.length two.length)).map fun i : Nat => decide (i < t) && (one.getD i false && two.getD i false)
theorem length_bothB (one two : List Bool) (t : Nat) : (bothB one two t).length = min one.length two.length := by simp [bothB]
theorem bothB_zero (one two : List Bool) : bothB one two 0 = List.replicate (min one.length two.length) false := by
  unfold bothB
  apply List.ext_getElem?
  intro i
  rw [List.getElem?_map, List.getElem?_replicate]
  by_cases h : i < min one.length two.length
  · rw [List.getElem?_range h, if_pos h]; simp
  · rw [List.getElem?_eq_none (by simpa using h), if_neg h]; rfl
theorem bothB_succ {one two : List Bool} {t : Nat} (ht : t < min one.length two.length) : bothB one two (t + 1) = (bothB one two t).set t (one.getD t false && two.getD t false) := by
  apply List.ext_getElem?
  intro i
  by_cases h : i = t
  · subst h
    rw [List.getElem?_set_self (by rw [length_bothB]; exact ht)]
    unfold bothB
    rw [List.getElem?_map, List.getElem?_range ht]
    simp
  · rw [List.getElem?_set_ne (Ne.symm h)]
    unfold bothB
    rw [List.getElem?_map, List.getElem?_map]
    by_cases hi : i < min one.length two.length
    · rw [List.getElem?_range hi]
      simp only [Option.map_some]
      by_cases e : i < t
      · simp [e, show i < t + 1 by omega]
      · simp [e, show ¬ i < t + 1 by omega]
    · rw [List.getElem?_eq_none (by simpa using hi)]; rfl
theorem isS_both (one two : List Bool) (x : Int) : isS (bothB one two (min one.length two.length)) x = (isS one x && isS two x) := by
  unfold isS
  rw [length_bothB]
  by_cases h0 : 0 ≤ x
  · obtain ⟨n, rfl⟩ : ∃ n : Nat, x = n := ⟨x.toNat, by omega⟩
    by_cases h : n < min one.length two.length
    · have h1 : inR 0 one.length n = true := inR_iff.2 (by omega)
      have h2 : inR 0 two.length n = true := inR_iff.2 (by omega)
      have h3 : inR 0 ((min one.length two.length : Nat) : Int) n = true := inR_iff.2 (by omega)
      rw [h1, h2, h3]
      unfold bothB
      rw [Int.toNat_natCast, List.getD_eq_getElem?_getD, List.getElem?_map, List.getElem?_range h]
      simp [h]
    · have h3 : inR 0 ((min one.length two.length : Nat) : Int) n = false := by
        rw [← Bool.not_eq_true, inR_iff]; omega
      rw [h3]
      by_cases ho : n < one.length
      · have h2 : inR 0 two.length n = false := by rw [← Bool.not_eq_true, inR_iff]; omega
        rw [h2]; simp
      · have h1 : inR 0 one.length n = false := by rw [← Bool.not_eq_true, inR_iff]; omega
        rw [h1]; simp
  · have hn : ∀ m : Int, inR 0 m x = false := fun m => by rw [← Bool.not_eq_true, inR_iff]; omega
    simp [hn]
/-- Kept twice is kept in both. -/
theorem kept_kept (k : Int) (ms : List Int) {one two both : List Bool} (hb : ∀ x, isS both x = (isS one x && isS two x)) : keptS k (keptS k ms one) two = keptS k ms both := by
  unfold keptS
  by_cases hk : k = 1 ∨ k = 2
  · rw [if_pos hk, if_pos hk, if_pos hk, List.filter_filter]
    congr 1
    funext x
    rw [hb x, Bool.and_comm]
  · rw [if_neg hk, if_neg hk, if_neg hk]
    by_cases h3 : k = 3
    · rw [if_pos h3, if_pos h3, if_pos h3, List.length_map, List.length_range]
      refine List.map_congr_left fun i hi => ?_
      have hi' := List.mem_range.1 hi
      rw [hb i, List.getD_eq_getElem?_getD (l := List.map _ _), List.getElem?_map, List.getElem?_range hi']
      simp only [Option.map_some, Option.getD_some]
      cases isS one i <;> cases isS two i <;> simp
    · rw [if_neg h3, if_neg h3, if_neg h3]
theorem isS_all {n : Nat} {x : Int} (h : 0 ≤ x ∧ x < n) : isS (List.replicate n true) x = true := by
  unfold isS
  rw [List.length_replicate, inR_iff.2 h, List.getD_eq_getElem?_getD, List.getElem?_replicate, if_pos (by omega)]; rfl
/-- All kept: nothing turned. -/
theorem kept_all {k : Int} {n : Nat} {ms : List Int} (h : bcheckS k ms n = 0) : keptS k ms (List.replicate n true) = ms := by
  unfold bcheckS at h
  split at h
  · cases h
  split at h
  · rename_i hf
    unfold fineS at hf
    unfold keptS
    by_cases h3 : k = 3
    · rw [if_pos h3] at hf
      rw [if_neg (by omega), if_pos h3]
      simp only [Bool.and_eq_true, decide_eq_true_eq] at hf
      apply List.ext_getElem?
      intro i
      rw [List.getElem?_map]
      by_cases hi : i < ms.length
      · rw [List.getElem?_range hi, List.getElem?_eq_getElem hi]
        simp only [Option.map_some]
        rw [isS_all (by omega)]
        simp [List.getD, hi]
      · rw [List.getElem?_eq_none (by simpa using hi), List.getElem?_eq_none (by omega)]; rfl
    · rw [if_neg h3] at hf
      have hr : (k = 1 ∨ k = 2) ∧ ∀ x ∈ ms, inR 0 n x = true := by
        split at hf
        · rename_i h2
          simp only [Bool.and_eq_true, List.all_eq_true] at hf
          exact ⟨.inr h2, hf.1.1⟩
        · split at hf
          · rename_i h1
            simp only [Bool.and_eq_true, List.all_eq_true] at hf
            exact ⟨.inl h1, hf.1⟩
          · cases hf
      rw [if_pos hr.1, List.filter_eq_self]
      exact fun x hx => isS_all (inR_iff.1 (hr.2 x hx))
  · cases h
end Go.Proofs.Ytleniljhacnikaa
