/-
  The program's Rename, of a ballot, where nothing is wrong.
-/
import Derived.Test.YtiebfalodelclaaW8i
import Derived.Test.YtiebfalodelclaaW9m
import Derived.Test.YtiebfalodelclaaSpecA
namespace Go.Proofs.Ytiebfalodelclaa
open Go.RowKit Go.Proofs Go.Shelf
attribute [local go_sem] cell?_more cell?_alloc_some cell?_setCell_far frozen?_alloc_some frozen?_more
/-- The first t marks have been put under their new names. -/
def partR (k : Int) (ms p : List Int) (t : Nat) : List Int :=
  if k = 3 then (List.range ms.length).map fun i : Nat => if placeS p i 0 < t ∧ 0 ≤ placeS p i 0 then ms.getD (placeS p i 0).toNat 0 else 0
  else (List.range ms.length).map fun i : Nat => if i < t then p.getD (ms.getD i 0).toNat 0 else 0
theorem length_partR (k : Int) (ms p : List Int) (t : Nat) : (partR k ms p t).length = ms.length := by unfold partR; split <;> simp
theorem partR_zero (k : Int) (ms p : List Int) : partR k ms p 0 = List.replicate ms.length 0 := by
  unfold partR
  split
  · refine List.ext_getElem (by simp) fun i h1 h2 => ?_
    simp
    omega
  · refine List.ext_getElem (by simp) fun i h1 h2 => ?_
    simp
theorem partR_mark {k : Int} {ms p : List Int} {t : Nat} {m v : Int} (hk : k ≠ 3) (hm : ms[t]? = some m) (_h0 : 0 ≤ m) (hv : p[m.toNat]? = some v) : partR k ms p (t + 1) = (partR k ms p t).set t v := by
  have ht := (List.getElem?_eq_some_iff.1 hm).1
  unfold partR
  rw [if_neg hk, if_neg hk]
  apply List.ext_getElem?
  intro i
  by_cases hi : i < ms.length
  · by_cases e : t = i
    · subst e
      rw [List.getElem?_set_self (by simpa using ht)]
      have : p.getD (ms.getD t 0).toNat 0 = v := by simp [List.getD, hm, hv]
      simp [ht] at this ⊢
      simpa using this
    · rw [List.getElem?_set_ne e]
      simp only [List.getElem?_map, List.getElem?_range hi, Option.map_some]
      by_cases e2 : i < t
      · rw [if_pos e2, if_pos (by omega)]
      · rw [if_neg e2, if_neg (by omega)]
  · rw [List.getElem?_eq_none (by simp; omega), List.getElem?_eq_none (by simp; omega)]
theorem placeS_at {p : List Int} (hn : p.Nodup) {t : Nat} {v : Int} (hv : p[t]? = some v) : placeS p v 0 = t := by
  suffices h : ∀ (l : List Int) (j : Int) (t : Nat), l.Nodup → l[t]? = some v → placeS l v j = j + t by simpa using h p 0 t hn hv
  intro l
  induction l with
  | nil => intro j t _ h; simp at h
  | cons a r ih =>
    intro j t hnd h
    cases t with
    | zero => simp at h; subst h; simp [placeS]
    | succ t =>
      simp at h
      have hne : a ≠ v := fun e => (List.nodup_cons.1 hnd).1 (by rw [e]; exact List.mem_of_getElem? h)
      unfold placeS
      rw [if_neg hne, ih (j + 1) t (List.nodup_cons.1 hnd).2 h]
      push_cast
      omega
theorem partR_point {ms p : List Int} {t : Nat} {m v : Int} (hn : p.Nodup) (hm : ms[t]? = some m) (hv : p[t]? = some v) (h0 : 0 ≤ v) (_hvl : v < ms.length) : partR 3 ms p (t + 1) = (partR 3 ms p t).set v.toNat m := by
  have hpl := placeS_at hn hv
  unfold partR
  rw [if_pos rfl, if_pos rfl]
  apply List.ext_getElem?
  intro i
  by_cases hi : i < ms.length
  · by_cases e : v.toNat = i
    · rw [e, List.getElem?_set_self (by simpa using hi)]
      simp only [List.getElem?_map, List.getElem?_range hi, Option.map_some]
      rw [show (i : Int) = v by omega, hpl, if_pos (by omega), Int.toNat_natCast]
      simp [List.getD, hm]
    · rw [List.getElem?_set_ne e]
      simp only [List.getElem?_map, List.getElem?_range hi, Option.map_some]
      have hne : placeS p i 0 ≠ t := fun h => by
        have hin : (i : Int) ∈ p := by
          by_cases hmem : (i : Int) ∈ p
          · exact hmem
          · have := (placeS_neg (xs := p) (x := (i : Int)) (Int.le_refl 0)).2 hmem; omega
        have := placeS_inj (xs := p) (x := (i : Int)) (y := v) (k := 0) (by omega) hin (by rw [h, hpl])
        omega
      by_cases e2 : placeS p i 0 < t ∧ 0 ≤ placeS p i 0
      · rw [if_pos e2, if_pos (by omega)]
      · rw [if_neg e2, if_neg (by omega)]
  · rw [List.getElem?_eq_none (by simp; omega), List.getElem?_eq_none (by simp; omega)]

theorem bd_getD {xs : List Int} (h : ∀ x ∈ xs, -9223372036854775808 ≤ x ∧ x ≤ 9223372036854775807) (i : Nat) : -9223372036854775808 ≤ xs.getD i 0 ∧ xs.getD i 0 ≤ 9223372036854775807 := by
  by_cases hi : i < xs.length
  · exact h _ (by simp [List.getD, hi])
  · simp [List.getD, List.getElem?_eq_none (Nat.le_of_not_lt hi)]
theorem bd_partR {k : Int} {ms p : List Int} (t : Nat) (hm : ∀ x ∈ ms, -9223372036854775808 ≤ x ∧ x ≤ 9223372036854775807) (hp : ∀ x ∈ p, -9223372036854775808 ≤ x ∧ x ≤ 9223372036854775807) : ∀ x ∈ partR k ms p t, -9223372036854775808 ≤ x ∧ x ≤ 9223372036854775807 := by
  intro x hx
  unfold partR at hx
  split at hx
  all_goals
    obtain ⟨i, hi, rfl⟩ := List.mem_map.1 hx
    split
    · first | exact bd_getD hm _ | exact bd_getD hp _
    · omega
/-- The marks under other names. -/
def renS (k : Int) (ms p : List Int) : List Int := if k = 2 then (partR k ms p ms.length).mergeSort (fun a b => decide (a ≤ b)) else partR k ms p ms.length
theorem renS_sorted {ms p ys : List Int} (hp : ys.Perm (partR 2 ms p ms.length)) (hs : ys.Pairwise (· ≤ ·)) : ys = renS 2 ms p := by
  unfold renS
  rw [if_pos rfl]
  have h1 := List.mergeSort_perm (partR 2 ms p ms.length) (fun a b => decide (a ≤ b))
  have h2 := List.pairwise_mergeSort (le := fun a b : Int => decide (a ≤ b)) (by intro a b c; simp; omega) (by intro a b; simp; omega) (partR 2 ms p ms.length)
  exact List.Perm.eq_of_pairwise (fun a b _ _ h h' => Int.le_antisymm h h') hs (h2.imp fun h => by simpa using h) (hp.trans h1.symm)
theorem length_renS (k : Int) (ms p : List Int) : (renS k ms p).length = ms.length := by
  unfold renS
  split
  · rw [List.length_mergeSort, length_partR]
  · rw [length_partR]

def RenPost (w : World) (k : Int) (ms p : List Int) (e : Ending) (w' : World) : Prop :=
  ∃ A n c, e = .returned (.tuple #[.agg #[.int .u8 k, .slice A n c], .int .i64 0]) ∧ RInts w' A n c (renS k ms p) ∧ (0 < n → ∃ b off, A = some ⟨b, off, none⟩ ∧ w.heap.size ≤ b) ∧ Below w.heap.size w w'

/-- A mark that is a name. -/
theorem fine_mark {k : Int} {ms : List Int} {n m : Int} (h : fineS k ms n = true) (hk : k ≠ 3) (hm : m ∈ ms) : ∃ M : Nat, m = (M : Int) ∧ (M : Int) < n := by
  have : 0 ≤ m ∧ m < n := by
    unfold fineS at h
    rw [if_neg hk] at h
    split at h
    · simp only [Bool.and_eq_true, List.all_eq_true] at h
      exact inR_iff.1 (h.1.1 m hm)
    · split at h
      · simp only [Bool.and_eq_true, List.all_eq_true] at h
        exact inR_iff.1 (h.1 m hm)
      · cases h
  exact ⟨m.toNat, by omega, by omega⟩

end Go.Proofs.Ytiebfalodelclaa
