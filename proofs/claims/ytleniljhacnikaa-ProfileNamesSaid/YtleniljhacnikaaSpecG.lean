/-
  Renaming there and back, and renaming what is kept, in plain terms. No program is named here.
-/
import Derived.Test.YtleniljhacnikaaSpecN
import Derived.Test.YtleniljhacnikaaSpecF
namespace Go.Proofs.Ytleniljhacnikaa

theorem renS_ne {k : Int} (hk : k ≠ 3) (h2 : k ≠ 2) (ms p : List Int) : renS k ms p = ms.map (nameS p) := by
  unfold renS; rw [if_neg h2, partR_map hk]
theorem renS_two_perm (ms p : List Int) : (renS 2 ms p).Perm (ms.map (nameS p)) := by
  unfold renS
  rw [if_pos rfl, partR_map (by omega)]
  exact List.mergeSort_perm _ _
theorem renS_two_sorted (ms p : List Int) : (renS 2 ms p).Pairwise (· ≤ ·) := by
  unfold renS
  rw [if_pos rfl]
  exact (List.pairwise_mergeSort (le := fun a b : Int => decide (a ≤ b)) (by intro a b c; simp; omega) (by intro a b; simp; omega) (partR 2 ms p ms.length)).imp fun h => by simpa using h
theorem renS_two_eq {ms p ys : List Int} (hp : ys.Perm (ms.map (nameS p))) (hs : ys.Pairwise (· ≤ ·)) : ys = renS 2 ms p :=
  renS_sorted (by rw [partR_map (by omega)]; exact hp) hs
theorem renS_three (ms p : List Int) {i : Nat} (hi : i < ms.length) : (renS 3 ms p)[i]? = some (if placeS p i 0 < ms.length ∧ 0 ≤ placeS p i 0 then ms.getD (placeS p i 0).toNat 0 else 0) := by
  unfold renS partR
  rw [if_neg (by omega), if_pos rfl, List.getElem?_map, List.getElem?_range hi]; rfl

/-- Marks of the first two kinds are names; of the third, as many as there are candidates. -/
theorem marks_of {k : Int} {ms : List Int} {n : Nat} (h : bcheckS k ms n = 0) : (k = 1 ∨ k = 2 ∨ k = 3) ∧ (k ≠ 3 → ∀ x ∈ ms, 0 ≤ x ∧ x < n) ∧ (k = 3 → ms.length = n) ∧ (k = 2 → ms.Pairwise (· ≤ ·)) := by
  unfold bcheckS at h
  split at h
  · cases h
  split at h
  · rename_i hf
    unfold fineS at hf
    split at hf
    · rename_i h3
      simp only [Bool.and_eq_true, decide_eq_true_eq] at hf
      exact ⟨.inr (.inr h3), fun e => absurd h3 e, fun _ => by omega, fun e => by omega⟩
    · rename_i h3
      split at hf
      · rename_i h2
        simp only [Bool.and_eq_true, List.all_eq_true] at hf
        exact ⟨.inr (.inl h2), fun _ x hx => inR_iff.1 (hf.1.1 x hx), fun e => absurd e h3, fun _ => sortedB_iff.1 hf.1.2⟩
      · split at hf
        · rename_i h2 h1
          simp only [Bool.and_eq_true, List.all_eq_true] at hf
          exact ⟨.inl h1, fun _ x hx => inR_iff.1 (hf.1 x hx), fun e => absurd e h3, fun e => absurd e h2⟩
        · cases hf
  · cases h

theorem back_map {p ms : List Int} {n : Nat} (ht : turnedS p = true) (hl : p.length = n) (hr : ∀ x ∈ ms, 0 ≤ x ∧ x < n) : (ms.map (nameS p)).map (nameS (backS p)) = ms := by
  rw [List.map_map]
  conv => rhs; rw [← List.map_id ms]
  refine List.map_congr_left fun x hx => ?_
  have hx' := hr x hx
  obtain ⟨i, rfl⟩ : ∃ i : Nat, x = i := ⟨x.toNat, by omega⟩
  exact back_name ht hl (by omega)
theorem place_back {p : List Int} {n : Nat} (ht : turnedS p = true) (hl : p.length = n) {i : Nat} (hi : i < n) : placeS (backS p) i 0 = nameS p i := by
  have hN := names_of ht hl
  obtain ⟨hb, hlb⟩ := back_turned ht hl
  have hNb := names_of hb hlb
  have ni := hN.name_in (x := (i : Int)) (by omega)
  have h1 := hNb.get (i := (nameS p i).toNat) (by omega)
  rw [Int.toNat_of_nonneg ni.1, back_name ht hl hi] at h1
  rw [placeS_at hNb.nd h1]
  omega
theorem place_name {p : List Int} {n : Nat} (hN : Names p n) {i : Nat} (hi : i < n) : placeS p (nameS p i) 0 = i := placeS_at hN.nd (hN.get hi)

/-- A ballot renamed, and renamed back. -/
theorem ren_ren {k : Int} {ms p : List Int} {n : Nat} (ht : turnedS p = true) (hl : p.length = n) (h : bcheckS k ms n = 0) : renS k (renS k ms p) (backS p) = ms := by
  obtain ⟨hk, hr, h3, hs⟩ := marks_of h
  have hN := names_of ht hl
  rcases hk with rfl | rfl | rfl
  · rw [renS_ne (by omega) (by omega), renS_ne (by omega) (by omega), back_map ht hl (hr (by omega))]
  · refine (renS_two_eq ?_ (hs rfl)).symm
    have := (renS_two_perm ms p).map (nameS (backS p))
    rw [back_map ht hl (hr (by omega))] at this
    exact this.symm
  · have hm := h3 rfl
    have hlr := length_renS 3 ms p
    apply List.ext_getElem?
    intro i
    by_cases hi : i < n
    · have ni := hN.name_in (x := (i : Int)) (by omega)
      obtain ⟨j, hj⟩ : ∃ j : Nat, nameS p i = j := ⟨(nameS p i).toNat, by omega⟩
      rw [renS_three _ _ (by omega), place_back ht hl hi, if_pos (by omega), hj, Int.toNat_natCast, List.getD_eq_getElem?_getD, renS_three _ _ (by omega), ← hj, place_name hN hi, if_pos (by omega), Int.toNat_natCast]
      simp [List.getD, show i < ms.length by omega]
    · rw [List.getElem?_eq_none (by rw [length_renS, hlr]; omega), List.getElem?_eq_none (by omega)]

/-- Which names are left, after t of them have been put. -/
def movB (left : List Bool) (p : List Int) (t : Nat) : List Bool := (List.range p.length).map fun i : Nat => decide (placeS p i 0 < t ∧ 0 ≤ placeS p i 0) && left.getD (placeS p i 0).toNat false
theorem length_movB (left : List Bool) (p : List Int) (t : Nat) : (movB left p t).length = p.length := by simp [movB]
theorem movB_zero (left : List Bool) (p : List Int) : movB left p 0 = List.replicate p.length false := by
  unfold movB
  refine List.ext_getElem (by simp) fun i h1 h2 => ?_
  simp
  intro h; omega
theorem movB_point {left : List Bool} {p : List Int} {t : Nat} {v : Int} (hn : p.Nodup) (hv : p[t]? = some v) (h0 : 0 ≤ v) : movB left p (t + 1) = (movB left p t).set v.toNat (left.getD t false) := by
  have hpl := placeS_at hn hv
  unfold movB
  apply List.ext_getElem?
  intro i
  by_cases hi : i < p.length
  · by_cases e : v.toNat = i
    · rw [e, List.getElem?_set_self (by simpa using hi)]
      simp only [List.getElem?_map, List.getElem?_range hi, Option.map_some]
      rw [show (i : Int) = v by omega, hpl]
      simp
      omega
    · rw [List.getElem?_set_ne e]
      simp only [List.getElem?_map, List.getElem?_range hi, Option.map_some]
      have hne : placeS p i 0 ≠ t := fun h => by
        have hin : (i : Int) ∈ p := by
          by_cases hmem : (i : Int) ∈ p
          · exact hmem
          · have := (placeS_neg (xs := p) (x := (i : Int)) (Int.le_refl 0)).2 hmem; omega
        have := placeS_inj (xs := p) (x := (i : Int)) (y := v) (k := 0) (by omega) hin (by rw [h, hpl])
        omega
      have : (placeS p i 0 < ((t + 1 : Nat) : Int) ∧ 0 ≤ placeS p i 0) ↔ (placeS p i 0 < (t : Int) ∧ 0 ≤ placeS p i 0) := by omega
      simp only [this]
  · rw [List.getElem?_eq_none (by simp; omega), List.getElem?_eq_none (by simp; omega)]
theorem isS_getD (bs : List Bool) (i : Nat) : isS bs i = bs.getD i false := by
  unfold isS
  by_cases h : i < bs.length
  · rw [inR_iff.2 (by omega)]; simp
  · have : inR 0 bs.length i = false := by rw [← Bool.not_eq_true, inR_iff]; omega
    simp [this, List.getD, List.getElem?_eq_none (Nat.le_of_not_lt h)]
theorem isS_mov {left : List Bool} {p : List Int} {n : Nat} (hN : Names p n) {i : Nat} (hi : i < n) : isS (movB left p n) (nameS p i) = isS left i := by
  have ni := hN.name_in (x := (i : Int)) (by omega)
  obtain ⟨j, hj⟩ : ∃ j : Nat, nameS p i = j := ⟨(nameS p i).toNat, by omega⟩
  have hpl := place_name hN hi
  rw [hj] at hpl ⊢
  rw [isS_getD, isS_getD, List.getD_eq_getElem?_getD]
  unfold movB
  rw [List.getElem?_map, List.getElem?_range (by rw [hN.len]; omega), Option.map_some, hpl]
  simp
  intro h; omega
/-- What is kept, renamed, is the renamed, kept by its names. -/
theorem kept_ren {k : Int} {ms p : List Int} {n : Nat} {left : List Bool} (ht : turnedS p = true) (hl : p.length = n) (h : bcheckS k ms n = 0) :
    keptS k (renS k ms p) (movB left p n) = renS k (keptS k ms left) p := by
  obtain ⟨hk, hr, h3, hs⟩ := marks_of h
  have hN := names_of ht hl
  have hfil : ∀ xs : List Int, (∀ x ∈ xs, 0 ≤ x ∧ x < n) → (xs.map (nameS p)).filter (fun x => isS (movB left p n) x) = (xs.filter fun x => isS left x).map (nameS p) := fun xs hx => by
    rw [List.filter_map]
    congr 1
    refine List.filter_congr fun x hxx => ?_
    have hx' := hx x hxx
    obtain ⟨i, rfl⟩ : ∃ i : Nat, x = i := ⟨x.toNat, by omega⟩
    exact isS_mov hN (by omega)
  rcases hk with rfl | rfl | rfl
  · have e1 : ∀ ms bs, keptS 1 ms bs = ms.filter fun x => isS bs x := fun ms bs => by unfold keptS; rw [if_pos (.inl rfl)]
    rw [renS_ne (by omega) (by omega), renS_ne (by omega) (by omega), e1, e1]
    exact hfil ms (hr (by omega))
  · have e1 : ∀ ms bs, keptS 2 ms bs = ms.filter fun x => isS bs x := fun ms bs => by unfold keptS; rw [if_pos (.inr rfl)]
    rw [e1, e1]
    refine renS_two_eq ?_ ((renS_two_sorted ms p).filter _)
    have := (renS_two_perm ms p).filter (fun x => isS (movB left p n) x)
    rw [hfil ms (hr (by omega))] at this
    exact this
  · have hm := h3 rfl
    have e1 : ∀ ms bs, keptS 3 ms bs = (List.range ms.length).map fun i : Nat => if isS bs i = true then ms.getD i 0 else 0 := fun ms bs => by unfold keptS; rw [if_neg (by omega), if_pos rfl]
    have hlk : (keptS 3 ms left).length = n := by rw [e1]; simp [hm]
    apply List.ext_getElem?
    intro i
    by_cases hi : i < n
    · obtain ⟨j, hj, hgj, hnj⟩ := name_onto ht hl hi
      have hpl : placeS p i 0 = j := by rw [← hnj]; exact place_name hN hj
      have a1 : isS (movB left p n) (i : Int) = isS left j := by rw [← hnj]; exact isS_mov hN hj
      have a2 : (renS 3 ms p).getD i 0 = ms.getD j 0 := by rw [List.getD_eq_getElem?_getD, renS_three _ _ (by omega), hpl, if_pos (by omega), Int.toNat_natCast]; rfl
      have a3 : (keptS 3 ms left).getD j 0 = if isS left j = true then ms.getD j 0 else 0 := by rw [e1, List.getD_eq_getElem?_getD, List.getElem?_map, List.getElem?_range (by omega)]; rfl
      have a4 : (renS 3 (keptS 3 ms left) p)[i]? = some (if isS left j = true then ms.getD j 0 else 0) := by rw [renS_three _ _ (by omega), hpl, if_pos (by omega), Int.toNat_natCast, a3]
      rw [e1 (renS 3 ms p) (movB left p n), List.getElem?_map, List.getElem?_range (by rw [length_renS]; omega), Option.map_some, a1, a2, a4]
    · rw [List.getElem?_eq_none (by rw [e1, List.length_map, List.length_range, length_renS]; omega), List.getElem?_eq_none (by rw [length_renS]; omega)]

theorem names_law {n : Nat} {k : Int} {l : List Row} {p : List Int} (left : List Bool) (ht : turnedS p = true) (hl : p.length = n) (h : checkS n k l = 0) :
    checkS n k (eachS (fun ms => renS k ms p) l) = 0 ∧ eachS (fun ms => renS k ms (backS p)) (eachS (fun ms => renS k ms p) l) = l ∧ totS (eachS (fun ms => renS k ms p) l) = totS l ∧
      turnP (fun ms => keptS k ms left) n k l = ⟨0, n, k, eachS (fun ms => keptS k ms left) l⟩ ∧ checkS n k (eachS (fun ms => keptS k ms left) l) = 0 ∧
      turnP (fun ms => keptS k ms (movB left p n)) n k (eachS (fun ms => renS k ms p) l) = ⟨0, n, k, eachS (fun ms => renS k ms p) (eachS (fun ms => keptS k ms left) l)⟩ := by
  have hN := names_of ht hl
  obtain ⟨h1, h2, h3, h4, h5, h6, h7, h8, h9⟩ := check_iff.1 h
  have hc := ren_check hN h
  refine ⟨hc, ?_, tot_each _ _, ?_, kept_check' left h, ?_⟩
  · rw [each_each _ _ h8]
    exact each_same h7 h8 fun r hr => ren_ren ht hl (h9 r hr)
  · unfold turnP; rw [if_pos h]
  · unfold turnP
    rw [if_pos hc, each_each _ _ h8, each_each _ _ h8]
    rw [each_congr (f := fun ms => keptS k (renS k ms p) (movB left p n)) (g := fun ms => renS k (keptS k ms left) p) fun r hr => kept_ren ht hl (h9 r hr)]
end Go.Proofs.Ytleniljhacnikaa
