/-
  A runoff under other names, in plain terms.
-/
import Derived.Test.YtiebfalodelclaaGreatL15f
import Derived.Test.YtiebfalodelclaaGreatSpecNp
namespace Go.Proofs.YtiebfalodelclaaGreat
open Go.RowKit Go.Proofs

theorem had_ren {p : List Int} {n : Nat} {S : List Int} {l : List Row} (hN : Names p n) (hS : InR n S) (hl : ∀ r ∈ l, ∀ x ∈ r.1, 0 ≤ x ∧ x < n) {x : Int} (hx : 0 ≤ x ∧ x < n) : hadS (inL (imgS p n S)) (renL p l) (nameS p x) = hadS (inL S) l x := by
  unfold hadS renL
  rw [wsum_each]
  refine wsum_congr fun r hr => ?_
  rw [renS_ne (by omega) (by omega), find_img hN hS (hl r hr)]
  rw [Bool.eq_iff_iff, decide_eq_true_eq, decide_eq_true_eq]
  cases hf : r.1.find? (inL S) with
  | none => simp
  | some y =>
    have hy := hl r hr y (List.mem_of_find?_eq_some hf)
    simp only [Option.map_some, Option.some.injEq]
    exact ⟨fun e => hN.inj hy hx e, fun e => by rw [e]⟩
theorem lost_ren {p : List Int} {n : Nat} {S : List Int} {l : List Row} (hN : Names p n) (hS : InR n S) (hl : ∀ r ∈ l, ∀ x ∈ r.1, 0 ≤ x ∧ x < n) : lostS (inL (imgS p n S)) (renL p l) = lostS (inL S) l := by
  unfold lostS renL
  rw [wsum_each]
  refine wsum_congr fun r hr => ?_
  rw [renS_ne (by omega) (by omega), find_img hN hS (hl r hr)]
  cases r.1.find? (inL S) <;> simp
theorem hadL_ren {p : List Int} {n : Nat} {S : List Int} {l : List Row} (hN : Names p n) (hS : InR n S) (hl : ∀ r ∈ l, ∀ x ∈ r.1, 0 ≤ x ∧ x < n) :
    (hadL (inL (imgS p n S)) (renL p l) n).map wholeS = renHad p ((hadL (inL S) l n).map wholeS) := by
  unfold renHad
  rw [List.length_map, length_hadL]
  refine List.ext_getElem? fun i => ?_
  by_cases hi : i < n
  · obtain ⟨h1, h2⟩ := name_idx hN hi
    have e := had_ren hN hS hl (x := (idx p i : Int)) ⟨by omega, by omega⟩
    rw [h2] at e
    rw [List.getElem?_map, get_hadL _ _ hi, List.getElem?_map, List.getElem?_range hi, e]
    simp [List.getD, get_hadL _ _ h1]
  · rw [List.getElem?_eq_none (by rw [List.length_map, length_hadL]; omega), List.getElem?_eq_none (by simp; omega)]
theorem getI_ren {p : List Int} {n : Nat} {S : List Int} {l : List Row} (hN : Names p n) (hS : InR n S) (hl : ∀ r ∈ l, ∀ x ∈ r.1, 0 ≤ x ∧ x < n) {x : Int} (hx : 0 ≤ x ∧ x < n) :
    getI (hadL (inL (imgS p n S)) (renL p l) n) (nameS p x) = getI (hadL (inL S) l n) x := by
  rw [getI_had (hN.name_in hx), getI_had hx, had_ren hN hS hl hx]
theorem sum_ren {p : List Int} {n : Nat} {S : List Int} {l : List Row} (hN : Names p n) (hS : InR n S) (hl : ∀ r ∈ l, ∀ x ∈ r.1, 0 ≤ x ∧ x < n) (hl2 : ∀ r ∈ renL p l, ∀ x ∈ r.1, 0 ≤ x ∧ x < n) :
    (hadL (inL (imgS p n S)) (renL p l) n).sum = (hadL (inL S) l n).sum := by
  have h1 := had_all (φ := inL (imgS p n S)) (n := n) hl2
  have h2 := had_all (φ := inL S) (n := n) hl
  have h3 := lost_ren hN hS hl
  have h4 : totS (renL p l) = totS l := tot_each _ _
  omega
/-- Who wins goes along with the names. -/
theorem win_ren {p : List Int} {n : Nat} {S had had2 : List Int} (hN : Names p n) (hS : S.Sublist (rangeI n)) (h0 : ∀ x ∈ had, 0 ≤ x) (hlen : had.length = n) (hs : had2.sum = had.sum) (hg : ∀ x : Int, 0 ≤ x ∧ x < n → getI had2 (nameS p x) = getI had x) :
    winS (imgS p n S) had2 = (winS S had).map (nameS p) := by
  have hSr : InR n S := (inR_range n).sub hS
  have hln := img_len hN hSr ((nodup_rangeI n).sublist hS)
  unfold winS
  rw [hln, hs]
  by_cases h1 : S.length = 1
  · obtain ⟨a, rfl⟩ := List.length_eq_one_iff.1 h1
    obtain ⟨b, hb⟩ := List.length_eq_one_iff.1 (hln.trans h1)
    have : b = nameS p a := by
      have hm : nameS p a ∈ imgS p n [a] := (mem_img hN hSr).2 ⟨a, by simp, rfl⟩
      rw [hb] at hm; exact (List.mem_singleton.1 hm).symm
    rw [hb, this]; simp
  · have hpr : ∀ c, (decide (S.length = 1) || decide (had.sum < 2 * getI had c)) = decide (had.sum < 2 * getI had c) := fun c => by simp [h1]
    have hpr2 : ∀ c, (decide (S.length = 1) || decide (had.sum < 2 * getI had2 c)) = decide (had.sum < 2 * getI had2 c) := fun c => by simp [h1]
    simp only [hpr, hpr2]
    cases hf : S.find? (fun c => decide (had.sum < 2 * getI had c)) with
    | some x =>
      have hx := List.mem_of_find?_eq_some hf
      have hxp : had.sum < 2 * getI had x := by simpa using List.find?_some hf
      refine find_only ((mem_img hN hSr).2 ⟨x, hx, rfl⟩) (by rw [hg x (hSr x hx)]; exact decide_eq_true hxp) fun c hc hcp => ?_
      obtain ⟨y, hy, rfl⟩ := (mem_img hN hSr).1 hc
      rw [hg y (hSr y hy)] at hcp
      rw [win_one h0 hlen (hSr y hy) (hSr x hx) (of_decide_eq_true hcp) hxp]
    | none =>
      refine List.find?_eq_none.2 fun c hc hcp => ?_
      obtain ⟨y, hy, rfl⟩ := (mem_img hN hSr).1 hc
      rw [hg y (hSr y hy)] at hcp
      exact List.find?_eq_none.1 hf y hy hcp
/-- The count goes along with the names. -/
theorem count_ren {p lot : List Int} {C : Nat} {l : List Row} (hN : Names p C) (h : checkS C 1 l = 0) (hlot : lotS lot C = true) : ∀ (f : Nat) (left : List Int) (rs : List Rnd) (ts : List Row), left.Sublist (rangeI C) → left ≠ [] →
    countS (renL p l) C (lot.map (nameS p)) f (imgS p C left) (rs.map (renRnd p)) (ts.map (renTie p)) = renO p (countS l C lot f left rs ts)
  | 0, left, rs, ts, _, _ => rfl
  | f + 1, left, rs, ts, hsub, hne => by
    have hr := rank_ok h
    have hr2 : RankOK (renL p l) C := rank_ok (ren_check hN h)
    have hS : InR C left := (inR_range C).sub hsub
    have hw := win_ren (had := hadL (inL left) l C) (had2 := hadL (inL (imgS p C left)) (renL p l) C) hN hsub (fun x hx => (hr.hads _ x hx).1) (length_hadL _ _ _) (sum_ren hN hS hr.marks hr2.marks) (fun x hx => getI_ren hN hS hr.marks hx)
    cases hc : winS left (hadL (inL left) l C) with
    | some x =>
      rw [hc] at hw
      rw [countS_some hc, countS_some hw]
      unfold renO
      simp only [List.map_append, List.map_cons, List.map_nil, renRnd, rndS, hadL_ren hN hS hr.marks, lost_ren hN hS hr.marks]
    | none =>
      rw [hc] at hw
      rw [countS_none hc, countS_none hw]
      have hle : leastS (hadL (inL (imgS p C left)) (renL p l) C) (imgS p C left) = imgS p C (leastS (hadL (inL left) l C) left) :=
        best_ren (f := fun c => - getI (hadL (inL left) l C) c) hN hS fun x hx => by rw [getI_ren hN hS hr.marks hx]
      have hsl : (leastS (hadL (inL left) l C) left).Sublist left := bestS_sub _ _
      have hAr := hS.sub hsl
      have hAn : leastS (hadL (inL left) l C) left ≠ [] := bestS_ne hne
      have hla := last_ren (lot := lot) hN hAr (lot_in_range hlot) hAn fun x hx => lot_in hlot (hsub.subset (hsl.subset hx))
      have hzm := lastS_mem (lot := lot) hAn fun x hx => lot_in hlot (hsub.subset (hsl.subset hx))
      have hand : (leastS (hadL (inL left) l C) left).Nodup := ((nodup_rangeI C).sublist hsub).sublist hsl
      rw [hle, hla, out_ren hN hS (hAr _ hzm), tied_ren hN hAr hand, lost_ren hN hS hr.marks]
      have ih := count_ren hN h hlot f (outS left (lastS lot (leastS (hadL (inL left) l C) left))) (rs ++ [rndS (hadL (inL left) l C) (lostS (inL left) l) [] [lastS lot (leastS (hadL (inL left) l C) left)]]) (tiedS ts (leastS (hadL (inL left) l C) left) (lastS lot (leastS (hadL (inL left) l C) left))) ((outS_sub _ _).trans hsub) (List.length_pos_iff.1 (by have h1 := length_outS ((nodup_rangeI C).sublist hsub) (hsl.subset hzm); have h2 : left.length ≠ 1 := fun e => win_of_one e hc; have h3 := List.length_pos_iff.2 hne; omega))
      rw [← ih]
      congr 1
      rw [List.map_append]
      congr 1
      simp only [List.map_cons, List.map_nil, renRnd, rndS, hadL_ren hN hS hr.marks]
theorem count_ren' {p lot : List Int} {C : Nat} {l : List Row} (hN : Names p C) (h : checkS C 1 l = 0) (hlot : lotS lot C = true) : countS (renL p l) C (lot.map (nameS p)) C (rangeI C) [] [] = renO p (countS l C lot C (rangeI C) [] []) := by
  have := count_ren hN h hlot C (rangeI C) [] [] (List.Sublist.refl _) (fun e => by have h1 := congrArg List.length e; rw [length_rangeI] at h1; have := hN.one; simp at h1; omega)
  rwa [img_range hN] at this

end Go.Proofs.YtiebfalodelclaaGreat
