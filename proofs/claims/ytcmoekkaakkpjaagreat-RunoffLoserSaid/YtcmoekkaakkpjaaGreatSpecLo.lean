/-
  The winner of a runoff is no Condorcet loser, in plain terms.
-/
import Derived.Test.YtcmoekkaakkpjaaGreatSpecMj
namespace Go.Proofs.YtcmoekkaakkpjaaGreat
open Go.RowKit Go.Proofs

/-- x stands before y, or y stands nowhere. -/
def prefK (ms : List Int) (x y k : Int) : Prop := 0 ≤ placeS ms x k ∧ (placeS ms y k < 0 ∨ placeS ms x k < placeS ms y k)
theorem placeS_low {ms : List Int} {x k : Int} (hk : 0 ≤ k) : placeS ms x k < 0 ∨ k ≤ placeS ms x k := by
  induction ms generalizing k with
  | nil => left; simp [placeS]
  | cons a r ih =>
    unfold placeS
    split
    · right; exact Int.le_refl _
    · rcases ih (k := k + 1) (by omega) with h | h
      · exact .inl h
      · exact .inr (by omega)
theorem prefK_of_find {φ : Int → Bool} {x y : Int} (hy : φ y = true) (hxy : y ≠ x) : ∀ {ms : List Int} {k : Int}, 0 ≤ k → ms.find? φ = some x → prefK ms x y k
  | [], k, _, h => by simp at h
  | a :: r, k, hk, h => by
    cases ha : φ a with
    | true =>
      rw [List.find?_cons, ha] at h
      simp at h; subst h
      unfold prefK placeS
      rw [if_pos rfl, if_neg (fun e => hxy e.symm)]
      refine ⟨hk, ?_⟩
      rcases placeS_low (ms := r) (x := y) (k := k + 1) (by omega) with h | h
      · exact .inl h
      · exact .inr (by omega)
    | false =>
      rw [List.find?_cons, ha] at h
      have hx := List.find?_some h
      have ih := prefK_of_find hy hxy (k := k + 1) (by omega) h
      unfold prefK at ih ⊢
      unfold placeS
      rw [if_neg (fun e => by rw [← e, ha] at hx; cases hx), if_neg (fun e => by rw [← e, ha] at hy; cases hy)]
      exact ih
theorem prefers1 {ms : List Int} {x y : Int} (hx : 0 ≤ x) (hy : 0 ≤ y) : prefersS 1 ms x y = true ↔ prefK ms x y 0 := by
  unfold prefersS prefK
  rw [if_neg (by omega), if_pos rfl]
  simp
theorem pref_find {φ : Int → Bool} {ms : List Int} {x y : Int} (hx : 0 ≤ x) (hy : 0 ≤ y) (hφ : φ y = true) (hxy : y ≠ x) (h : ms.find? φ = some x) : prefersS 1 ms x y = true :=
  (prefers1 hx hy).2 (prefK_of_find hφ hxy (Int.le_refl _) h)
theorem pref_anti {ms : List Int} {x y : Int} (hx : 0 ≤ x) (hy : 0 ≤ y) (h : prefersS 1 ms x y = true) : prefersS 1 ms y x = false := by
  cases e : prefersS 1 ms y x with
  | false => rfl
  | true =>
    have h1 := (prefers1 hx hy).1 h
    have h2 := (prefers1 hy hx).1 e
    unfold prefK at h1 h2
    omega
theorem pref_none {φ : Int → Bool} {ms : List Int} {x y : Int} (hx : 0 ≤ x) (hy : 0 ≤ y) (hφ : φ y = true) (h : ms.find? φ = none) : prefersS 1 ms y x = false := by
  cases e : prefersS 1 ms y x with
  | false => rfl
  | true =>
    have h2 := (prefers1 hy hx).1 e
    unfold prefK at h2
    have : y ∉ ms := fun hm => List.find?_eq_none.1 h y hm hφ
    have := (placeS_neg (xs := ms) (x := y) (Int.le_refl 0)).2 this
    omega
theorem ofT_wsum (l : List Row) (x y : Nat) : ofT 1 l x y = wsum (fun ms => prefersS 1 ms x y) l := rfl
/-- Who wins a round of at least two is not beaten by all. -/
theorem round_unbeaten {φ : Int → Bool} {l : List Row} {C : Nat} (hr : RankOK l C) {x y : Nat} (hφ : φ (y : Int) = true) (hxy : y ≠ x) (h : (hadL φ l C).sum < 2 * hadS φ l x) : ofT 1 l y x ≤ ofT 1 l x y := by
  have h3 := wsum3 (p := fun ms => decide (ms.find? φ = some (x : Int))) (q := fun ms => prefersS 1 ms y x) (r := fun ms => decide (ms.find? φ = none)) hr.pos (fun r _ => by
    refine ⟨fun hp => ?_, fun hq => ?_⟩
    · simp only [decide_eq_true_eq] at hp
      exact ⟨pref_anti (by omega) (by omega) (pref_find (by omega) (by omega) hφ (by omega) hp), by simp [hp]⟩
    · refine decide_eq_false fun hn => ?_
      rw [pref_none (by omega) (by omega) hφ hn] at hq
      cases hq)
  have hge : wsum (fun ms => decide (ms.find? φ = some (x : Int))) l ≤ wsum (fun ms => prefersS 1 ms x y) l := wsum_le hr.pos fun r _ hp => by
    simp only [decide_eq_true_eq] at hp
    exact pref_find (by omega) (by omega) hφ (by omega) hp
  have hsum := had_sum (φ := φ) hr
  have e1 : wsum (fun ms => decide (ms.find? φ = some (x : Int))) l = hadS φ l x := rfl
  have e2 : wsum (fun ms => decide (ms.find? φ = none)) l = lostS φ l := rfl
  rw [ofT_wsum, ofT_wsum]
  omega
/-- Of two that are left, the one that has no fewer ballots is not beaten by the other. -/
theorem two_unbeaten {l : List Row} {C : Nat} (hr : RankOK l C) {left : List Int} {x y : Nat} (hx : (x : Int) ∈ left) (hy : (y : Int) ∈ left) (hxy : y ≠ x) (h2 : ∀ z ∈ left, z = (x : Int) ∨ z = (y : Int)) (h : hadS (inL left) l y ≤ hadS (inL left) l x) : ofT 1 l y x ≤ ofT 1 l x y := by
  have h1 : wsum (fun ms => prefersS 1 ms y x) l ≤ hadS (inL left) l y := wsum_le hr.pos fun r _ hp => by
    simp only [decide_eq_true_eq]
    cases hf : r.1.find? (inL left) with
    | none => rw [pref_none (by omega) (by omega) (inL_iff.2 hy) hf] at hp; cases hp
    | some z =>
      rcases h2 z (inL_iff.1 (List.find?_some hf)) with rfl | rfl
      · rw [pref_anti (by omega) (by omega) (pref_find (by omega) (by omega) (inL_iff.2 hy) (by omega) hf)] at hp; cases hp
      · rfl
  have h3 : hadS (inL left) l x ≤ wsum (fun ms => prefersS 1 ms x y) l := wsum_le hr.pos fun r _ hp => by
    simp only [decide_eq_true_eq] at hp
    exact pref_find (by omega) (by omega) (inL_iff.2 hy) (by omega) hp
  rw [ofT_wsum, ofT_wsum]
  omega
theorem two_of {left : List Int} (hn : left.Nodup) (h : 2 ≤ left.length) (x : Int) : ∃ y ∈ left, y ≠ x := by
  match left, h with
  | a :: b :: r, _ =>
    by_cases e : a = x
    · refine ⟨b, by simp, fun e2 => ?_⟩
      have := (List.nodup_cons.1 hn).1
      exact this (by rw [e, ← e2]; simp)
    · exact ⟨a, by simp, e⟩
theorem count_one {l : List Row} {C : Nat} {lot : List Int} {f : Nat} {a : Int} {rs : List Rnd} {ts : List Row} : ∃ rs' ts', countS l C lot (f + 1) [a] rs ts = ([a], rs', ts') := by
  cases hw : winS [a] (hadL (inL [a]) l C) with
  | none => exact absurd hw (win_of_one rfl)
  | some z =>
    have := List.mem_of_find?_eq_some hw
    simp at this; subst this
    rw [countS_some hw]; exact ⟨_, _, rfl⟩
theorem count_unbeaten {l : List Row} {C : Nat} {lot : List Int} (hr : RankOK l C) (hlot : lotS lot C = true) : ∀ (f : Nat) (left : List Int) (rs : List Rnd) (ts : List Row) (x : Int) (rs' : List Rnd) (ts' : List Row), left.Sublist (rangeI C) → left.length ≤ f → 2 ≤ left.length →
    countS l C lot f left rs ts = ([x], rs', ts') → ∃ y : Nat, (y : Int) ∈ left ∧ (y : Int) ≠ x ∧ ofT 1 l y x.toNat ≤ ofT 1 l x.toNat y
  | 0, left, rs, ts, x, rs', ts', _, hl, h2, _ => by omega
  | f + 1, left, rs, ts, x, rs', ts', hsub, hl, h2, h => by
    have hnd := (nodup_rangeI C).sublist hsub
    cases hw : winS left (hadL (inL left) l C) with
    | some z =>
      rw [countS_some hw] at h
      obtain rfl : z = x := by injection h with h _; simpa using h
      have hb := List.find?_some hw
      have hxl := List.mem_of_find?_eq_some hw
      have hxr := mem_rangeI.1 (hsub.subset hxl)
      have h1 : left.length ≠ 1 := by omega
      simp [h1] at hb
      rw [getI_had hxr] at hb
      obtain ⟨y, hy, hyx⟩ := two_of hnd h2 z
      have hyr := mem_rangeI.1 (hsub.subset hy)
      obtain ⟨X, rfl⟩ : ∃ X : Nat, z = X := ⟨z.toNat, by omega⟩
      obtain ⟨Y, rfl⟩ : ∃ Y : Nat, y = Y := ⟨y.toNat, by omega⟩
      exact ⟨Y, hy, hyx, by rw [Int.toNat_natCast]; exact round_unbeaten hr (inL_iff.2 hy) (fun e => hyx (by rw [e])) hb⟩
    | none =>
      rw [countS_none hw] at h
      have hne : left ≠ [] := List.length_pos_iff.1 (by omega)
      have hsl2 : (leastS (hadL (inL left) l C) left).Sublist left := bestS_sub _ _
      have hm0 := lastS_mem (lot := lot) (bestS_ne (f := fun c => - getI (hadL (inL left) l C) c) hne) fun x hx => lot_in hlot (hsub.subset (hsl2.subset hx))
      have hm0 : lastS lot (leastS (hadL (inL left) l C) left) ∈ leastS (hadL (inL left) l C) left := hm0
      have hmin := (mem_bestS.1 hm0).2
      have hm := hsl2.subset hm0
      have hlo := length_outS hnd hm
      generalize lastS lot (leastS (hadL (inL left) l C) left) = z at *
      by_cases h3 : 3 ≤ left.length
      · obtain ⟨y, hy, r⟩ := count_unbeaten hr hlot f (outS left z) _ _ x rs' ts' ((outS_sub _ _).trans hsub) (by omega) (by omega) h
        exact ⟨y, (outS_sub _ _).subset hy, r⟩
      · obtain ⟨a, ha⟩ := List.length_eq_one_iff.1 (show (outS left z).length = 1 by omega)
        obtain ⟨f', rfl⟩ : ∃ f', f = f' + 1 := ⟨f - 1, by omega⟩
        rw [ha] at h
        obtain ⟨_, _, h4⟩ := count_one (l := l) (C := C) (lot := lot) (f := f') (a := a) (rs := rs ++ [rndS (hadL (inL left) l C) (lostS (inL left) l) [] [z]]) (ts := tiedS ts (leastS (hadL (inL left) l C) left) z)
        rw [h4] at h
        obtain rfl : a = x := by injection h with h _; simpa using h
        have hal : a ∈ outS left z := by rw [ha]; simp
        have haz : a ≠ z := by unfold outS at hal; rw [List.mem_filter] at hal; simpa using hal.2
        have hal2 : a ∈ left := (outS_sub left z).subset hal
        have har := mem_rangeI.1 (hsub.subset hal2)
        have hzr := mem_rangeI.1 (hsub.subset hm)
        have hge := hmin a hal2
        rw [getI_had har, getI_had hzr] at hge
        obtain ⟨X, rfl⟩ : ∃ X : Nat, a = X := ⟨a.toNat, by omega⟩
        obtain ⟨Z, rfl⟩ : ∃ Z : Nat, z = Z := ⟨z.toNat, by omega⟩
        refine ⟨Z, hm, fun e => haz e.symm, ?_⟩
        rw [Int.toNat_natCast]
        refine two_unbeaten hr hal2 hm (fun e => haz (by rw [e])) (fun u hu => ?_) (by omega)
        by_cases e : u = (Z : Int)
        · exact .inr e
        · have : u ∈ outS left (Z : Int) := by unfold outS; rw [List.mem_filter]; exact ⟨hu, by simp [e]⟩
          rw [ha] at this
          exact .inl (by simpa using this)
end Go.Proofs.YtcmoekkaakkpjaaGreat
