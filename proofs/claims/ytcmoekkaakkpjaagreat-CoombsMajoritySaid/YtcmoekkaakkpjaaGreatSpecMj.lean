/-
  Majorities in a runoff, in plain terms.
-/
import Derived.Test.YtcmoekkaakkpjaaGreatL15f
namespace Go.Proofs.YtcmoekkaakkpjaaGreat
open Go.RowKit Go.Proofs

/-- A ballot that ranks the set before all others. -/
def solidB (set : List Int) (ms : List Int) : Bool := decide (set.length ≤ ms.length) && (ms.take set.length).all (inL set)
theorem wsum3 {p q r : List Int → Bool} : ∀ {l : List Row}, Pos l → (∀ x ∈ l, (p x.1 = true → q x.1 = false ∧ r x.1 = false) ∧ (q x.1 = true → r x.1 = false)) → wsum p l + wsum q l + wsum r l ≤ totS l
  | [], _, _ => by simp [wsum_nil, totS]
  | a :: t, hp, h => by
    have ih := wsum3 (p := p) (q := q) (r := r) (l := t) (fun x hx => hp x (List.mem_cons_of_mem _ hx)) (fun x hx => h x (List.mem_cons_of_mem _ hx))
    have ha := hp a (List.mem_cons_self ..)
    have h1 := h a (List.mem_cons_self ..)
    have e : totS (a :: t) = a.2 + totS t := by simp [totS]
    rw [wsum_cons, wsum_cons, wsum_cons, e]
    cases hp' : p a.1 <;> cases hq : q a.1 <;> cases hr : r a.1 <;> simp [hp', hq, hr] at h1 ⊢ <;> omega
/-- Pigeons: as many places as elements of a set without repetition, all of them in it: all of it. -/
theorem take_all {set ms : List Int} (_hs : set.Nodup) (hm : ms.Nodup) (h : solidB set ms = true) {s : Int} (hin : s ∈ set) : s ∈ ms.take set.length := by
  unfold solidB at h
  rw [Bool.and_eq_true, decide_eq_true_eq, List.all_eq_true] at h
  have hlen : (ms.take set.length).length = set.length := by rw [List.length_take]; omega
  exact (perm_of_subset (hm.sublist (List.take_sublist _ _)) (fun x hx => inL_iff.1 (h.2 x hx)) (by omega)).symm.subset hin
theorem find_take {φ : Int → Bool} {ms : List Int} {n : Nat} {s : Int} (h : s ∈ ms.take n) (hs : φ s = true) : ∃ x, ms.find? φ = some x ∧ x ∈ ms.take n := by
  have e : ms.find? φ = ((ms.take n).find? φ).or ((ms.drop n).find? φ) := by
    conv => lhs; rw [← List.take_append_drop n ms]
    rw [List.find?_append]
  cases hf : (ms.take n).find? φ with
  | none => exact absurd hs (List.find?_eq_none.1 hf s h)
  | some x => exact ⟨x, by rw [e, hf]; rfl, List.mem_of_find?_eq_some hf⟩
/-- A ballot that is ahead counts for one of the set, as long as one is left. -/
theorem ahead_find {set left ms : List Int} (hs : set.Nodup) (hm : ms.Nodup) (h : solidB set ms = true) {s : Int} (hin : s ∈ set) (hl : s ∈ left) : ∃ x, ms.find? (inL left) = some x ∧ x ∈ set ∧ x ∈ left := by
  obtain ⟨x, hx, hxt⟩ := find_take (φ := inL left) (take_all hs hm h hin) (inL_iff.2 hl)
  refine ⟨x, hx, ?_, inL_iff.1 (List.find?_some hx)⟩
  unfold solidB at h
  rw [Bool.and_eq_true, List.all_eq_true] at h
  exact inL_iff.1 (h.2 x hxt)
theorem had_sum {φ : Int → Bool} {l : List Row} {C : Nat} (h : RankOK l C) : (hadL φ l C).sum = totS l - lostS φ l := by
  have := had_all (φ := φ) (n := C) h.marks
  omega
/-- What more than half of all ballots rank first elects one of it. -/
theorem solid_won {l : List Row} {C : Nat} {lot set : List Int} (hr : RankOK l C) (hnd : ∀ r ∈ l, r.1.Nodup) (hs : set.Nodup) (hlot : lotS lot C = true) (hW : totS l < 2 * wsum (solidB set) l) :
    ∀ (f : Nat) (left : List Int) (rs : List Rnd) (ts : List Row), left.Sublist (rangeI C) → left.length ≤ f → (∃ s ∈ set, s ∈ left) → ∃ x ∈ set, (countS l C lot f left rs ts).1 = [x]
  | 0, left, rs, ts, _, hl, ⟨s, _, hsl⟩ => by
    have := List.length_pos_iff.2 (List.ne_nil_of_mem hsl)
    omega
  | f + 1, left, rs, ts, hsub, hl, ⟨s, hss, hsl⟩ => by
    have hsum := had_sum (φ := inL left) hr
    have hl0 := (hr.lost (inL left)).1
    cases hw : winS left (hadL (inL left) l C) with
    | some x =>
      rw [countS_some hw]
      refine ⟨x, ?_, rfl⟩
      refine Decidable.byContradiction fun hx => ?_
      have hb := List.find?_some hw
      have hxl := List.mem_of_find?_eq_some hw
      by_cases h1 : left.length = 1
      · obtain ⟨a, rfl⟩ := List.length_eq_one_iff.1 h1
        simp at hsl hxl
        subst hsl hxl
        exact hx hss
      · simp [h1] at hb
        have hxr := mem_rangeI.1 (hsub.subset hxl)
        rw [getI_had hxr] at hb
        have h3 := wsum3 (p := fun ms => decide (ms.find? (inL left) = some x)) (q := solidB set) (r := fun ms => decide (ms.find? (inL left) = none)) hr.pos (fun r hr' => by
          refine ⟨fun hp => ?_, fun hq => ?_⟩
          · simp only [decide_eq_true_eq] at hp
            refine ⟨?_, by simp [hp]⟩
            cases hq : solidB set r.1 with
            | false => rfl
            | true =>
              obtain ⟨y, hy, hys, _⟩ := ahead_find hs (hnd r hr') hq hss hsl
              rw [hp] at hy; cases hy
              exact absurd hys hx
          · obtain ⟨y, hy, _⟩ := ahead_find hs (hnd r hr') hq hss hsl
            simp [hy])
        have e1 : wsum (fun ms => decide (ms.find? (inL left) = some x)) l = hadS (inL left) l x := rfl
        have e2 : wsum (fun ms => decide (ms.find? (inL left) = none)) l = lostS (inL left) l := rfl
        omega
    | none =>
      rw [countS_none hw]
      have hne : left ≠ [] := List.ne_nil_of_mem hsl
      have hlen : left.length ≠ 1 := fun e => win_of_one e hw
      have hsl2 : (leastS (hadL (inL left) l C) left).Sublist left := bestS_sub _ _
      have hm := hsl2.subset (lastS_mem (lot := lot) (bestS_ne (f := fun c => - getI (hadL (inL left) l C) c) hne) fun x hx => lot_in hlot (hsub.subset (hsl2.subset hx)))
      have hm : lastS lot (leastS (hadL (inL left) l C) left) ∈ left := hm
      have hlo := length_outS ((nodup_rangeI C).sublist hsub) hm
      generalize lastS lot (leastS (hadL (inL left) l C) left) = z at hm hlo ⊢
      refine solid_won hr hnd hs hlot hW f _ _ _ ((outS_sub _ _).trans hsub) (by omega) ?_
      refine Decidable.byContradiction fun hno => ?_
      have hall : ∀ y ∈ set, y ∈ left → y = z := fun y hy hyl => Decidable.byContradiction fun e => hno ⟨y, hy, by unfold outS; rw [List.mem_filter]; exact ⟨hyl, by simp [e]⟩⟩
      have hzs : s = z := hall s hss hsl
      subst hzs
      have hge : wsum (solidB set) l ≤ hadS (inL left) l s := wsum_le hr.pos fun r hr' hq => by
        obtain ⟨y, hy, hys, hyl⟩ := ahead_find hs (hnd r hr') hq hss hsl
        rw [decide_eq_true_eq, hy, hall y hys hyl]
      have := List.find?_eq_none.1 hw s hsl
      simp [hlen, getI_had (φ := inL left) (l := l) (mem_rangeI.1 (hsub.subset hsl))] at this
      omega
/-- A candidate that is first on more than half of all ballots is elected at once. -/
theorem first_won {l : List Row} {C : Nat} {lot : List Int} (hr : RankOK l C) {c : Int} (hc : 0 ≤ c ∧ c < C) (h : totS l < 2 * hadS (fun _ => true) l c) :
    countS l C lot C (rangeI C) [] [] = ([c], [rndS (hadL (inL (rangeI C)) l C) (lostS (inL (rangeI C)) l) [c] []], []) := by
  have e : hadS (inL (rangeI C)) l c = hadS (fun _ => true) l c := wsum_congr fun r hr' => by
    have : r.1.find? (inL (rangeI C)) = r.1.find? (fun _ => true) := by
      cases hl : r.1 with
      | nil => rfl
      | cons a t =>
        have ha := hr.marks r hr' a (by rw [hl]; simp)
        rw [List.find?_cons, inL_iff.2 (mem_rangeI.2 ha)]; rfl
    rw [this]
  have hsum := had_sum (φ := inL (rangeI C)) hr
  have hl0 := (hr.lost (inL (rangeI C))).1
  obtain ⟨f, hf⟩ : ∃ f, C = f + 1 := ⟨C - 1, by have := hr.c1; omega⟩
  have hw : winS (rangeI C) (hadL (inL (rangeI C)) l C) = some c := by
    refine find_only (mem_rangeI.2 hc) (by rw [getI_had hc, e]; simp; omega) fun y hy hyp => ?_
    have hyr := mem_rangeI.1 hy
    by_cases h1 : (rangeI C).length = 1
    · rw [length_rangeI] at h1; omega
    · simp [h1] at hyp
      exact win_one (fun x hx => (hr.hads _ x hx).1) (length_hadL _ _ C) hyr hc hyp (by rw [getI_had hc, e]; omega)
  have hci := CtInv.start l lot hr.c1
  have := hci.won hw
  simpa using this
end Go.Proofs.YtcmoekkaakkpjaaGreat
