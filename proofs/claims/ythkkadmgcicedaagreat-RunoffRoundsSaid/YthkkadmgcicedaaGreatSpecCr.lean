/-
  The rounds of a Coombs count, one after the other, in plain terms.
-/
import Derived.Test.YthkkadmgcicedaaGreatSpecCb
namespace Go.Proofs.YthkkadmgcicedaaGreat
open Go.RowKit Go.Proofs

/-- What is still to come: of whom is left, the ties so far. -/
inductive RunB (l : List Row) (C : Nat) (lot : List Int) (x : Int) (te : List Row) : List Int → List Row → List Rnd → Prop where
  | last {left : List Int} (hw : winS left (hadL (inL left) l C) = some x) : RunB l C lot x te left te [rndS (hadL (inL left) l C) (lostS (inL left) l) [x] []]
  | step {left : List Int} {ts : List Row} {rs : List Rnd} (hw : winS left (hadL (inL left) l C) = none)
      (h : RunB l C lot x te (outS left (lastS lot (mostS l C left))) (tiedS ts (mostS l C left) (lastS lot (mostS l C left))) rs) :
      RunB l C lot x te left ts (rndS (hadL (inL left) l C) (lostS (inL left) l) [] [lastS lot (mostS l C left)] :: rs)
theorem RunB.ne {l : List Row} {C : Nat} {lot : List Int} {x : Int} {te : List Row} {left : List Int} {ts : List Row} {rs : List Rnd} (h : RunB l C lot x te left ts rs) : rs ≠ [] := by
  cases h <;> simp
theorem RunB.head {l : List Row} {C : Nat} {lot : List Int} {x : Int} {te : List Row} {left : List Int} {ts : List Row} {rs : List Rnd} (h : RunB l C lot x te left ts rs) :
    ∃ el out rs', rs = rndS (hadL (inL left) l C) (lostS (inL left) l) el out :: rs' ∧ ((winS left (hadL (inL left) l C) = some x ∧ el = [x] ∧ out = [] ∧ rs' = [] ∧ ts = te) ∨
      (winS left (hadL (inL left) l C) = none ∧ el = [] ∧ out = [lastS lot (mostS l C left)] ∧ rs' ≠ [] ∧ RunB l C lot x te (outS left (lastS lot (mostS l C left))) (tiedS ts (mostS l C left) (lastS lot (mostS l C left))) rs')) := by
  cases h with
  | last hw => exact ⟨_, _, _, rfl, .inl ⟨hw, rfl, rfl, rfl, rfl⟩⟩
  | step hw h => exact ⟨_, _, _, rfl, .inr ⟨hw, rfl, rfl, h.ne, h⟩⟩
theorem runB_of {l : List Row} {C : Nat} {lot : List Int} (hlot : lotS lot C = true) : ∀ (f : Nat) (left : List Int) (rs : List Rnd) (ts : List Row), left.Sublist (rangeI C) → left ≠ [] → left.length ≤ f →
    ∃ x rs' te, countB l C lot f left rs ts = ([x], rs ++ rs', te) ∧ RunB l C lot x te left ts rs' ∧ rs'.length ≤ left.length ∧ 0 ≤ x ∧ x < C
  | 0, left, rs, ts, _, hne, hl => absurd (List.length_pos_iff.2 hne) (by omega)
  | f + 1, left, rs, ts, hsub, hne, hl => by
    have hp := List.length_pos_iff.2 hne
    cases hw : winS left (hadL (inL left) l C) with
    | some x =>
      have hx := mem_rangeI.1 (hsub.subset (List.mem_of_find?_eq_some hw))
      exact ⟨x, _, ts, countB_some hw, .last hw, by show 1 ≤ left.length; omega, hx.1, hx.2⟩
    | none =>
      have hm := (most_sub l C left).subset (most_last (l := l) hsub hne hlot)
      have hln := length_outS ((nodup_rangeI C).sublist hsub) hm
      have hn1 : left.length ≠ 1 := fun e => win_of_one e hw
      obtain ⟨x, rs', te, h1, h2, h3, h4, h5⟩ := runB_of hlot f (outS left (lastS lot (mostS l C left))) (rs ++ [rndS (hadL (inL left) l C) (lostS (inL left) l) [] [lastS lot (mostS l C left)]]) (tiedS ts (mostS l C left) (lastS lot (mostS l C left))) ((outS_sub _ _).trans hsub) (List.length_pos_iff.1 (by omega)) (by omega)
      refine ⟨x, _, te, ?_, .step hw h2, by simp; omega, h4, h5⟩
      rw [countB_none hw, h1, List.append_assoc]; rfl

/-- The candidates left are what their truth values say. -/
theorem left_bools {C : Nat} {bs : List Bool} {left : List Int} (h : StayOK C bs left) (hs : left.Sublist (rangeI C)) : leftT bs C = left := by
  unfold leftT
  rw [← filter_sub hs (nodup_rangeI C)]
  exact List.filter_congr fun x _ => h.2 x
theorem stay_isS {C : Nat} {bs : List Bool} {left : List Int} (h : StayOK C bs left) : isS bs = inL left := funext h.2
/-- The greatest of the first t of those that are left; -1 if there is none. -/
def maxT (bs : List Bool) (bad : Nat → Int) : Nat → Int
  | 0 => -1
  | t + 1 => if bs.getD t false = true then max (maxT bs bad t) (bad t) else maxT bs bad t
theorem maxT_succ (bs : List Bool) (bad : Nat → Int) (t : Nat) : maxT bs bad (t + 1) = if bs.getD t false = true then max (maxT bs bad t) (bad t) else maxT bs bad t := rfl
theorem maxT_bd {bs : List Bool} {bad : Nat → Int} {M : Int} (hM : -1 ≤ M) (h : ∀ t, 0 ≤ bad t ∧ bad t ≤ M) : ∀ t, -1 ≤ maxT bs bad t ∧ maxT bs bad t ≤ M
  | 0 => ⟨Int.le_refl _, hM⟩
  | t + 1 => by
    have ih := maxT_bd (bs := bs) hM h t
    have := h t
    rw [maxT_succ]
    split <;> omega
theorem maxT_ge {bs : List Bool} {bad : Nat → Int} : ∀ {t y : Nat}, y < t → bs.getD y false = true → bad y ≤ maxT bs bad t
  | t + 1, y, h, hy => by
    rw [maxT_succ]
    by_cases e : y = t
    · subst e; rw [if_pos hy]; omega
    · have := maxT_ge (bad := bad) (t := t) (show y < t by omega) hy
      split <;> omega
theorem maxT_at {bs : List Bool} {bad : Nat → Int} : ∀ t : Nat, maxT bs bad t = -1 ∨ ∃ y, y < t ∧ bs.getD y false = true ∧ bad y = maxT bs bad t
  | 0 => .inl rfl
  | t + 1 => by
    rw [maxT_succ]
    by_cases hb : bs.getD t false = true
    · rw [if_pos hb]
      by_cases hm : bad t ≤ maxT bs bad t
      · rw [show max (maxT bs bad t) (bad t) = maxT bs bad t by omega]
        rcases maxT_at (bs := bs) (bad := bad) t with h | ⟨y, h1, h2, h3⟩
        · exact .inl h
        · exact .inr ⟨y, by omega, h2, h3⟩
      · exact .inr ⟨t, by omega, hb, by omega⟩
    · rw [if_neg hb]
      rcases maxT_at (bs := bs) (bad := bad) t with h | ⟨y, h1, h2, h3⟩
      · exact .inl h
      · exact .inr ⟨y, by omega, h2, h3⟩
/-- The first t of those that are left with a number. -/
def amongT (bs : List Bool) (bad : Nat → Int) (m : Int) (t : Nat) : List Int := ((List.range t).filter fun y => bs.getD y false && decide (bad y = m)).map fun y : Nat => (y : Int)
theorem amongT_succ (bs : List Bool) (bad : Nat → Int) (m : Int) (t : Nat) : amongT bs bad m (t + 1) = amongT bs bad m t ++ if (bs.getD t false && decide (bad t = m)) = true then [(t : Int)] else [] := by
  unfold amongT
  rw [List.range_succ, List.filter_append, List.map_append]
  congr 1
  by_cases h : (bs.getD t false && decide (bad t = m)) = true
  · rw [if_pos h, List.filter_cons, if_pos h]; rfl
  · rw [if_neg h, List.filter_cons, if_neg h]; rfl
theorem length_amongT (bs : List Bool) (bad : Nat → Int) (m : Int) (t : Nat) : (amongT bs bad m t).length ≤ t := by
  unfold amongT; rw [List.length_map]; exact Nat.le_trans (List.length_filter_le _ _) (by simp)
/-- Those are the ones that most ballots are against. -/
theorem among_most {l : List Row} {C : Nat} {bs : List Bool} {left : List Int} (h : StayOK C bs left) (hs : left.Sublist (rangeI C)) (hne : left ≠ []) (hp : Pos l) :
    amongT bs (fun y : Nat => badS left l (y : Int)) (maxT bs (fun y : Nat => badS left l (y : Int)) C) C = mostS l C left := by
  have hin : ∀ y : Nat, bs.getD y false = inL left (y : Int) := fun y => by rw [← h.2, isS_getD]
  have hg : ∀ y ∈ left, getI (badL left l C) y = badS left l y := fun y hy => by
    have hr := mem_rangeI.1 (hs.subset hy)
    obtain ⟨Y, rfl⟩ : ∃ Y : Nat, y = Y := ⟨y.toNat, by omega⟩
    exact getI_of (get_badL _ _ (by omega))
  have hM : ∀ y ∈ left, badS left l y ≤ maxT bs (fun y : Nat => badS left l (y : Int)) C := fun y hy => by
    have hr := mem_rangeI.1 (hs.subset hy)
    obtain ⟨Y, rfl⟩ : ∃ Y : Nat, y = Y := ⟨y.toNat, by omega⟩
    exact maxT_ge (bad := fun y : Nat => badS left l (y : Int)) (by omega) (by rw [hin]; exact inL_iff.2 hy)
  have hat : ∃ y ∈ left, badS left l y = maxT bs (fun y : Nat => badS left l (y : Int)) C := by
    obtain ⟨a, ha⟩ := List.exists_mem_of_ne_nil left hne
    have h1 := hM a ha
    have h2 := (badS_bd (left := left) hp a).1
    rcases maxT_at (bs := bs) (bad := fun y : Nat => badS left l (y : Int)) C with e | ⟨y, _, h3, h4⟩
    · omega
    · exact ⟨y, inL_iff.1 (by rw [← hin]; exact h3), h4⟩
  generalize maxT bs (fun y : Nat => badS left l (y : Int)) C = M at hM hat
  have e1 : amongT bs (fun y : Nat => badS left l (y : Int)) M C = (rangeI C).filter fun c => inL left c && decide (badS left l c = M) := by
    unfold amongT rangeI
    rw [List.filter_map]
    congr 1
    exact List.filter_congr fun y _ => by rw [hin]; rfl
  rw [e1]
  unfold mostS bestS
  have e2 := congrArg (List.filter fun c => left.all fun k => decide (getI (badL left l C) k ≤ getI (badL left l C) c)) (filter_sub hs (nodup_rangeI C))
  rw [List.filter_filter] at e2
  rw [← e2]
  refine List.filter_congr fun c _ => ?_
  cases hc : inL left c with
  | false => simp
  | true =>
    have hcl := inL_iff.1 hc
    rw [Bool.true_and, Bool.and_true, Bool.eq_iff_iff, decide_eq_true_eq, List.all_eq_true]
    constructor
    · intro e k hk
      rw [decide_eq_true_eq, hg k hk, hg c hcl, e]
      exact hM k hk
    · intro ha
      obtain ⟨y, hy, e⟩ := hat
      have h1 := of_decide_eq_true (ha y hy)
      rw [hg y hy, hg c hcl] at h1
      have h2 := hM c hcl
      omega
/-- Has one a majority, of the first t? -/
def endsT (one : Bool) (had : List Int) (t : Nat) : Bool := one || (List.range t).any fun c => decide (had.sum < 2 * getI had (c : Int))
theorem endsT_succ {one : Bool} {had : List Int} {t : Nat} : endsT one had (t + 1) = (endsT one had t || decide (had.sum < 2 * getI had (t : Int))) := by
  unfold endsT; rw [List.range_succ, List.any_append, Bool.or_assoc]; simp
theorem ends_win {left had : List Int} {C : Nat} (hs : left.Sublist (rangeI C)) (hne : left ≠ []) (h0 : 0 ≤ had.sum) (hz : ∀ y : Nat, inL left (y : Int) = false → getI had (y : Int) = 0) : endsT (decide (left.length = 1)) had C = (winS left had).isSome := by
  cases hw : winS left had with
  | some x =>
    have hx := List.mem_of_find?_eq_some hw
    have hp := List.find?_some hw
    have hr := mem_rangeI.1 (hs.subset hx)
    obtain ⟨X, rfl⟩ : ∃ X : Nat, x = X := ⟨x.toNat, by omega⟩
    show endsT _ _ _ = true
    unfold endsT
    rcases Bool.or_eq_true_iff.1 hp with h | h
    · rw [h]; rfl
    · rw [Bool.or_eq_true_iff]
      exact .inr (List.any_eq_true.2 ⟨X, List.mem_range.2 (by omega), h⟩)
  | none =>
    have hn := List.find?_eq_none.1 hw
    show endsT _ _ _ = false
    obtain ⟨a, ha⟩ := List.exists_mem_of_ne_nil left hne
    have h1 := hn a ha
    rw [Bool.not_eq_true, Bool.or_eq_false_iff] at h1
    unfold endsT
    rw [h1.1, Bool.false_or, List.any_eq_false]
    intro y _
    cases hy : inL left (y : Int) with
    | false => rw [hz y hy]; simp; omega
    | true =>
      have h2 := hn y (inL_iff.1 hy)
      rw [Bool.not_eq_true, Bool.or_eq_false_iff] at h2
      rw [h2.2]; simp
end Go.Proofs.YthkkadmgcicedaaGreat
