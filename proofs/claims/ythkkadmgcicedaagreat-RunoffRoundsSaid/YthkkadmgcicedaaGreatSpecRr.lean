/-
  The rounds of a runoff, one after the other, in plain terms; what the kept ballots say.
-/
import Derived.Test.YthkkadmgcicedaaGreatSpecCr
namespace Go.Proofs.YthkkadmgcicedaaGreat
open Go.RowKit Go.Proofs

/-- What is still to come: of whom is left, the ties so far. -/
inductive RunR (l : List Row) (C : Nat) (lot : List Int) (x : Int) (te : List Row) : List Int → List Row → List Rnd → Prop where
  | last {left : List Int} (hw : winS left (hadL (inL left) l C) = some x) : RunR l C lot x te left te [rndS (hadL (inL left) l C) (lostS (inL left) l) [x] []]
  | step {left : List Int} {ts : List Row} {rs : List Rnd} (hw : winS left (hadL (inL left) l C) = none)
      (h : RunR l C lot x te (outS left (lastS lot (leastS (hadL (inL left) l C) left))) (tiedS ts (leastS (hadL (inL left) l C) left) (lastS lot (leastS (hadL (inL left) l C) left))) rs) :
      RunR l C lot x te left ts (rndS (hadL (inL left) l C) (lostS (inL left) l) [] [lastS lot (leastS (hadL (inL left) l C) left)] :: rs)
theorem RunR.ne {l : List Row} {C : Nat} {lot : List Int} {x : Int} {te : List Row} {left : List Int} {ts : List Row} {rs : List Rnd} (h : RunR l C lot x te left ts rs) : rs ≠ [] := by
  cases h <;> simp
theorem RunR.head {l : List Row} {C : Nat} {lot : List Int} {x : Int} {te : List Row} {left : List Int} {ts : List Row} {rs : List Rnd} (h : RunR l C lot x te left ts rs) :
    ∃ el out rs', rs = rndS (hadL (inL left) l C) (lostS (inL left) l) el out :: rs' ∧ ((winS left (hadL (inL left) l C) = some x ∧ el = [x] ∧ out = [] ∧ rs' = [] ∧ ts = te) ∨
      (winS left (hadL (inL left) l C) = none ∧ el = [] ∧ out = [lastS lot (leastS (hadL (inL left) l C) left)] ∧ rs' ≠ [] ∧ RunR l C lot x te (outS left (lastS lot (leastS (hadL (inL left) l C) left))) (tiedS ts (leastS (hadL (inL left) l C) left) (lastS lot (leastS (hadL (inL left) l C) left))) rs')) := by
  cases h with
  | last hw => exact ⟨_, _, _, rfl, .inl ⟨hw, rfl, rfl, rfl, rfl⟩⟩
  | step hw h => exact ⟨_, _, _, rfl, .inr ⟨hw, rfl, rfl, h.ne, h⟩⟩
theorem least_in {left lot had : List Int} {C : Nat} (hsub : left.Sublist (rangeI C)) (hne : left ≠ []) (hlot : lotS lot C = true) : lastS lot (leastS had left) ∈ leastS had left :=
  lastS_mem (lot := lot) (bestS_ne (f := fun c => - getI had c) hne) fun x hx => lot_in hlot (hsub.subset ((bestS_sub _ _).subset hx))
theorem runR_of {l : List Row} {C : Nat} {lot : List Int} (hlot : lotS lot C = true) : ∀ (f : Nat) (left : List Int) (rs : List Rnd) (ts : List Row), left.Sublist (rangeI C) → left ≠ [] → left.length ≤ f →
    ∃ x rs' te, countS l C lot f left rs ts = ([x], rs ++ rs', te) ∧ RunR l C lot x te left ts rs' ∧ rs'.length ≤ left.length ∧ 0 ≤ x ∧ x < C
  | 0, left, rs, ts, _, hne, hl => absurd (List.length_pos_iff.2 hne) (by omega)
  | f + 1, left, rs, ts, hsub, hne, hl => by
    have hp := List.length_pos_iff.2 hne
    cases hw : winS left (hadL (inL left) l C) with
    | some x =>
      have hx := mem_rangeI.1 (hsub.subset (List.mem_of_find?_eq_some hw))
      exact ⟨x, _, ts, countS_some hw, .last hw, by show 1 ≤ left.length; omega, hx.1, hx.2⟩
    | none =>
      have hm : lastS lot (leastS (hadL (inL left) l C) left) ∈ left := (bestS_sub _ _).subset (least_in (had := hadL (inL left) l C) hsub hne hlot)
      have hln := length_outS ((nodup_rangeI C).sublist hsub) hm
      have hn1 : left.length ≠ 1 := fun e => win_of_one e hw
      obtain ⟨x, rs', te, h1, h2, h3, h4, h5⟩ := runR_of hlot f (outS left (lastS lot (leastS (hadL (inL left) l C) left))) (rs ++ [rndS (hadL (inL left) l C) (lostS (inL left) l) [] [lastS lot (leastS (hadL (inL left) l C) left)]]) (tiedS ts (leastS (hadL (inL left) l C) left) (lastS lot (leastS (hadL (inL left) l C) left))) ((outS_sub _ _).trans hsub) (List.length_pos_iff.1 (by omega)) (by omega)
      refine ⟨x, _, te, ?_, .step hw h2, by simp; omega, h4, h5⟩
      rw [countS_none hw, h1, List.append_assoc]; rfl

/-- Every mark. -/
def anyC (_ : Int) : Bool := true
theorem find_all (ms : List Int) : ms.find? anyC = ms.head? := by cases ms <;> rfl
theorem kept_find (ms : List Int) (bs : List Bool) : (keptS 1 ms bs).find? anyC = ms.find? (isS bs) := by
  rw [find_all]
  unfold keptS
  rw [if_pos (.inl rfl), List.head?_filter]
theorem hadS_kept (bs : List Bool) (l : List Row) (x : Int) : hadS anyC (eachS (fun ms => keptS 1 ms bs) l) x = hadS (isS bs) l x := by
  unfold hadS
  rw [wsum_each]
  exact wsum_congr fun r _ => by rw [kept_find]
theorem hadL_kept (bs : List Bool) (l : List Row) (n : Nat) : hadL anyC (eachS (fun ms => keptS 1 ms bs) l) n = hadL (isS bs) l n := by
  unfold hadL
  exact List.map_congr_left fun x _ => hadS_kept bs l x
theorem lostS_kept (bs : List Bool) (l : List Row) : lostS anyC (eachS (fun ms => keptS 1 ms bs) l) = lostS (isS bs) l := by
  unfold lostS
  rw [wsum_each]
  exact wsum_congr fun r _ => by rw [kept_find]
theorem find_anyC_none {ms : List Int} (h : ms.length = 0) : ms.find? anyC = none := by rw [find_all, List.length_eq_zero_iff.1 h]; rfl
theorem find_anyC_some {ms : List Int} {v : Int} (h : ms[0]? = some v) : ms.find? anyC = some v := by rw [find_all, List.head?_eq_getElem?]; exact h
theorem sum_set {xs : List Int} {m : Nat} {a y : Int} (h : xs[m]? = some a) : (xs.set m (a + y)).sum = xs.sum + y := by
  induction xs generalizing m with
  | nil => simp at h
  | cons b r ih =>
    cases m with
    | zero => simp at h; subst h; simp; omega
    | succ m => simp at h; have := ih h; simp; omega
/-- What a loop over the kept ballots has added up. -/
theorem sum_hit {φ : Int → Bool} {l : List Row} {n t m : Nat} {ms : List Int} {y : Int} (hm : m < n) (hat : l[t]? = some (ms, y)) (hf : ms.find? φ = some (m : Int)) : (hadL φ (l.take (t + 1)) n).sum = (hadL φ (l.take t) n).sum + y := by
  rw [hadL_hit hat hf]
  exact sum_set (get_hadL φ _ hm)
theorem sum_miss {φ : Int → Bool} {l : List Row} {n t : Nat} {ms : List Int} {y : Int} (hat : l[t]? = some (ms, y)) (hf : ms.find? φ = none) : (hadL φ (l.take (t + 1)) n).sum = (hadL φ (l.take t) n).sum := by
  rw [hadL_miss hat hf]
theorem sum_room {φ : Int → Bool} {l : List Row} {C t : Nat} (h : RankOK l C) {ms : List Int} {y : Int} (hat : l[t]? = some (ms, y)) : 0 ≤ (hadL φ (l.take t) C).sum ∧ (hadL φ (l.take t) C).sum + y ≤ 1000000 := by
  have hm : ∀ r ∈ l.take t, ∀ x ∈ r.1, 0 ≤ x ∧ x < C := fun r hr => h.marks r (List.mem_of_mem_take hr)
  have h1 := had_all (φ := φ) (n := C) hm
  have h2 := lostS_bd (φ := φ) (pos_take h.pos t)
  have h3 := totS_take_succ hat
  have h4 := tot_take h.pos (t + 1)
  have h5 := h.tot
  simp at h3
  have h6 : 0 ≤ (hadL φ (l.take t) C).sum := (sum_take_bd (xs := hadL φ (l.take t) C) (fun x hx => by obtain ⟨z, _, rfl⟩ := List.mem_map.1 hx; exact (hadS_bd (pos_take h.pos t) z).1) C).1 |> fun e => by rw [List.take_of_length_le (by rw [length_hadL]; exact Nat.le_refl _)] at e; exact e
  omega

/-- The least of the first t of those that are left. -/
def lowT (bs : List Bool) (had : Nat → Int) : Nat → Int
  | 0 => 1000001
  | t + 1 => if bs.getD t false = true then min (lowT bs had t) (had t) else lowT bs had t
theorem lowT_succ (bs : List Bool) (had : Nat → Int) (t : Nat) : lowT bs had (t + 1) = if bs.getD t false = true then min (lowT bs had t) (had t) else lowT bs had t := rfl
theorem lowT_bd {bs : List Bool} {had : Nat → Int} (h : ∀ t, 0 ≤ had t ∧ had t ≤ 1000000) : ∀ t, 0 ≤ lowT bs had t ∧ lowT bs had t ≤ 1000001
  | 0 => ⟨by simp [lowT], Int.le_refl _⟩
  | t + 1 => by
    have ih := lowT_bd (bs := bs) h t
    have := h t
    rw [lowT_succ]
    split <;> omega
theorem lowT_le {bs : List Bool} {had : Nat → Int} : ∀ {t y : Nat}, y < t → bs.getD y false = true → lowT bs had t ≤ had y
  | t + 1, y, h, hy => by
    rw [lowT_succ]
    by_cases e : y = t
    · subst e; rw [if_pos hy]; omega
    · have := lowT_le (had := had) (t := t) (show y < t by omega) hy
      split <;> omega
theorem lowT_at {bs : List Bool} {had : Nat → Int} : ∀ t : Nat, lowT bs had t = 1000001 ∨ ∃ y, y < t ∧ bs.getD y false = true ∧ had y = lowT bs had t
  | 0 => .inl rfl
  | t + 1 => by
    rw [lowT_succ]
    by_cases hb : bs.getD t false = true
    · rw [if_pos hb]
      by_cases hm : lowT bs had t ≤ had t
      · rw [show min (lowT bs had t) (had t) = lowT bs had t by omega]
        rcases lowT_at (bs := bs) (had := had) t with h | ⟨y, h1, h2, h3⟩
        · exact .inl h
        · exact .inr ⟨y, by omega, h2, h3⟩
      · exact .inr ⟨t, by omega, hb, by omega⟩
    · rw [if_neg hb]
      rcases lowT_at (bs := bs) (had := had) t with h | ⟨y, h1, h2, h3⟩
      · exact .inl h
      · exact .inr ⟨y, by omega, h2, h3⟩
/-- The first t of a list with a number. -/
def lowL (left : List Int) (f : Int → Int) (m : Int) (t : Nat) : List Int := (left.take t).filter fun x => decide (f x = m)
theorem lowL_zero (left : List Int) (f : Int → Int) (m : Int) : lowL left f m 0 = [] := by simp [lowL]
theorem lowL_succ {left : List Int} {f : Int → Int} {m : Int} {t : Nat} {x : Int} (h : left[t]? = some x) : lowL left f m (t + 1) = lowL left f m t ++ if f x = m then [x] else [] := by
  unfold lowL
  rw [List.take_add_one, h, List.filter_append]
  congr 1
  by_cases e : f x = m <;> simp [e]
theorem length_lowL (left : List Int) (f : Int → Int) (m : Int) (t : Nat) : (lowL left f m t).length ≤ t := Nat.le_trans (List.length_filter_le _ _) (List.length_take_le _ _)
theorem lowL_least {l : List Row} {C : Nat} {bs : List Bool} {left : List Int} (h : StayOK C bs left) (hs : left.Sublist (rangeI C)) (hne : left ≠ []) (hb : ∀ t : Nat, 0 ≤ hadS (inL left) l (t : Int) ∧ hadS (inL left) l (t : Int) ≤ 1000000) :
    lowL left (hadS (inL left) l) (lowT bs (fun y : Nat => hadS (inL left) l (y : Int)) C) left.length = leastS (hadL (inL left) l C) left := by
  have hin : ∀ y : Nat, bs.getD y false = inL left (y : Int) := fun y => by rw [← h.2, isS_getD]
  have hg : ∀ y ∈ left, getI (hadL (inL left) l C) y = hadS (inL left) l y := fun y hy => by
    have hr := mem_rangeI.1 (hs.subset hy)
    obtain ⟨Y, rfl⟩ : ∃ Y : Nat, y = Y := ⟨y.toNat, by omega⟩
    exact getI_of (get_hadL _ _ (by omega))
  have hM : ∀ y ∈ left, lowT bs (fun y : Nat => hadS (inL left) l (y : Int)) C ≤ hadS (inL left) l y := fun y hy => by
    have hr := mem_rangeI.1 (hs.subset hy)
    obtain ⟨Y, rfl⟩ : ∃ Y : Nat, y = Y := ⟨y.toNat, by omega⟩
    exact lowT_le (had := fun y : Nat => hadS (inL left) l (y : Int)) (by omega) (by rw [hin]; exact inL_iff.2 hy)
  have hat : ∃ y ∈ left, hadS (inL left) l y = lowT bs (fun y : Nat => hadS (inL left) l (y : Int)) C := by
    obtain ⟨a, ha⟩ := List.exists_mem_of_ne_nil left hne
    have h1 := hM a ha
    have hr := mem_rangeI.1 (hs.subset ha)
    obtain ⟨Y, rfl⟩ : ∃ Y : Nat, a = Y := ⟨a.toNat, by omega⟩
    have h2 := (hb Y).2
    rcases lowT_at (bs := bs) (had := fun y : Nat => hadS (inL left) l (y : Int)) C with e | ⟨y, _, h3, h4⟩
    · omega
    · exact ⟨y, inL_iff.1 (by rw [← hin]; exact h3), h4⟩
  generalize lowT bs (fun y : Nat => hadS (inL left) l (y : Int)) C = M at hM hat
  unfold lowL leastS bestS
  rw [List.take_length]
  refine List.filter_congr fun c hcl => ?_
  rw [Bool.eq_iff_iff, decide_eq_true_eq, List.all_eq_true]
  constructor
  · intro e k hk
    rw [decide_eq_true_eq]
    show - getI (hadL (inL left) l C) k ≤ - getI (hadL (inL left) l C) c
    rw [hg k hk, hg c hcl, e]
    have := hM k hk
    omega
  · intro ha
    obtain ⟨y, hy, e⟩ := hat
    have h1 : - getI (hadL (inL left) l C) y ≤ - getI (hadL (inL left) l C) c := of_decide_eq_true (ha y hy)
    rw [hg y hy, hg c hcl] at h1
    have h2 := hM c hcl
    omega
/-- Has one a majority, of the first t of a list? -/
def endsL (left : List Int) (f : Int → Int) (s : Int) (t : Nat) : Bool := (left.take t).any fun x => decide (s < 2 * f x)
theorem endsL_zero (left : List Int) (f : Int → Int) (s : Int) : endsL left f s 0 = false := by simp [endsL]
theorem endsL_succ {left : List Int} {f : Int → Int} {s : Int} {t : Nat} {x : Int} (h : left[t]? = some x) : endsL left f s (t + 1) = (endsL left f s t || decide (s < 2 * f x)) := by
  unfold endsL
  rw [List.take_add_one, h, List.any_append]
  simp
theorem endsL_none {l : List Row} {C : Nat} {left : List Int} (hs : left.Sublist (rangeI C)) (hw : winS left (hadL (inL left) l C) = none) : endsL left (hadS (inL left) l) (hadL (inL left) l C).sum left.length = false := by
  have hn := List.find?_eq_none.1 hw
  unfold endsL
  rw [List.take_length, List.any_eq_false]
  intro y hy
  have h2 := hn y hy
  rw [Bool.not_eq_true, Bool.or_eq_false_iff] at h2
  have hr := mem_rangeI.1 (hs.subset hy)
  obtain ⟨Y, rfl⟩ : ∃ Y : Nat, y = Y := ⟨y.toNat, by omega⟩
  rw [getI_of (get_hadL _ _ (show Y < C by omega))] at h2
  rw [h2.2]; simp
end Go.Proofs.YthkkadmgcicedaaGreat
