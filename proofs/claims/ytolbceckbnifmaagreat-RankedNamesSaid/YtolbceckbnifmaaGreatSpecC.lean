/-
  Counts: who is best, who is last in the lot, the rounds of a runoff. No program is named here.
-/
import Derived.Test.YtolbceckbnifmaaGreatSpecM
import Derived.Test.YtolbceckbnifmaaGreatW3a
namespace Go.Proofs.YtolbceckbnifmaaGreat

/-- A ratio: its sign, the words of its numerator, those of its denominator. -/
abbrev Rat3 := Bool × List Int × List Int
/-- A number that is not negative, as a ratio. -/
def wholeS (n : Int) : Rat3 := (false, lm n, [1])
/-- A round: who had how many, how many were lost, who was elected, who is out. -/
abbrev Rnd := List Rat3 × Rat3 × List Int × List Int
/-- An outcome: who is elected, the rounds, the ties. -/
abbrev Outc := List Int × List Rnd × List Row

def inL (l : List Int) (x : Int) : Bool := decide (x ∈ l)
def getI (h : List Int) (c : Int) : Int := h.getD c.toNat 0
theorem inL_iff {l : List Int} {x : Int} : inL l x = true ↔ x ∈ l := by unfold inL; simp

/-- Who has the most, in the order of among. -/
def bestS (f : Int → Int) (among : List Int) : List Int := among.filter fun c => among.all fun k => decide (f k ≤ f c)
/-- The candidate of among that comes last in the lot. -/
def lastS (lot among : List Int) : Int := (lot.reverse.find? (inL among)).getD 0
/-- Who wins a round. -/
def winS (left had : List Int) : Option Int := left.find? fun c => decide (left.length = 1) || decide (had.sum < 2 * getI had c)
def tiedS (ts : List Row) (among : List Int) (x : Int) : List Row := if among.length < 2 then ts else ts ++ [(among, x)]
def rndS (had : List Int) (lost : Int) (el out : List Int) : Rnd := (had.map wholeS, wholeS lost, el, out)
def leastS (had left : List Int) : List Int := bestS (fun c => - getI had c) left
def outS (left : List Int) (x : Int) : List Int := left.filter fun y => !decide (y = x)
/-- The count from a state on. -/
def countS (l : List Row) (n : Nat) (lot : List Int) : Nat → List Int → List Rnd → List Row → Outc
  | 0, _, rs, ts => ([], rs, ts)
  | f + 1, left, rs, ts =>
    match winS left (hadL (inL left) l n) with
    | some x => ([x], rs ++ [rndS (hadL (inL left) l n) (lostS (inL left) l) [x] []], ts)
    | none => countS l n lot f (outS left (lastS lot (leastS (hadL (inL left) l n) left)))
        (rs ++ [rndS (hadL (inL left) l n) (lostS (inL left) l) [] [lastS lot (leastS (hadL (inL left) l n) left)]])
        (tiedS ts (leastS (hadL (inL left) l n) left) (lastS lot (leastS (hadL (inL left) l n) left)))

theorem mem_bestS {f : Int → Int} {l : List Int} {x : Int} : x ∈ bestS f l ↔ x ∈ l ∧ ∀ k ∈ l, f k ≤ f x := by unfold bestS; simp
theorem best_ne {f : Int → Int} : ∀ {l : List Int}, l ≠ [] → ∃ x ∈ l, ∀ k ∈ l, f k ≤ f x
  | [], h => absurd rfl h
  | [a], _ => ⟨a, by simp, by simp⟩
  | a :: b :: r, _ => by
    obtain ⟨x, hx, hm⟩ := best_ne (f := f) (l := b :: r) (by simp)
    by_cases h : f a ≤ f x
    · exact ⟨x, List.mem_cons_of_mem _ hx, fun k hk => by rcases List.mem_cons.1 hk with rfl | hk; exact h; exact hm k hk⟩
    · exact ⟨a, List.mem_cons_self .., fun k hk => by rcases List.mem_cons.1 hk with rfl | hk; exact Int.le_refl _; have := hm k hk; omega⟩
theorem bestS_ne {f : Int → Int} {l : List Int} (h : l ≠ []) : bestS f l ≠ [] := by
  obtain ⟨x, hx, hm⟩ := best_ne (f := f) h
  exact List.ne_nil_of_mem (mem_bestS.2 ⟨hx, hm⟩)
theorem bestS_nil (f : Int → Int) : bestS f [] = [] := rfl
theorem bestS_sub (f : Int → Int) (l : List Int) : (bestS f l).Sublist l := List.filter_sublist
/-- One more is looked at. -/
theorem best_more {f : Int → Int} {l : List Int} {x o : Int} {r : List Int} (h : bestS f l = o :: r) (hx : f o < f x) : bestS f (l ++ [x]) = [x] := by
  have ho := mem_bestS.1 (show o ∈ bestS f l by rw [h]; simp)
  unfold bestS
  rw [List.filter_append, List.filter_eq_nil_iff.2, List.nil_append]
  · simp only [List.all_append, List.filter_cons, List.filter_nil]
    rw [if_pos]
    simp only [Bool.and_eq_true, List.all_eq_true, decide_eq_true_eq]
    refine ⟨fun k hk => ?_, by simp⟩
    have := ho.2 k hk; omega
  · intro a ha
    simp only [List.all_append, List.all_cons, List.all_nil, Bool.and_eq_true, decide_eq_true_eq, Bool.and_true, not_and]
    intro _
    have := ho.2 a ha; omega
theorem best_same {f : Int → Int} {l : List Int} {x o : Int} {r : List Int} (h : bestS f l = o :: r) (hx : f x = f o) : bestS f (l ++ [x]) = bestS f l ++ [x] := by
  have ho := mem_bestS.1 (show o ∈ bestS f l by rw [h]; simp)
  unfold bestS
  rw [List.filter_append]
  congr 1
  · refine List.filter_congr fun a ha => ?_
    rw [List.all_append]
    by_cases hq : (l.all fun k => decide (f k ≤ f a)) = true
    · rw [hq]
      have := List.all_eq_true.1 hq o ho.1
      simp at this
      simp; omega
    · rw [Bool.eq_false_iff.2 hq]; rfl
  · simp only [List.all_append, List.filter_cons, List.filter_nil]
    rw [if_pos]
    simp only [Bool.and_eq_true, List.all_eq_true, decide_eq_true_eq]
    refine ⟨fun k hk => ?_, by simp⟩
    have := ho.2 k hk; omega
theorem best_less {f : Int → Int} {l : List Int} {x o : Int} {r : List Int} (h : bestS f l = o :: r) (hx : f x < f o) : bestS f (l ++ [x]) = bestS f l := by
  have ho := mem_bestS.1 (show o ∈ bestS f l by rw [h]; simp)
  unfold bestS
  have hnil : List.filter (fun c => (l ++ [x]).all fun k => decide (f k ≤ f c)) [x] = [] := by
    rw [List.filter_eq_nil_iff]
    intro a ha
    simp only [List.mem_singleton] at ha
    subst ha
    intro hq
    have := List.all_eq_true.1 hq o (List.mem_append_left _ ho.1)
    simp at this
    omega
  rw [List.filter_append, hnil, List.append_nil]
  refine List.filter_congr fun a ha => ?_
  rw [List.all_append]
  by_cases hq : (l.all fun k => decide (f k ≤ f a)) = true
  · rw [hq]
    have := List.all_eq_true.1 hq o ho.1
    simp at this
    simp; omega
  · rw [Bool.eq_false_iff.2 hq]; rfl

/-- A sublist of a list without repetition is what is in it. -/
theorem filter_sub {l r : List Int} (h : l.Sublist r) (hn : r.Nodup) : r.filter (inL l) = l := by
  induction h with
  | slnil => rfl
  | @cons a b c h ih =>
    have hc := (List.nodup_cons.1 hn)
    have : inL a c = false := Bool.eq_false_iff.2 fun e => hc.1 (h.subset (inL_iff.1 e))
    rw [List.filter_cons, if_neg (by rw [this]; simp), ih hc.2]
  | @cons_cons a b c h ih =>
    have hc := (List.nodup_cons.1 hn)
    rw [List.filter_cons, if_pos (inL_iff.2 (List.mem_cons_self ..))]
    congr 1
    refine (List.filter_congr fun x hx => ?_).trans (ih hc.2)
    rw [Bool.eq_iff_iff, inL_iff, inL_iff]
    constructor
    · intro h'
      rcases List.mem_cons.1 h' with rfl | h'
      · exact absurd hx hc.1
      · exact h'
    · exact List.mem_cons_of_mem _
/-- The candidates in ascending order that are in among and have the most. -/
def alikeS (among : List Int) (has : List Int) : List Int := (rangeI has.length).filter fun c => inL among c && among.all fun k => decide (getI has k ≤ getI has c)
theorem alike_best {among has : List Int} (h : among.Sublist (rangeI has.length)) : alikeS among has = bestS (getI has) among := by
  have e := congrArg (List.filter fun c => among.all fun k => decide (getI has k ≤ getI has c)) (filter_sub h (nodup_rangeI _))
  rw [List.filter_filter] at e
  unfold alikeS bestS
  rw [← e]
  exact List.filter_congr fun x _ => Bool.and_comm _ _

theorem length_outS {left : List Int} {x : Int} (hn : left.Nodup) (hx : x ∈ left) : (outS left x).length + 1 = left.length := by
  induction left with
  | nil => simp at hx
  | cons a r ih =>
    have hc := List.nodup_cons.1 hn
    unfold outS at ih ⊢
    by_cases e : a = x
    · subst e
      rw [List.filter_cons, if_neg (by simp), List.length_cons]
      rw [List.filter_eq_self.2]
      intro y hy
      simp
      rintro rfl
      exact hc.1 hy
    · rw [List.filter_cons, if_pos (by simp [e]), List.length_cons, List.length_cons]
      have := ih hc.2 (by rcases List.mem_cons.1 hx with h | h; exact absurd h.symm e; exact h)
      omega
theorem outS_sub (left : List Int) (x : Int) : (outS left x).Sublist left := List.filter_sublist

/-- Two that have more than half are one. -/
theorem sum_two : ∀ {h : List Int}, (∀ x ∈ h, 0 ≤ x) → ∀ {i j : Nat}, i < j → j < h.length → h.getD i 0 + h.getD j 0 ≤ h.sum
  | [], _, i, j, _, hj => by simp at hj
  | a :: r, h0, i, j, hij, hj => by
    have hr : ∀ x ∈ r, 0 ≤ x := fun x hx => h0 x (List.mem_cons_of_mem _ hx)
    have ha := h0 a (List.mem_cons_self ..)
    have hone : ∀ (r : List Int), (∀ x ∈ r, 0 ≤ x) → ∀ k : Nat, r.getD k 0 ≤ r.sum ∧ 0 ≤ r.sum := by
      intro r
      induction r with
      | nil => intro _ k; simp
      | cons b s ih =>
        intro h k
        have h1 := h b (List.mem_cons_self ..)
        have h2 := ih (fun x hx => h x (List.mem_cons_of_mem _ hx))
        cases k with
        | zero => have := h2 0; simp; omega
        | succ k => have := h2 k; simp at this ⊢; omega
    obtain ⟨J, rfl⟩ : ∃ J, j = J + 1 := ⟨j - 1, by omega⟩
    cases i with
    | zero => have := hone r hr J; simp at this ⊢; omega
    | succ i =>
      have := sum_two (h := r) hr (i := i) (j := J) (by omega) (by simp at hj; omega)
      simp at this ⊢; omega
theorem win_one {h : List Int} (h0 : ∀ x ∈ h, 0 ≤ x) {n : Nat} (hl : h.length = n) {c d : Int} (hc : 0 ≤ c ∧ c < n) (hd : 0 ≤ d ∧ d < n) (h1 : h.sum < 2 * getI h c) (h2 : h.sum < 2 * getI h d) : c = d := by
  unfold getI at h1 h2
  rcases Int.lt_trichotomy c d with h | h | h
  · have := sum_two h0 (i := c.toNat) (j := d.toNat) (by omega) (by omega); omega
  · exact h
  · have := sum_two h0 (i := d.toNat) (j := c.toNat) (by omega) (by omega); omega
end Go.Proofs.YtolbceckbnifmaaGreat
