/-
  Seats for lists: votes, divisor methods, largest remainders. No program is named here.
  Divisor methods, plain: who is elected; stability; house monotonicity. No program is named here.
  Divisor methods, plain: quota from below; more votes, not fewer seats. No program is named here.
  Largest remainders, plain: the floors, the seats that are left. No program is named here.
  Largest remainders, plain: quota; more votes, not fewer seats. No program is named here.
  Seats for lists, plain: all votes times a number. No program is named here.
  Votes for lists, plain: row by row; what they sum to. No program is named here.
  Seats for lists, plain: how many seats, to whom; the parties under other names. No program is named here.
-/
import Derived.Test.YtiebfalodelclaaGreatSpecPa
import Derived.Test.YtiebfalodelclaaGreatSpecM
import Derived.Test.YtiebfalodelclaaGreatSpecNp
namespace Go.Proofs.YtiebfalodelclaaGreat

/-- The greatest of a list by an order, in the list's order. -/
def bestR (le : Int → Int → Bool) (l : List Int) : List Int := l.filter fun x => l.all fun y => le y x
/-- An order in which any two are comparable. -/
structure Pre (le : Int → Int → Bool) : Prop where
  tot : ∀ a b, le a b = true ∨ le b a = true
  tr : ∀ a b c, le a b = true → le b c = true → le a c = true
theorem Pre.refl {le : Int → Int → Bool} (h : Pre le) (a : Int) : le a a = true := (h.tot a a).elim id id
theorem mem_bestR {le : Int → Int → Bool} {l : List Int} {x : Int} : x ∈ bestR le l ↔ x ∈ l ∧ ∀ y ∈ l, le y x = true := by unfold bestR; simp
theorem bestR_sub (le : Int → Int → Bool) (l : List Int) : (bestR le l).Sublist l := List.filter_sublist
theorem bestR_some {le : Int → Int → Bool} (h : Pre le) : ∀ {l : List Int}, l ≠ [] → ∃ x ∈ l, ∀ y ∈ l, le y x = true
  | [], h => absurd rfl h
  | [a], _ => ⟨a, by simp, by simpa using h.refl a⟩
  | a :: b :: r, _ => by
    obtain ⟨x, hx, hm⟩ := bestR_some h (l := b :: r) (by simp)
    rcases h.tot a x with e | e
    · exact ⟨x, List.mem_cons_of_mem _ hx, fun k hk => by rcases List.mem_cons.1 hk with rfl | hk; exact e; exact hm k hk⟩
    · exact ⟨a, List.mem_cons_self .., fun k hk => by rcases List.mem_cons.1 hk with rfl | hk; exact h.refl k; exact h.tr _ _ _ (hm k hk) e⟩
theorem bestR_ne {le : Int → Int → Bool} (h : Pre le) {l : List Int} (hl : l ≠ []) : bestR le l ≠ [] := by
  obtain ⟨x, hx, hm⟩ := bestR_some h hl
  exact List.ne_nil_of_mem (mem_bestR.2 ⟨hx, hm⟩)
/-- One more is looked at: it is greater. -/
theorem bestR_more {le : Int → Int → Bool} (h : Pre le) {l : List Int} {x o : Int} {r : List Int} (hb : bestR le l = o :: r) (hx : le x o = false) : bestR le (l ++ [x]) = [x] := by
  have ho := mem_bestR.1 (show o ∈ bestR le l by rw [hb]; simp)
  have hox : le o x = true := (h.tot o x).elim id (fun e => by rw [hx] at e; cases e)
  unfold bestR
  rw [List.filter_append, List.filter_eq_nil_iff.2, List.nil_append]
  · have hall : ((l ++ [x]).all fun y => le y x) = true := by
      rw [List.all_append, Bool.and_eq_true, List.all_eq_true]
      exact ⟨fun y hy => h.tr _ _ _ (ho.2 y hy) hox, by simpa using h.refl x⟩
    simp only [List.filter_cons, hall, if_true, List.filter_nil]
  · intro y hy hc
    rw [List.all_append, Bool.and_eq_true] at hc
    have h1 : le x y = true := by simpa using hc.2
    have := h.tr _ _ _ h1 (ho.2 y hy)
    rw [hx] at this; cases this
/-- It is as great. -/
theorem bestR_same {le : Int → Int → Bool} (h : Pre le) {l : List Int} {x o : Int} {r : List Int} (hb : bestR le l = o :: r) (hx : le x o = true) (hx' : le o x = true) : bestR le (l ++ [x]) = bestR le l ++ [x] := by
  have ho := mem_bestR.1 (show o ∈ bestR le l by rw [hb]; simp)
  have hall : ((l ++ [x]).all fun y => le y x) = true := by
    rw [List.all_append, Bool.and_eq_true, List.all_eq_true]
    exact ⟨fun y hy => h.tr _ _ _ (ho.2 y hy) hx', by simpa using h.refl x⟩
  unfold bestR
  rw [List.filter_append]
  congr 1
  · refine List.filter_congr fun y hy => ?_
    rw [List.all_append]
    cases ha : l.all fun z => le z y with
    | false => rfl
    | true =>
      have hoy := List.all_eq_true.1 ha o ho.1
      simpa using h.tr _ _ _ hx hoy
  · simp only [List.filter_cons, hall, if_true, List.filter_nil]
/-- It is smaller. -/
theorem bestR_less {le : Int → Int → Bool} (h : Pre le) {l : List Int} {x o : Int} {r : List Int} (hb : bestR le l = o :: r) (hx' : le o x = false) : bestR le (l ++ [x]) = bestR le l := by
  have ho := mem_bestR.1 (show o ∈ bestR le l by rw [hb]; simp)
  have hx : le x o = true := (h.tot x o).elim id (fun e => by rw [hx'] at e; cases e)
  unfold bestR
  rw [List.filter_append]
  have h2 : ([x].filter fun y => (l ++ [x]).all fun z => le z y) = [] := by
    have hall : ((l ++ [x]).all fun y => le y x) = false := by
      rw [Bool.eq_false_iff]; intro hc
      rw [List.all_append, Bool.and_eq_true, List.all_eq_true] at hc
      have := hc.1 o ho.1
      rw [hx'] at this; cases this
    simp only [List.filter_cons, hall, List.filter_nil]
    rfl
  rw [h2, List.append_nil]
  refine List.filter_congr fun y hy => ?_
  rw [List.all_append]
  cases ha : l.all fun z => le z y with
  | false => rfl
  | true =>
    have hoy := List.all_eq_true.1 ha o ho.1
    simpa using h.tr _ _ _ hx hoy

/-- The votes of the parties; the invalid ballots. -/
def votX (l : List Row) (x : Int) : Int := wsum (fun ms => decide (ms = [x])) l
def votV (l : List Row) (C : Nat) : List Int := (List.range C).map fun x : Nat => votX l (x : Int)
def losV (l : List Row) : Int := wsum (fun ms => decide (ms.length ≠ 1)) l
theorem length_votV (l : List Row) (C : Nat) : (votV l C).length = C := by unfold votV; simp
theorem getI_votV {l : List Row} {C : Nat} {x : Int} (hx : 0 ≤ x ∧ x < C) : getI (votV l C) x = votX l x := by
  unfold getI votV
  rw [List.getD_eq_getElem?_getD, List.getElem?_map, List.getElem?_range (by omega)]
  simp only [Option.map_some, Option.getD_some]
  rw [show ((x.toNat : Nat) : Int) = x by omega]

/-- The divisor of the next seat; rule 0 is D'Hondt. -/
def dvS (r : Nat) (s : Nat) : Int := if r = 0 then (s : Int) + 1 else 2 * (s : Int) + 1
theorem dvS_pos (r s : Nat) : 0 < dvS r s := by unfold dvS; split <;> omega
theorem dvS_mono {r s t : Nat} (h : s < t) : dvS r s < dvS r t := by unfold dvS; split <;> omega
theorem dvS_le {r s t : Nat} (h : s ≤ t) : dvS r s ≤ dvS r t := by unfold dvS; split <;> omega
/-- The next quotient of y is at most that of x. -/
def leD (had : List Int) (r : Nat) (el : List Int) (y x : Int) : Bool := decide (getI had y * dvS r (el.count x) ≤ getI had x * dvS r (el.count y))
theorem pre_leD (had : List Int) (r : Nat) (el : List Int) : Pre (leD had r el) := by
  refine ⟨fun a b => ?_, fun a b c hab hbc => ?_⟩
  · unfold leD
    simp only [decide_eq_true_eq]
    omega
  · unfold leD at *
    simp only [decide_eq_true_eq] at *
    have pa := dvS_pos r (el.count a)
    have pb := dvS_pos r (el.count b)
    have pc := dvS_pos r (el.count c)
    generalize dvS r (el.count a) = da at *
    generalize dvS r (el.count b) = db at *
    generalize dvS r (el.count c) = dc at *
    have h1 : getI had a * db * dc ≤ getI had b * da * dc := Int.mul_le_mul_of_nonneg_right hab (by omega)
    have h2 : getI had b * dc * da ≤ getI had c * db * da := Int.mul_le_mul_of_nonneg_right hbc (by omega)
    have e1 : getI had b * da * dc = getI had b * dc * da := by rw [Int.mul_assoc, Int.mul_comm da dc, ← Int.mul_assoc]
    have h3 : (getI had a * dc) * db ≤ (getI had c * da) * db := by
      have e2 : (getI had a * dc) * db = getI had a * db * dc := by rw [Int.mul_assoc, Int.mul_comm dc db, ← Int.mul_assoc]
      have e3 : (getI had c * da) * db = getI had c * db * da := by rw [Int.mul_assoc, Int.mul_comm da db, ← Int.mul_assoc]
      rw [e2, e3]; omega
    exact Int.le_of_mul_le_mul_right h3 pb
/-- Whose next quotient is greatest. -/
def topD (had : List Int) (r C : Nat) (el : List Int) : List Int := bestR (leD had r el) (rangeI C)
/-- Seats by a divisor method: who is elected, the ties. -/
def divS (had : List Int) (r C : Nat) (lot : List Int) : Nat → List Int × List Row
  | 0 => ([], [])
  | n + 1 => ((divS had r C lot n).1 ++ [frstS lot (topD had r C (divS had r C lot n).1)], tiedS (divS had r C lot n).2 (topD had r C (divS had r C lot n).1) (frstS lot (topD had r C (divS had r C lot n).1)))
theorem length_divS (had : List Int) (r C : Nat) (lot : List Int) : ∀ n, (divS had r C lot n).1.length = n
  | 0 => rfl
  | n + 1 => by
    have := length_divS had r C lot n
    unfold divS
    simp [this]

/-- The floors of the shares. -/
def flrS (had : List Int) (n : Nat) (x : Int) : Nat := if had.sum ≤ 0 then 0 else (getI had x * n / had.sum).toNat
def restS (had : List Int) (n : Nat) (x : Int) : Int := if had.sum ≤ 0 then 0 else getI had x * n % had.sum
def baseS (had : List Int) (n C : Nat) : List Int := (rangeI C).flatMap fun x => List.replicate (flrS had n x) x
/-- The seats that are left, one after the other. -/
def moreS (f : Int → Int) (C : Nat) (lot : List Int) : Nat → List Int → List Int × List Row → List Int × List Row
  | 0, _, s => s
  | k + 1, eg, s =>
    let eg' := if eg.length = 0 then rangeI C else eg
    let x := frstS lot (bestS f eg')
    moreS f C lot k (outS eg' x) (s.1 ++ [x], tiedS s.2 (bestS f eg') x)
def remS (had : List Int) (C : Nat) (lot : List Int) (n : Nat) : List Int × List Row := moreS (restS had n) C lot (n - (baseS had n C).length) [] (baseS had n C, [])
def seatS (rule : Int) (had : List Int) (C : Nat) (lot : List Int) (n : Nat) : List Int × List Row := if rule = 0 then divS had 0 C lot n else if rule = 1 then divS had 1 C lot n else remS had C lot n
end Go.Proofs.YtiebfalodelclaaGreat

namespace Go.Proofs.YtiebfalodelclaaGreat

theorem topD_ne (had : List Int) (r : Nat) {C : Nat} (hC : 1 ≤ C) (el : List Int) : topD had r C el ≠ [] := by
  refine bestR_ne (pre_leD had r el) ?_
  have : (0 : Int) ∈ rangeI C := mem_rangeI.2 ⟨by omega, by omega⟩
  exact List.ne_nil_of_mem this
/-- A lot that names every candidate. -/
def LotAll (lot : List Int) (C : Nat) : Prop := ∀ x, 0 ≤ x → x < (C : Int) → x ∈ lot
theorem topD_rng {had : List Int} {r C : Nat} {el : List Int} {x : Int} (h : x ∈ topD had r C el) : 0 ≤ x ∧ x < C := mem_rangeI.1 (mem_bestR.1 h).1
theorem frst_topD {had : List Int} {r C : Nat} {el lot : List Int} (hC : 1 ≤ C) (hl : LotAll lot C) : frstS lot (topD had r C el) ∈ topD had r C el :=
  frst_mem (topD_ne had r hC el) fun x hx => hl x (topD_rng hx).1 (topD_rng hx).2
theorem divS_rng {had : List Int} {r C : Nat} {lot : List Int} (hC : 1 ≤ C) (hl : LotAll lot C) : ∀ n x, x ∈ (divS had r C lot n).1 → 0 ≤ x ∧ x < (C : Int)
  | 0, x, h => by cases h
  | n + 1, x, h => by
    rcases List.mem_append.1 h with h | h
    · exact divS_rng hC hl n x h
    · rw [List.mem_singleton.1 h]; exact topD_rng (frst_topD hC hl)
/-- More seats: the elder ones first. -/
theorem divS_take (had : List Int) (r C : Nat) (lot : List Int) (n : Nat) : (divS had r C lot (n + 1)).1.take n = (divS had r C lot n).1 := by
  have e : (divS had r C lot (n + 1)).1 = (divS had r C lot n).1 ++ [frstS lot (topD had r C (divS had r C lot n).1)] := rfl
  have := length_divS had r C lot n
  rw [e, List.take_append_of_le_length (by omega), List.take_of_length_le (by omega)]
theorem divS_ties (had : List Int) (r C : Nat) (lot : List Int) (n : Nat) : (divS had r C lot n).2.length ≤ (divS had r C lot (n + 1)).2.length ∧ (divS had r C lot (n + 1)).2.take (divS had r C lot n).2.length = (divS had r C lot n).2 := by
  have e : (divS had r C lot (n + 1)).2 = tiedS (divS had r C lot n).2 (topD had r C (divS had r C lot n).1) (frstS lot (topD had r C (divS had r C lot n).1)) := rfl
  rw [e]
  unfold tiedS
  split
  · simp
  · simp
theorem ties_le (had : List Int) (r C : Nat) (lot : List Int) : ∀ n, (divS had r C lot n).2.length ≤ n
  | 0 => Nat.le_refl _
  | n + 1 => by
    have := ties_le had r C lot n
    have e : (divS had r C lot (n + 1)).2 = tiedS (divS had r C lot n).2 (topD had r C (divS had r C lot n).1) (frstS lot (topD had r C (divS had r C lot n).1)) := rfl
    rw [e]
    unfold tiedS
    split
    · omega
    · simp; omega

/-- Stability: the last quotient of x is at least the next one of y; if equal, x comes first in the lot. -/
def StableD (had : List Int) (r C : Nat) (lot el : List Int) : Prop :=
  ∀ x y, 0 ≤ x → x < (C : Int) → 0 ≤ y → y < (C : Int) → x ≠ y → 0 < el.count x →
    getI had y * dvS r (el.count x - 1) ≤ getI had x * dvS r (el.count y) ∧ (getI had y * dvS r (el.count x - 1) = getI had x * dvS r (el.count y) → frstS lot [x, y] = x)
theorem frst_two {lot A : List Int} {x y : Int} (hf : frstS lot A = x) (hy : y ∈ A) (hx : x ∈ A) (hl : ∀ z ∈ A, z ∈ lot) : frstS lot [x, y] = x := by
  unfold frstS at *
  induction lot with
  | nil => exact absurd (hl x hx) (by simp)
  | cons a t ih =>
    rw [List.find?_cons] at hf ⊢
    by_cases ha : a ∈ A
    · rw [inL_iff.2 ha] at hf
      simp only [Option.getD_some] at hf
      subst hf
      rw [show inL [a, y] a = true by rw [inL_iff]; simp]
      rfl
    · have e : inL A a = false := by rw [Bool.eq_false_iff]; intro h; exact ha (inL_iff.1 h)
      rw [e] at hf
      have hxa : a ≠ x := fun e => ha (e ▸ hx)
      have hya : a ≠ y := fun e => ha (e ▸ hy)
      have e2 : inL [x, y] a = false := by rw [Bool.eq_false_iff]; intro h; have := inL_iff.1 h; simp at this; omega
      rw [e2]
      refine ih hf fun z hz => ?_
      rcases List.mem_cons.1 (hl z hz) with e | e
      · exact absurd (e ▸ hz) ha
      · exact e
theorem count_snoc (el : List Int) (x z : Int) : (el ++ [z]).count x = el.count x + if z = x then 1 else 0 := by
  rw [List.count_append, List.count_singleton]
  by_cases h : z = x <;> simp [h]
theorem divS_stable {had : List Int} {r C : Nat} {lot : List Int} (hC : 1 ≤ C) (hl : LotAll lot C) (hn : ∀ x, 0 ≤ getI had x) : ∀ n, StableD had r C lot (divS had r C lot n).1
  | 0 => by intro x y _ _ _ _ _ h; simp [divS] at h
  | n + 1 => by
    have ih := divS_stable (r := r) hC hl hn n
    intro x y x0 xC y0 yC hxy hc
    have e : (divS had r C lot (n + 1)).1 = (divS had r C lot n).1 ++ [frstS lot (topD had r C (divS had r C lot n).1)] := rfl
    have hm := frst_topD (had := had) (r := r) (el := (divS had r C lot n).1) hC hl
    rw [e, count_snoc] at hc
    rw [e, count_snoc, count_snoc]
    clear e
    generalize hel : (divS had r C lot n).1 = el at *
    generalize hz : frstS lot (topD had r C el) = z at *
    by_cases hzx : z = x
    · subst hzx
      rw [if_pos rfl, if_neg hxy, Nat.add_sub_cancel]
      simp only [Nat.add_zero]
      have hb := (mem_bestR.1 hm).2 y (mem_rangeI.2 ⟨y0, yC⟩)
      unfold leD at hb
      have hb' := of_decide_eq_true hb
      refine ⟨hb', fun heq => ?_⟩
      have hy : y ∈ topD had r C el := mem_bestR.2 ⟨mem_rangeI.2 ⟨y0, yC⟩, fun k hk => by
        have h1 := (mem_bestR.1 hm).2 k hk
        refine (pre_leD had r el).tr _ _ _ h1 ?_
        unfold leD
        exact decide_eq_true (by omega)⟩
      exact frst_two hz hy hm fun k hk => hl k (topD_rng hk).1 (topD_rng hk).2
    · rw [if_neg hzx] at hc ⊢
      simp only [Nat.add_zero] at hc ⊢
      obtain ⟨h1, h2⟩ := ih x y x0 xC y0 yC hxy hc
      by_cases hzy : z = y
      · rw [if_pos hzy]
        have hlt := dvS_mono (r := r) (s := el.count y) (t := el.count y + 1) (by omega)
        have hmul : getI had x * dvS r (el.count y) ≤ getI had x * dvS r (el.count y + 1) := Int.mul_le_mul_of_nonneg_left (by omega) (hn x)
        refine ⟨by omega, fun heq => ?_⟩
        exact h2 (by omega)
      · rw [if_neg hzy]
        simp only [Nat.add_zero]
        exact ⟨h1, h2⟩
end Go.Proofs.YtiebfalodelclaaGreat

namespace Go.Proofs.YtiebfalodelclaaGreat

theorem sum_add (f g : Nat → Int) : ∀ n : Nat, ((List.range n).map fun i => f i + g i).sum = ((List.range n).map f).sum + ((List.range n).map g).sum
  | 0 => rfl
  | n + 1 => by
    have := sum_add f g n
    rw [List.range_succ, List.map_append, List.map_append, List.map_append, List.sum_append, List.sum_append, List.sum_append, this]
    simp
    omega
theorem sum_mul (f : Nat → Int) (c : Int) : ∀ n : Nat, ((List.range n).map fun i => f i * c).sum = ((List.range n).map f).sum * c
  | 0 => by simp
  | n + 1 => by
    have := sum_mul f c n
    rw [List.range_succ, List.map_append, List.map_append, List.sum_append, List.sum_append, this]
    simp [Int.add_mul]
theorem sum_ind {a : Int} : ∀ {n : Nat}, ((List.range n).map fun i : Nat => if a = (i : Int) then (1 : Int) else 0).sum = if 0 ≤ a ∧ a < (n : Int) then 1 else 0
  | 0 => by rw [if_neg (by omega)]; rfl
  | n + 1 => by
    have ih := sum_ind (a := a) (n := n)
    rw [List.range_succ, List.map_append, List.sum_append, ih]
    simp only [List.map_cons, List.map_nil, List.sum_cons, List.sum_nil]
    by_cases h1 : a = (n : Int)
    · rw [if_pos h1, if_neg (by omega), if_pos (by omega)]; rfl
    · rw [if_neg h1]
      by_cases h2 : 0 ≤ a ∧ a < (n : Int)
      · rw [if_pos h2, if_pos (by omega)]; rfl
      · rw [if_neg h2, if_neg (by omega)]; rfl
theorem sum_zero (n : Nat) : ((List.range n).map fun _ : Nat => (0 : Int)).sum = 0 := by
  induction n with
  | zero => rfl
  | succ n ih => rw [List.range_succ, List.map_append, List.sum_append, ih]; rfl
/-- All seats go to parties. -/
theorem sum_count {C : Nat} : ∀ {el : List Int}, (∀ x ∈ el, 0 ≤ x ∧ x < (C : Int)) → ((List.range C).map fun i : Nat => ((el.count (i : Int) : Nat) : Int)).sum = el.length
  | [], _ => by simp only [List.count_nil]; exact sum_zero C
  | a :: r, h => by
    have ih := sum_count (C := C) (el := r) fun x hx => h x (List.mem_cons_of_mem _ hx)
    have ha := h a List.mem_cons_self
    have e : (fun i : Nat => (((a :: r).count (i : Int) : Nat) : Int)) = fun i : Nat => ((r.count (i : Int) : Nat) : Int) + (if a = (i : Int) then (1 : Int) else 0) := by
      funext i
      rw [List.count_cons]
      by_cases hai : a = (i : Int)
      · simp [hai]
      · simp [hai]
    rw [e, sum_add, ih, sum_ind, if_pos ha]
    simp
/-- Votes: as many as parties, none negative. -/
structure HadOK (had : List Int) (C : Nat) : Prop where
  len : had.length = C
  nn : ∀ x, 0 ≤ getI had x
theorem HadOK.sum {had : List Int} {C : Nat} (h : HadOK had C) : had.sum = ((List.range C).map fun i : Nat => getI had (i : Int)).sum := by
  have e : had = (List.range C).map fun i : Nat => getI had (i : Int) := by
    refine List.ext_getElem (by simp [h.len]) fun i h1 h2 => ?_
    rw [List.getElem_map, List.getElem_range]
    unfold getI
    simp [h1]
  exact congrArg List.sum e
/-- D'Hondt gives no less than the floor of the share. -/
theorem dhondt_floor {had : List Int} {C : Nat} {lot : List Int} (hC : 1 ≤ C) (hl : LotAll lot C) (hh : HadOK had C) (hT : 0 < had.sum) (n : Nat) {x : Int} (x0 : 0 ≤ x) (xC : x < C) :
    getI had x * n / had.sum ≤ ((divS had 0 C lot n).1.count x : Nat) := by
  refine Classical.byContradiction fun hlt => ?_
  have hst := divS_stable (r := 0) hC hl hh.nn n
  have hlen := length_divS had 0 C lot n
  have hrng := divS_rng (had := had) (r := 0) hC hl n
  generalize (divS had 0 C lot n).1 = el at *
  generalize hTT : had.sum = T at *
  have h1 : ((el.count x : Nat) : Int) + 1 ≤ getI had x * n / T := by omega
  have h2 : (((el.count x : Nat) : Int) + 1) * T ≤ getI had x * n := by
    have := Int.mul_le_mul_of_nonneg_right h1 (show (0 : Int) ≤ T by omega)
    have h3 := Int.ediv_mul_le (getI had x * n) (show T ≠ 0 by omega)
    omega
  have hs1 : ((List.range C).map fun i : Nat => ((el.count (i : Int) : Nat) : Int) * T).sum = n * T := by rw [sum_mul, sum_count hrng, hlen]
  have hs2 : ((List.range C).map fun i : Nat => getI had (i : Int) * n).sum = T * n := by rw [sum_mul, ← hh.sum, hTT]
  obtain ⟨y, hy, hgt⟩ : ∃ y, y < C ∧ getI had (y : Int) * n < ((el.count (y : Int) : Nat) : Int) * T := by
    refine Classical.byContradiction fun hn => ?_
    have hle : ∀ a, a < C → ((el.count (a : Int) : Nat) : Int) * T ≤ getI had (a : Int) * n := fun a ha => by
      have : ¬ (getI had (a : Int) * n < ((el.count (a : Int) : Nat) : Int) * T) := fun h => hn ⟨a, ha, h⟩
      omega
    have hx : ((el.count ((x.toNat : Nat) : Int) : Nat) : Int) * T < getI had ((x.toNat : Nat) : Int) * n := by
      rw [show ((x.toNat : Nat) : Int) = x by omega]
      rw [Int.add_mul] at h2
      omega
    have := sum_lt (f := fun i : Nat => ((el.count (i : Int) : Nat) : Int) * T) (g := fun i : Nat => getI had (i : Int) * n) (n := C) (k := x.toNat) hle (by omega) hx
    rw [hs1, hs2, Int.mul_comm] at this
    omega
  have hyx : (y : Int) ≠ x := by
    intro e
    rw [e] at hgt
    rw [Int.add_mul] at h2
    omega
  have hny := hh.nn (y : Int)
  have hy0 : 0 < el.count (y : Int) := by
    rcases Nat.eq_zero_or_pos (el.count (y : Int)) with h | h
    · rw [h] at hgt
      have : 0 ≤ getI had (y : Int) * n := Int.mul_nonneg hny (by omega)
      simp at hgt
      omega
    · exact h
  have hs := (hst (y : Int) x (by omega) (by omega) x0 xC hyx hy0).1
  unfold dvS at hs
  rw [if_pos rfl, if_pos rfl, show (((el.count (y : Int) - 1 : Nat) : Int) + 1) = ((el.count (y : Int) : Nat) : Int) by omega] at hs
  generalize hgy : ((el.count (y : Int) : Nat) : Int) = gy at *
  generalize hgx : ((el.count x : Nat) : Int) = gx at *
  generalize getI had x = vx at *
  generalize getI had (y : Int) = vy at *
  have hgy0 : 0 < gy := by omega
  have hgx0 : 0 ≤ gx := by omega
  -- vx * gy <= vy * (gx + 1), (gx + 1) * T <= vx * n, vy * n < gy * T
  have k1 : vx * gy * n ≤ vy * (gx + 1) * n := Int.mul_le_mul_of_nonneg_right hs (by omega)
  have k2 : (gx + 1) * T * gy ≤ vx * n * gy := Int.mul_le_mul_of_nonneg_right h2 (by omega)
  have k3 : vy * n * (gx + 1) < gy * T * (gx + 1) := Int.mul_lt_mul_of_pos_right hgt (by omega)
  have e1 : vx * gy * n = vx * n * gy := by rw [Int.mul_assoc, Int.mul_comm gy, ← Int.mul_assoc]
  have e2 : vy * (gx + 1) * n = vy * n * (gx + 1) := by rw [Int.mul_assoc, Int.mul_comm (gx + 1), ← Int.mul_assoc]
  have e3 : (gx + 1) * T * gy = gy * T * (gx + 1) := by rw [Int.mul_comm _ gy, Int.mul_comm (gx + 1), ← Int.mul_assoc]
  omega

/-- More votes, not fewer seats; as many votes, one seat more at most. -/
theorem div_larger {had : List Int} {r C : Nat} {lot : List Int} (hC : 1 ≤ C) (hl : LotAll lot C) (hh : HadOK had C) (n : Nat) {x y : Int} (x0 : 0 ≤ x) (xC : x < C) (y0 : 0 ≤ y) (yC : y < C) :
    (getI had y < getI had x → (divS had r C lot n).1.count y ≤ (divS had r C lot n).1.count x) ∧
    ((∃ z, 0 ≤ z ∧ z < (C : Int) ∧ 0 < getI had z) → getI had x = getI had y → (divS had r C lot n).1.count x ≤ (divS had r C lot n).1.count y + 1) := by
  have hst := divS_stable (r := r) hC hl hh.nn n
  generalize (divS had r C lot n).1 = el at *
  constructor
  · intro hv
    refine Classical.byContradiction fun hgt => ?_
    have hne : y ≠ x := by intro e; subst e; omega
    have hs := (hst y x y0 yC x0 xC hne (by omega)).1
    have hd := dvS_le (r := r) (s := el.count x) (t := el.count y - 1) (by omega)
    have hp := dvS_pos r (el.count x)
    have h1 : getI had x * dvS r (el.count x) ≤ getI had x * dvS r (el.count y - 1) := Int.mul_le_mul_of_nonneg_left hd (hh.nn x)
    have h2 : getI had y * dvS r (el.count x) < getI had x * dvS r (el.count x) := Int.mul_lt_mul_of_pos_right hv hp
    omega
  · rintro ⟨z, z0, zC, hz⟩ hv
    refine Classical.byContradiction fun hgt => ?_
    have hne : x ≠ y := by intro e; subst e; omega
    have hs := (hst x y x0 xC y0 yC hne (by omega)).1
    have hd := dvS_mono (r := r) (s := el.count y) (t := el.count x - 1) (by omega)
    rcases Int.lt_or_eq_of_le (hh.nn x) with h0 | h0
    · have : getI had x * dvS r (el.count y) < getI had x * dvS r (el.count x - 1) := Int.mul_lt_mul_of_pos_left hd h0
      rw [← hv] at hs
      omega
    · have hzx : x ≠ z := by intro e; subst e; omega
      have hs2 := (hst x z x0 xC z0 zC hzx (by omega)).1
      rw [← h0, Int.zero_mul] at hs2
      have : 0 < getI had z * dvS r (el.count x - 1) := Int.mul_pos hz (dvS_pos r _)
      omega
end Go.Proofs.YtiebfalodelclaaGreat

namespace Go.Proofs.YtiebfalodelclaaGreat

theorem mem_outS {l : List Int} {x y : Int} : y ∈ outS l x ↔ y ∈ l ∧ y ≠ x := by unfold outS; simp
theorem outS_len : ∀ {l : List Int} {x : Int}, l.Nodup → x ∈ l → (outS l x).length + 1 = l.length
  | [], _, _, h => by cases h
  | a :: r, x, hn, h => by
    have hn2 := List.nodup_cons.1 hn
    unfold outS
    by_cases e : a = x
    · subst e
      have : (r.filter fun y => !decide (y = a)) = r := List.filter_eq_self.2 fun y hy => by
        have : y ≠ a := fun e => hn2.1 (e ▸ hy)
        simp [this]
      simp [this]
    · have hx : x ∈ r := (List.mem_cons.1 h).resolve_left fun h => e h.symm
      have ih := outS_len hn2.2 hx
      unfold outS at ih
      simp [e]
      omega
/-- The seats that are left go to distinct parties with the greatest remainders. -/
theorem more_spec {f : Int → Int} {C : Nat} {lot : List Int} : ∀ (k : Nat) (eg : List Int) (s : List Int × List Row), eg.Nodup → (∀ z ∈ eg, z ∈ lot) → k ≤ eg.length → (k ≠ 0 → eg ≠ []) →
    ∃ ps, (moreS f C lot k eg s).1 = s.1 ++ ps ∧ ps.length = k ∧ ps.Nodup ∧ (∀ x ∈ ps, x ∈ eg) ∧ ∀ x ∈ ps, ∀ y ∈ eg, y ∉ ps → f y ≤ f x
  | 0, eg, s, _, _, _, _ => ⟨[], by simp [moreS], rfl, List.nodup_nil, by simp, by simp⟩
  | k + 1, eg, s, hn, hl, hk, he => by
    have hne := he (by omega)
    have hlen : eg.length ≠ 0 := fun h => hne (List.length_eq_zero_iff.1 h)
    have hx : frstS lot (bestS f eg) ∈ bestS f eg := frst_mem (bestS_ne hne) fun z hz => hl z (mem_bestS.1 hz).1
    have hstep : moreS f C lot (k + 1) eg s = moreS f C lot k (outS eg (frstS lot (bestS f eg))) (s.1 ++ [frstS lot (bestS f eg)], tiedS s.2 (bestS f eg) (frstS lot (bestS f eg))) := by
      conv => lhs; unfold moreS
      simp only [if_neg hlen]
    rw [hstep]
    generalize frstS lot (bestS f eg) = x at *
    have hxe := (mem_bestS.1 hx).1
    have hol := outS_len hn hxe
    obtain ⟨ps, h1, h2, h3, h4, h5⟩ := more_spec (f := f) (C := C) (lot := lot) k (outS eg x) (s.1 ++ [x], tiedS s.2 (bestS f eg) x) (hn.sublist List.filter_sublist) (fun z hz => hl z (mem_outS.1 hz).1) (by omega)
      (fun h0 hnil => by rw [hnil] at hol; simp at hol; omega)
    refine ⟨x :: ps, by rw [h1]; simp, by simp [h2], ?_, ?_, ?_⟩
    · exact List.nodup_cons.2 ⟨fun h => (mem_outS.1 (h4 x h)).2 rfl, h3⟩
    · intro z hz
      rcases List.mem_cons.1 hz with rfl | hz
      · exact hxe
      · exact (mem_outS.1 (h4 z hz)).1
    · intro z hz y hy hyn
      rcases List.mem_cons.1 hz with rfl | hz
      · exact (mem_bestS.1 hx).2 y hy
      · refine h5 z hz y (mem_outS.2 ⟨hy, fun e => hyn (e ▸ List.mem_cons_self)⟩) fun h => hyn (List.mem_cons_of_mem _ h)
theorem more_nil {f : Int → Int} {C : Nat} {lot : List Int} (hC : 1 ≤ C) (k : Nat) (s : List Int × List Row) : moreS f C lot k [] s = moreS f C lot k (rangeI C) s := by
  cases k with
  | zero => rfl
  | succ k =>
    unfold moreS
    have : (rangeI C).length ≠ 0 := by rw [length_rangeI]; omega
    simp only [List.length_nil, if_true, if_neg this]
theorem more_len {f : Int → Int} {C : Nat} {lot : List Int} : ∀ (k : Nat) (eg : List Int) (s : List Int × List Row), (moreS f C lot k eg s).1.length = s.1.length + k
  | 0, _, _ => rfl
  | k + 1, eg, s => by
    unfold moreS
    simp only
    rw [more_len k]
    simp
    omega
theorem count_base {had : List Int} {n : Nat} : ∀ {C : Nat} {x : Int}, (baseS had n C).count x = if 0 ≤ x ∧ x < (C : Int) then flrS had n x else 0
  | 0, x => by rw [if_neg (by omega)]; rfl
  | C + 1, x => by
    have ih := count_base (had := had) (n := n) (C := C) (x := x)
    unfold baseS at *
    rw [rangeI_succ, List.flatMap_append, List.count_append, ih]
    simp only [List.flatMap_cons, List.flatMap_nil, List.append_nil, List.count_replicate]
    by_cases h1 : (C : Int) = x
    · have hb : ((C : Int) == x) = true := by simpa using h1
      rw [if_neg (by omega), if_pos hb, if_pos (by omega), h1]; omega
    · have hb : ¬ ((C : Int) == x) = true := by simpa using h1
      rw [if_neg hb]
      by_cases h2 : 0 ≤ x ∧ x < (C : Int)
      · rw [if_pos h2, if_pos (by omega)]; omega
      · rw [if_neg h2, if_neg (by omega)]
end Go.Proofs.YtiebfalodelclaaGreat

namespace Go.Proofs.YtiebfalodelclaaGreat

structure FlrOK (had : List Int) (n : Nat) (x : Int) : Prop where
  is : ((flrS had n x : Nat) : Int) = getI had x * n / had.sum
  sum : getI had x * n = ((flrS had n x : Nat) : Int) * had.sum + restS had n x
  r0 : 0 ≤ restS had n x
  r1 : restS had n x < had.sum
theorem flr_ok {had : List Int} {C : Nat} (hh : HadOK had C) (hT : 0 < had.sum) (n : Nat) (x : Int) : FlrOK had n x := by
  have h0 : 0 ≤ getI had x * n := Int.mul_nonneg (hh.nn x) (by omega)
  have hd : 0 ≤ getI had x * n / had.sum := Int.ediv_nonneg h0 (by omega)
  have e1 : ((flrS had n x : Nat) : Int) = getI had x * n / had.sum := by unfold flrS; rw [if_neg (by omega)]; omega
  have e2 : restS had n x = getI had x * n % had.sum := by unfold restS; rw [if_neg (by omega)]
  refine ⟨e1, ?_, ?_, ?_⟩
  · rw [e1, e2, Int.mul_comm (getI had x * n / had.sum)]
    exact (Int.mul_ediv_add_emod _ _).symm
  · rw [e2]; exact Int.emod_nonneg _ (by omega)
  · rw [e2]; exact Int.emod_lt_of_pos _ hT
theorem count_one : ∀ {l : List Int} {x : Int}, l.Nodup → x ∈ l → l.count x = 1
  | [], _, _, h => by cases h
  | a :: r, x, hn, h => by
    have hn2 := List.nodup_cons.1 hn
    rw [List.count_cons]
    by_cases e : a = x
    · subst e
      rw [List.count_eq_zero.2 hn2.1]
      simp
    · have hb : ¬ (a == x) = true := by simpa using e
      rw [if_neg hb, count_one hn2.2 ((List.mem_cons.1 h).resolve_left fun h => e h.symm)]
theorem base_rng {had : List Int} {n C : Nat} {x : Int} (h : x ∈ baseS had n C) : 0 ≤ x ∧ x < (C : Int) := by
  unfold baseS at h
  rw [List.mem_flatMap] at h
  obtain ⟨a, ha, hx⟩ := h
  rw [List.eq_of_mem_replicate hx]
  exact mem_rangeI.1 ha
theorem sum_const (c : Int) : ∀ n : Nat, ((List.range n).map fun _ : Nat => c).sum = n * c
  | 0 => by simp
  | n + 1 => by
    have := sum_const c n
    rw [List.range_succ, List.map_append, List.sum_append, this]
    simp [Int.add_mul]
/-- The seats that are left, times the votes: the remainders' sum. -/
theorem left_sum {had : List Int} {C : Nat} (hh : HadOK had C) (hT : 0 < had.sum) (n : Nat) :
    ((n : Int) - (baseS had n C).length) * had.sum = ((List.range C).map fun i : Nat => restS had n (i : Int)).sum := by
  have hlen := sum_count (C := C) (el := baseS had n C) fun x hx => base_rng hx
  have e1 : ((List.range C).map fun i : Nat => getI had (i : Int) * n).sum = had.sum * n := by rw [sum_mul, ← hh.sum]
  have e2 : ((List.range C).map fun i : Nat => getI had (i : Int) * n).sum = ((List.range C).map fun i : Nat => (((baseS had n C).count (i : Int) : Nat) : Int) * had.sum + restS had n (i : Int)).sum := by
    congr 1
    refine List.map_congr_left fun i hi => ?_
    have hi := List.mem_range.1 hi
    rw [count_base, if_pos (by omega)]
    exact (flr_ok hh hT n (i : Int)).sum
  rw [e1, sum_add, sum_mul, hlen] at e2
  rw [Int.sub_mul, Int.mul_comm (n : Int)]
  omega
structure RemIs (had : List Int) (C n : Nat) (el ps : List Int) : Prop where
  is : el = baseS had n C ++ ps
  len : (baseS had n C).length + ps.length = n
  nd : ps.Nodup
  rng : ∀ x ∈ ps, 0 ≤ x ∧ x < (C : Int)
  top : ∀ x ∈ ps, ∀ y, 0 ≤ y → y < (C : Int) → y ∉ ps → restS had n y ≤ restS had n x
  pos : ∀ x ∈ ps, 0 < restS had n x
theorem rem_is {had : List Int} {C : Nat} {lot : List Int} (hC : 1 ≤ C) (hl : LotAll lot C) (hh : HadOK had C) (hT : 0 < had.sum) (n : Nat) : ∃ ps, RemIs had C n (remS had C lot n).1 ps := by
  have hsum := left_sum hh hT n
  have hr0 : ∀ i : Nat, 0 ≤ restS had n (i : Int) := fun i => (flr_ok hh hT n _).r0
  have hs0 : 0 ≤ ((List.range C).map fun i : Nat => restS had n (i : Int)).sum := by
    have := sum_le (f := fun _ => 0) (g := fun i : Nat => restS had n (i : Int)) (n := C) fun a _ => hr0 a
    rw [sum_zero] at this
    exact this
  have hsC : ((List.range C).map fun i : Nat => restS had n (i : Int)).sum ≤ (C : Int) * had.sum := by
    have := sum_le (f := fun i : Nat => restS had n (i : Int)) (g := fun _ => had.sum) (n := C) fun a _ => Int.le_of_lt (flr_ok hh hT n _).r1
    rw [sum_const] at this
    exact this
  rw [← hsum] at hs0 hsC
  have hb1 : 0 ≤ (n : Int) - (baseS had n C).length := by
    refine Classical.byContradiction fun h => ?_
    have : ((n : Int) - (baseS had n C).length) * had.sum < 0 := Int.mul_neg_of_neg_of_pos (by omega) hT
    omega
  have hb2 : (n : Int) - (baseS had n C).length ≤ C := Int.le_of_mul_le_mul_right hsC hT
  have hnd : (rangeI C).Nodup := by
    unfold rangeI
    rw [List.nodup_iff_pairwise_ne, List.pairwise_map]
    exact (List.nodup_iff_pairwise_ne.1 List.nodup_range).imp fun h e => h (by omega)
  obtain ⟨ps, h1, h2, h3, h4, h5⟩ := more_spec (f := restS had n) (C := C) (lot := lot) (n - (baseS had n C).length) (rangeI C) (baseS had n C, []) hnd
    (fun z hz => hl z (mem_rangeI.1 hz).1 (mem_rangeI.1 hz).2) (by rw [length_rangeI]; omega) (fun _ h => by have := congrArg List.length h; rw [length_rangeI] at this; simp at this; omega)
  refine ⟨ps, by unfold remS; rw [more_nil hC, h1], by omega, h3, fun x hx => mem_rangeI.1 (h4 x hx), fun x hx y y0 yC hy => h5 x hx y (mem_rangeI.2 ⟨y0, yC⟩) hy, ?_⟩
  intro x hx
  refine Classical.byContradiction fun hz => ?_
  have hxr := mem_rangeI.1 (h4 x hx)
  have hx0 : restS had n x = 0 := by have := (flr_ok hh hT n x).r0; omega
  have hle := sum_le (f := fun i : Nat => restS had n (i : Int)) (g := fun i : Nat => ((ps.count (i : Int) : Nat) : Int) * had.sum + (if x = (i : Int) then (1 : Int) else 0) * (- had.sum)) (n := C) fun i hi => by
    have hri := (flr_ok hh hT n (i : Int))
    by_cases hxi : x = (i : Int)
    · have hc : ps.count (i : Int) = 1 := by rw [← hxi]; exact count_one h3 hx
      simp only [if_pos hxi, hc]
      rw [← hxi, hx0]
      omega
    · simp only [if_neg hxi]
      by_cases hip : (i : Int) ∈ ps
      · have hc : ps.count (i : Int) = 1 := count_one h3 hip
        rw [hc]
        have := hri.r1
        omega
      · have hc : ps.count (i : Int) = 0 := List.count_eq_zero.2 hip
        have := h5 x hx (i : Int) (mem_rangeI.2 ⟨by omega, by omega⟩) hip
        rw [hc]
        omega
  rw [sum_add, sum_mul, sum_mul, sum_count (fun x hx => mem_rangeI.1 (h4 x hx)), sum_ind, if_pos hxr, ← hsum, h2] at hle
  have e : ((n - (baseS had n C).length : Nat) : Int) = (n : Int) - (baseS had n C).length := by omega
  rw [e] at hle
  omega
theorem rem_count {had : List Int} {C n : Nat} {el ps : List Int} (h : RemIs had C n el ps) {x : Int} (x0 : 0 ≤ x) (xC : x < C) : el.count x = flrS had n x + if x ∈ ps then 1 else 0 := by
  rw [h.is, List.count_append, count_base, if_pos ⟨x0, xC⟩]
  by_cases hx : x ∈ ps
  · rw [if_pos hx, count_one h.nd hx]
  · rw [if_neg hx, List.count_eq_zero.2 hx]
/-- Largest remainders satisfy quota. -/
theorem hare_quota {had : List Int} {C : Nat} {lot : List Int} (hC : 1 ≤ C) (hl : LotAll lot C) (hh : HadOK had C) (hT : 0 < had.sum) (n : Nat) {x : Int} (x0 : 0 ≤ x) (xC : x < C) :
    getI had x * n / had.sum ≤ ((remS had C lot n).1.count x : Nat) ∧ (((remS had C lot n).1.count x : Nat) : Int) ≤ (getI had x * n + had.sum - 1) / had.sum := by
  obtain ⟨ps, h⟩ := rem_is hC hl hh hT n
  have hf := flr_ok hh hT n x
  rw [rem_count h x0 xC]
  have hi := hf.is
  constructor
  · omega
  · have hs := hf.sum
    have hr0 := hf.r0
    have hp : x ∈ ps → 0 < restS had n x := h.pos x
    generalize restS had n x = r at *
    generalize ((flrS had n x : Nat)) = q at *
    generalize hv : getI had x * n = v at *
    rw [Int.le_ediv_iff_mul_le hT]
    by_cases hx : x ∈ ps
    · have := hp hx
      rw [if_pos hx]
      push_cast
      rw [Int.add_mul]
      omega
    · rw [if_neg hx]
      simp only [Nat.add_zero]
      omega
/-- More votes, not fewer seats. -/
theorem hare_larger {had : List Int} {C : Nat} {lot : List Int} (hC : 1 ≤ C) (hl : LotAll lot C) (hh : HadOK had C) (hT : 0 < had.sum) (n : Nat) {x y : Int} (x0 : 0 ≤ x) (xC : x < C) (y0 : 0 ≤ y) (yC : y < C) :
    (getI had y < getI had x → (remS had C lot n).1.count y ≤ (remS had C lot n).1.count x) ∧ (getI had x = getI had y → (remS had C lot n).1.count x ≤ (remS had C lot n).1.count y + 1) := by
  obtain ⟨ps, h⟩ := rem_is hC hl hh hT n
  have hx := flr_ok hh hT n x
  have hy := flr_ok hh hT n y
  rw [rem_count h x0 xC, rem_count h y0 yC]
  constructor
  · intro hv
    have hle : getI had y * n ≤ getI had x * n := Int.mul_le_mul_of_nonneg_right (by omega) (by omega)
    have hfl : getI had y * n / had.sum ≤ getI had x * n / had.sum := Int.ediv_le_ediv hT hle
    rw [← hx.is, ← hy.is] at hfl
    by_cases hyp : y ∈ ps
    · rw [if_pos hyp]
      by_cases hxp : x ∈ ps
      · rw [if_pos hxp]; omega
      · rw [if_neg hxp]
        have ht := h.top y hyp x x0 xC hxp
        have hpos := h.pos y hyp
        rcases Nat.lt_or_ge (flrS had n y) (flrS had n x) with hlt | hge
        · omega
        · exfalso
          have he : flrS had n y = flrS had n x := by omega
          have s1 := hx.sum
          have s2 := hy.sum
          rw [he] at s2
          have hn : 0 < n := by
            rcases Nat.eq_zero_or_pos n with h0 | h0
            · exfalso
              subst h0
              have := h.len
              have hl : ps.length = 0 := by omega
              rw [List.length_eq_zero_iff.1 hl] at hyp
              cases hyp
            · exact h0
          have hlt : getI had y * n < getI had x * n := Int.mul_lt_mul_of_pos_right hv (by omega)
          omega
    · rw [if_neg hyp]
      omega
  · intro hv
    have : flrS had n x = flrS had n y := by
      have h1 := hx.is
      have h2 := hy.is
      rw [hv] at h1
      omega
    rw [this]
    split <;> split <;> omega
end Go.Proofs.YtiebfalodelclaaGreat

namespace Go.Proofs.YtiebfalodelclaaGreat

structure Scaled (had had' : List Int) (f : Int) : Prop where
  f0 : 0 < f
  at_ : ∀ x, getI had' x = f * getI had x
  sum : had'.sum = f * had.sum
theorem leD_scale {had had' : List Int} {f : Int} (h : Scaled had had' f) (r : Nat) (el : List Int) : leD had' r el = leD had r el := by
  funext y x
  unfold leD
  rw [h.at_, h.at_, Int.mul_assoc, Int.mul_assoc, decide_eq_decide]
  exact ⟨fun hh => Int.le_of_mul_le_mul_left hh h.f0, fun hh => Int.mul_le_mul_of_nonneg_left hh (by have := h.f0; omega)⟩
theorem divS_scale {had had' : List Int} {f : Int} (h : Scaled had had' f) (r C : Nat) (lot : List Int) : ∀ n, divS had' r C lot n = divS had r C lot n
  | 0 => rfl
  | n + 1 => by
    have ih := divS_scale h r C lot n
    unfold divS topD
    rw [ih, leD_scale h]
theorem flr_scale {had had' : List Int} {f : Int} (h : Scaled had had' f) (n : Nat) : flrS had' n = flrS had n := by
  funext x
  unfold flrS
  rw [h.at_, h.sum]
  have h0 := h.f0
  by_cases hs : had.sum ≤ 0
  · have : f * had.sum ≤ 0 := Int.mul_nonpos_of_nonneg_of_nonpos (by omega) hs
    rw [if_pos hs, if_pos this]
  · have : 0 < f * had.sum := Int.mul_pos h0 (by omega)
    rw [if_neg hs, if_neg (by omega), Int.mul_assoc, Int.mul_ediv_mul_of_pos _ _ h0]
theorem rest_scale {had had' : List Int} {f : Int} (h : Scaled had had' f) (n : Nat) (x : Int) : restS had' n x = f * restS had n x := by
  unfold restS
  rw [h.at_, h.sum]
  have h0 := h.f0
  by_cases hs : had.sum ≤ 0
  · have : f * had.sum ≤ 0 := Int.mul_nonpos_of_nonneg_of_nonpos (by omega) hs
    rw [if_pos hs, if_pos this, Int.mul_zero]
  · have : 0 < f * had.sum := Int.mul_pos h0 (by omega)
    rw [if_neg hs, if_neg (by omega), Int.mul_assoc, Int.mul_emod_mul_of_pos _ _ h0]
theorem best_scale {g g' : Int → Int} {f : Int} (hf : 0 < f) (hg : ∀ x, g' x = f * g x) (l : List Int) : bestS g' l = bestS g l := by
  unfold bestS
  refine List.filter_congr fun x _ => ?_
  congr 1
  funext k
  rw [hg, hg, decide_eq_decide]
  exact ⟨fun hh => Int.le_of_mul_le_mul_left hh hf, fun hh => Int.mul_le_mul_of_nonneg_left hh (by omega)⟩
theorem more_scale {g g' : Int → Int} {f : Int} (hf : 0 < f) (hg : ∀ x, g' x = f * g x) (C : Nat) (lot : List Int) : ∀ (k : Nat) (eg : List Int) (s : List Int × List Row), moreS g' C lot k eg s = moreS g C lot k eg s
  | 0, _, _ => rfl
  | k + 1, eg, s => by
    unfold moreS
    simp only [best_scale hf hg]
    exact more_scale hf hg C lot k _ _
theorem remS_scale {had had' : List Int} {f : Int} (h : Scaled had had' f) (C : Nat) (lot : List Int) (n : Nat) : remS had' C lot n = remS had C lot n := by
  unfold remS baseS
  rw [flr_scale h, more_scale h.f0 (rest_scale h n)]
theorem seatS_scale {had had' : List Int} {f : Int} (h : Scaled had had' f) (rule : Int) (C : Nat) (lot : List Int) (n : Nat) : seatS rule had' C lot n = seatS rule had C lot n := by
  unfold seatS
  rw [divS_scale h, divS_scale h, remS_scale h]
theorem wsum_scale (φ : List Int → Bool) (f : Int) (l : List Row) : wsum φ (l.map fun r => (r.1, r.2 * f)) = f * wsum φ l := by
  induction l with
  | nil => simp [wsum]
  | cons a r ih =>
    rw [List.map_cons, wsum_cons, wsum_cons, ih, Int.mul_add]
    simp only
    split
    · rw [Int.mul_comm]
    · simp
theorem sum_votV (l : List Row) (C : Nat) : (votV l C).sum = ((List.range C).map fun i : Nat => votX l (i : Int)).sum := rfl
theorem vot_scale (l : List Row) (C : Nat) {f : Int} (hf : 0 < f) : Scaled (votV l C) (votV (l.map fun r => (r.1, r.2 * f)) C) f := by
  have e : ∀ x, votX (l.map fun r => (r.1, r.2 * f)) x = f * votX l x := fun x => wsum_scale _ f l
  refine ⟨hf, fun x => ?_, ?_⟩
  · unfold getI votV
    rw [List.getD_eq_getElem?_getD, List.getD_eq_getElem?_getD, List.getElem?_map, List.getElem?_map]
    rcases Nat.lt_or_ge x.toNat C with h | h
    · rw [List.getElem?_range h]
      simp only [Option.map_some, Option.getD_some]
      exact e _
    · rw [List.getElem?_eq_none (by simp; omega)]
      simp
  · rw [sum_votV, sum_votV, Int.mul_comm, ← sum_mul]
    congr 1
    refine List.map_congr_left fun i _ => ?_
    rw [e, Int.mul_comm]
end Go.Proofs.YtiebfalodelclaaGreat

namespace Go.Proofs.YtiebfalodelclaaGreat

structure MarkOK (l : List Row) (C : Nat) : Prop where
  c1 : 1 ≤ C
  c10 : C ≤ 10
  asc : Asc l
  pos : Pos l
  len : l.length ≤ 64
  tot : totS l ≤ 1000000
  one : ∀ r ∈ l, ∀ x, r.1 = [x] → 0 ≤ x ∧ x < (C : Int)
theorem markOK_of {c : Int} {l : List Row} (h : checkS c 2 l = 0) : MarkOK l c.toNat := by
  obtain ⟨h1, h2, h3, _, _, h6, h7, h8, h9⟩ := check_iff.1 h
  refine ⟨by omega, by omega, h7, h8, h1, h6, fun r hr x hx => ?_⟩
  have hb := h9 r hr
  unfold bcheckS at hb
  rw [if_neg (by omega)] at hb
  have hf : fineS 2 r.1 c = true := by
    cases hf : fineS 2 r.1 c with
    | true => rfl
    | false => rw [hf] at hb; simp at hb
  unfold fineS at hf
  rw [if_neg (by decide), if_pos rfl, hx] at hf
  simp [inR] at hf
  omega
theorem votX_one {l : List Row} {t : Nat} {x y : Int} (hat : l[t]? = some ([x], y)) (z : Int) : votX (l.take (t + 1)) z = votX (l.take t) z + if x = z then y else 0 := by
  unfold votX
  rw [wsum_take_succ _ hat]
  congr 1
  by_cases h : x = z
  · rw [if_pos h, if_pos (by simp [h])]
  · rw [if_neg h, if_neg (by simp [h])]
theorem votX_other {l : List Row} {t : Nat} {ms : List Int} {y : Int} (hat : l[t]? = some (ms, y)) (hm : ms.length ≠ 1) (z : Int) : votX (l.take (t + 1)) z = votX (l.take t) z := by
  unfold votX
  rw [wsum_take_succ _ hat, if_neg (by simp; intro e; rw [e] at hm; exact hm rfl), Int.add_zero]
theorem get_votV (l : List Row) {C i : Nat} (h : i < C) : (votV l C)[i]? = some (votX l (i : Int)) := by
  unfold votV
  rw [List.getElem?_map, List.getElem?_range h]
  rfl
theorem votV_hit {l : List Row} {t X C : Nat} {y : Int} (hat : l[t]? = some ([(X : Int)], y)) : votV (l.take (t + 1)) C = (votV (l.take t) C).set X (votX (l.take t) X + y) := by
  refine List.ext_getElem? fun i => ?_
  by_cases hi : i < C
  · rw [get_votV _ hi, votX_one hat]
    by_cases e : i = X
    · subst e
      rw [List.getElem?_set_self (by rw [length_votV]; exact hi), if_pos rfl]
    · rw [List.getElem?_set_ne (Ne.symm e), get_votV _ hi, if_neg (by omega), Int.add_zero]
  · rw [List.getElem?_eq_none (by rw [length_votV]; omega), List.getElem?_eq_none (by rw [List.length_set, length_votV]; omega)]
theorem votV_miss {l : List Row} {t C : Nat} {ms : List Int} {y : Int} (hat : l[t]? = some (ms, y)) (hm : ms.length ≠ 1) : votV (l.take (t + 1)) C = votV (l.take t) C := by
  unfold votV
  exact List.map_congr_left fun i _ => votX_other hat hm _
theorem losV_hit {l : List Row} {t : Nat} {x y : Int} (hat : l[t]? = some ([x], y)) : losV (l.take (t + 1)) = losV (l.take t) := by
  unfold losV
  rw [wsum_take_succ _ hat, if_neg (by simp), Int.add_zero]
theorem losV_miss {l : List Row} {t : Nat} {ms : List Int} {y : Int} (hat : l[t]? = some (ms, y)) (hm : ms.length ≠ 1) : losV (l.take (t + 1)) = losV (l.take t) + y := by
  unfold losV
  rw [wsum_take_succ _ hat, if_pos (by simpa using hm)]
/-- All stays within a million. -/
theorem vot_room {l : List Row} {C : Nat} (h : MarkOK l C) (t : Nat) (z : Int) : 0 ≤ votX (l.take t) z ∧ votX (l.take t) z ≤ 1000000 ∧ 0 ≤ losV (l.take t) ∧ losV (l.take t) ≤ 1000000 := by
  have hp := pos_take h.pos t
  have h1 := wsum_le_tot (φ := fun ms => decide (ms = [z])) hp
  have h2 := wsum_le_tot (φ := fun ms => decide (ms.length ≠ 1)) hp
  have h3 : totS (l.take t) ≤ totS l := by
    have e := totS_mono (l := l) (fun i hi => by
      have := h.pos (l[i]) (List.getElem_mem hi)
      rwa [show l.getD i ([], 0) = l[i] by simp [List.getD, hi]]) (a := min t l.length) (b := l.length) (by omega) (Nat.le_refl _)
    rw [List.take_length] at e
    have e2 : l.take (min t l.length) = l.take t := by
      rcases Nat.le_total t l.length with h | h
      · rw [Nat.min_eq_left h]
      · rw [Nat.min_eq_right h, List.take_of_length_le h, List.take_of_length_le (Nat.le_refl _)]
    rwa [e2] at e
  have ht := h.tot
  exact ⟨wsum_nn hp, by unfold votX; omega, wsum_nn hp, by unfold losV; omega⟩
theorem hadOK_vot {l : List Row} (C : Nat) (h : Pos l) : HadOK (votV l C) C := by
  refine ⟨length_votV l C, fun x => ?_⟩
  unfold getI votV
  rw [List.getD_eq_getElem?_getD, List.getElem?_map]
  rcases Nat.lt_or_ge x.toNat C with h1 | h1
  · rw [List.getElem?_range h1]
    simp only [Option.map_some, Option.getD_some]
    exact wsum_nn h
  · rw [List.getElem?_eq_none (by simp; omega)]
    exact Int.le_refl _
theorem cnt_vot {l : List Row} (h : Asc l) (x : Int) : cntR l [x] = votX l x := cntR_wsum h [x]
/-- Every ballot is a vote or invalid. -/
theorem vot_all {C : Nat} : ∀ {l : List Row}, (∀ r ∈ l, ∀ x, r.1 = [x] → 0 ≤ x ∧ x < (C : Int)) → (votV l C).sum + losV l = totS l
  | [], _ => by
    have : (votV [] C).sum = 0 := by unfold votV votX; simp only [wsum_nil]; exact sum_zero C
    rw [this]; rfl
  | a :: r, h => by
    have ih := vot_all (C := C) (l := r) fun x hx => h x (List.mem_cons_of_mem _ hx)
    have e3 : totS (a :: r) = a.2 + totS r := by simp [totS]
    have e2 : losV (a :: r) = (if a.1.length ≠ 1 then a.2 else 0) + losV r := by
      unfold losV; rw [wsum_cons]; congr 1
      by_cases hl : a.1.length = 1 <;> simp [hl]
    have e1 : (votV (a :: r) C).sum = (if a.1.length ≠ 1 then 0 else a.2) + (votV r C).sum := by
      by_cases hl : a.1.length = 1
      · obtain ⟨x, hx⟩ : ∃ x, a.1 = [x] := List.length_eq_one_iff.1 hl
        have hr := h a List.mem_cons_self x hx
        rw [if_neg (by omega), sum_votV, sum_votV]
        have : (fun i : Nat => votX (a :: r) (i : Int)) = fun i : Nat => (if x = (i : Int) then (1 : Int) else 0) * a.2 + votX r (i : Int) := by
          funext i
          unfold votX
          rw [wsum_cons, hx]
          congr 1
          by_cases hi : x = (i : Int)
          · rw [if_pos (by simp [hi]), if_pos hi, Int.one_mul]
          · rw [if_neg (by simp [hi]), if_neg hi, Int.zero_mul]
        rw [this, sum_add, sum_mul, sum_ind, if_pos hr, Int.one_mul]
      · rw [if_pos hl, Int.zero_add, sum_votV, sum_votV]
        congr 1
        refine List.map_congr_left fun i _ => ?_
        unfold votX
        rw [wsum_cons, if_neg (by simp; intro e; rw [e] at hl; exact hl rfl), Int.zero_add]
    rw [e1, e2, e3]
    split <;> omega
end Go.Proofs.YtiebfalodelclaaGreat

namespace Go.Proofs.YtiebfalodelclaaGreat

theorem tied_len (ts : List Row) (A : List Int) (x : Int) : (tiedS ts A x).length ≤ ts.length + 1 := by
  unfold tiedS
  split
  · omega
  · simp
theorem more_rng {f : Int → Int} {C : Nat} {lot : List Int} (hC : 1 ≤ C) (hl : LotAll lot C) : ∀ (k : Nat) (eg : List Int) (s : List Int × List Row), InR C eg → InR C s.1 → InR C (moreS f C lot k eg s).1
  | 0, _, _, _, hs => hs
  | k + 1, eg, s, he, hs => by
    have he' : InR C (if eg.length = 0 then rangeI C else eg) := by
      split
      · exact inR_range C
      · exact he
    have hne : (if eg.length = 0 then rangeI C else eg) ≠ [] := by
      split
      · intro e; have := congrArg List.length e; rw [length_rangeI] at this; simp at this; omega
      · rename_i h; intro e; exact h (by rw [e]; rfl)
    simp only [moreS]
    generalize (if eg.length = 0 then rangeI C else eg) = E at he' hne
    have hx := frst_mem (lot := lot) (A := bestS f E) (bestS_ne hne) (fun x hx => by have := he' x ((bestS_sub f E).subset hx); exact hl x this.1 this.2)
    refine more_rng hC hl k _ _ (he'.sub (outS_sub _ _)) fun x hm => ?_
    rcases List.mem_append.1 hm with h | h
    · exact hs x h
    · rw [List.mem_singleton.1 h]; exact he' _ ((bestS_sub f E).subset hx)
theorem more_ties {f : Int → Int} {C : Nat} {lot : List Int} : ∀ (k : Nat) (eg : List Int) (s : List Int × List Row), (moreS f C lot k eg s).2.length ≤ s.2.length + k
  | 0, _, _ => Nat.le_refl _
  | k + 1, eg, s => by
    simp only [moreS]
    have h1 := more_ties (f := f) (C := C) (lot := lot) k (outS (if eg.length = 0 then rangeI C else eg) (frstS lot (bestS f (if eg.length = 0 then rangeI C else eg)))) (s.1 ++ [frstS lot (bestS f (if eg.length = 0 then rangeI C else eg))], tiedS s.2 (bestS f (if eg.length = 0 then rangeI C else eg)) (frstS lot (bestS f (if eg.length = 0 then rangeI C else eg))))
    have h2 := tied_len s.2 (bestS f (if eg.length = 0 then rangeI C else eg)) (frstS lot (bestS f (if eg.length = 0 then rangeI C else eg)))
    dsimp only at h1
    omega
theorem base_zero {had : List Int} {n C : Nat} (h : had.sum ≤ 0) : baseS had n C = [] := by
  unfold baseS
  rw [List.flatMap_eq_nil_iff]
  intro x _
  unfold flrS
  rw [if_pos h]; rfl
theorem remS_len {had : List Int} {C : Nat} {lot : List Int} (hC : 1 ≤ C) (hl : LotAll lot C) (hh : HadOK had C) (n : Nat) : (remS had C lot n).1.length = n ∧ (baseS had n C).length ≤ n := by
  by_cases hT : 0 < had.sum
  · obtain ⟨ps, h⟩ := rem_is hC hl hh hT n
    have := h.len
    rw [h.is, List.length_append]
    omega
  · have hb := base_zero (n := n) (C := C) (show had.sum ≤ 0 by omega)
    unfold remS
    rw [hb, more_len]
    simp
theorem remS_rng {had : List Int} {C : Nat} {lot : List Int} (hC : 1 ≤ C) (hl : LotAll lot C) (n : Nat) : InR C (remS had C lot n).1 :=
  more_rng hC hl _ _ _ (fun _ h => by cases h) fun _ hx => base_rng hx
theorem seatS_rng {had : List Int} {C : Nat} {lot : List Int} (hC : 1 ≤ C) (hl : LotAll lot C) (rule : Int) (n : Nat) : InR C (seatS rule had C lot n).1 := by
  unfold seatS
  split
  · exact fun x hx => divS_rng hC hl n x hx
  · split
    · exact fun x hx => divS_rng hC hl n x hx
    · exact remS_rng hC hl n
theorem seatS_len {had : List Int} {C : Nat} {lot : List Int} (hC : 1 ≤ C) (hl : LotAll lot C) (hh : HadOK had C) (rule : Int) (n : Nat) : (seatS rule had C lot n).1.length = n := by
  unfold seatS
  split
  · exact length_divS ..
  · split
    · exact length_divS ..
    · exact (remS_len hC hl hh n).1
theorem seatS_ties (had : List Int) (C : Nat) (lot : List Int) (rule : Int) (n : Nat) : (seatS rule had C lot n).2.length ≤ n := by
  unfold seatS
  split
  · exact ties_le ..
  · split
    · exact ties_le ..
    · have := more_ties (f := restS had n) (C := C) (lot := lot) (n - (baseS had n C).length) [] (baseS had n C, [])
      unfold remS
      simp at this
      omega

/-- What all ties look like. -/
def TieOK (C : Nat) (ts : List Row) : Prop := ∀ t ∈ ts, InR C t.1 ∧ t.1.length ≤ C ∧ 0 ≤ t.2 ∧ t.2 < (C : Int)
theorem TieOK.tied {C : Nat} {ts : List Row} {A : List Int} {x : Int} (h : TieOK C ts) (hA : A.Sublist (rangeI C)) (hx : x ∈ A) : TieOK C (tiedS ts A x) := by
  unfold tiedS
  split
  · exact h
  · intro t ht
    rcases List.mem_append.1 ht with ht | ht
    · exact h t ht
    · rw [List.mem_singleton.1 ht]
      have hr := (inR_range C).sub hA
      have := hA.length_le
      rw [length_rangeI] at this
      exact ⟨hr, this, hr x hx⟩
theorem divS_tieOK {had : List Int} {r C : Nat} {lot : List Int} (hC : 1 ≤ C) (hl : LotAll lot C) : ∀ n, TieOK C (divS had r C lot n).2
  | 0 => fun _ h => by cases h
  | n + 1 => (divS_tieOK hC hl n).tied (bestR_sub _ _) (frst_topD hC hl)
theorem more_tieOK {f : Int → Int} {C : Nat} {lot : List Int} (hC : 1 ≤ C) (hl : LotAll lot C) : ∀ (k : Nat) (eg : List Int) (s : List Int × List Row), eg.Sublist (rangeI C) → TieOK C s.2 → TieOK C (moreS f C lot k eg s).2
  | 0, _, _, _, hs => hs
  | k + 1, eg, s, he, hs => by
    have he' : (if eg.length = 0 then rangeI C else eg).Sublist (rangeI C) := by
      split
      · exact List.Sublist.refl _
      · exact he
    have hne : (if eg.length = 0 then rangeI C else eg) ≠ [] := by
      split
      · intro e; have := congrArg List.length e; rw [length_rangeI] at this; simp at this; omega
      · rename_i h; intro e; exact h (by rw [e]; rfl)
    simp only [moreS]
    generalize (if eg.length = 0 then rangeI C else eg) = E at he' hne
    have hx := frst_mem (lot := lot) (A := bestS f E) (bestS_ne hne) (fun x hx => by have := (inR_range C).sub he' x ((bestS_sub f E).subset hx); exact hl x this.1 this.2)
    exact more_tieOK hC hl k _ _ ((outS_sub _ _).trans he') (hs.tied ((bestS_sub f E).trans he') hx)
theorem seatS_tieOK {had : List Int} {C : Nat} {lot : List Int} (hC : 1 ≤ C) (hl : LotAll lot C) (rule : Int) (n : Nat) : TieOK C (seatS rule had C lot n).2 := by
  unfold seatS
  split
  · exact divS_tieOK hC hl n
  · split
    · exact divS_tieOK hC hl n
    · exact more_tieOK hC hl _ _ _ (List.nil_sublist _) fun _ h => by cases h

/-- The votes under other names. -/
structure VN (p : List Int) (C : Nat) (had had' : List Int) : Prop where
  at_ : ∀ x : Int, 0 ≤ x ∧ x < C → getI had' (nameS p x) = getI had x
  sum : had'.sum = had.sum
theorem cnt_names {p : List Int} {C : Nat} (hN : Names p C) : ∀ {el : List Int} {x : Int}, InR C el → 0 ≤ x ∧ x < (C : Int) → (el.map (nameS p)).count (nameS p x) = el.count x
  | [], _, _, _ => rfl
  | a :: r, x, h, hx => by
    have ih := cnt_names hN (el := r) (fun y hy => h y (List.mem_cons_of_mem _ hy)) hx
    rw [List.map_cons, List.count_cons, List.count_cons, ih]
    by_cases e : a = x
    · subst e; simp
    · have e' : nameS p a ≠ nameS p x := fun e2 => e (hN.inj (h a List.mem_cons_self) hx e2)
      simp [e, e']
theorem leD_names {p : List Int} {C : Nat} {had had' el : List Int} {r : Nat} (hN : Names p C) (hV : VN p C had had') (he : InR C el) {x y : Int} (hx : 0 ≤ x ∧ x < (C : Int)) (hy : 0 ≤ y ∧ y < (C : Int)) :
    leD had' r (el.map (nameS p)) (nameS p y) (nameS p x) = leD had r el y x := by
  unfold leD
  rw [hV.at_ x hx, hV.at_ y hy, cnt_names hN he hx, cnt_names hN he hy]
theorem bestR_names {p : List Int} {n : Nat} {S : List Int} {le le' : Int → Int → Bool} (hN : Names p n) (hS : InR n S) (hg : ∀ x y : Int, 0 ≤ x ∧ x < n → 0 ≤ y ∧ y < n → le' (nameS p y) (nameS p x) = le y x) :
    bestR le' (imgS p n S) = imgS p n (bestR le S) := by
  refine img_of hN (hS.sub (bestR_sub _ _)) ((bestR_sub _ _).trans (img_sub _ _ _)) fun x => ?_
  rw [mem_bestR]
  constructor
  · rintro ⟨hx, hm⟩
    obtain ⟨y, hy, rfl⟩ := (mem_img hN hS).1 hx
    refine ⟨y, mem_bestR.2 ⟨hy, fun k hk => ?_⟩, rfl⟩
    have := hm (nameS p k) ((mem_img hN hS).2 ⟨k, hk, rfl⟩)
    rwa [hg y k (hS y hy) (hS k hk)] at this
  · rintro ⟨y, hy, rfl⟩
    obtain ⟨hy1, hy2⟩ := mem_bestR.1 hy
    refine ⟨(mem_img hN hS).2 ⟨y, hy1, rfl⟩, fun k hk => ?_⟩
    obtain ⟨z, hz, rfl⟩ := (mem_img hN hS).1 hk
    rw [hg y z (hS y hy1) (hS z hz)]
    exact hy2 z hz
theorem topD_names {p : List Int} {C : Nat} {had had' el : List Int} {r : Nat} (hN : Names p C) (hV : VN p C had had') (he : InR C el) : topD had' r C (el.map (nameS p)) = imgS p C (topD had r C el) := by
  unfold topD
  rw [← bestR_names (le' := leD had' r (el.map (nameS p))) hN (inR_range C) fun x y hx hy => leD_names hN hV he hx hy, img_range hN]
theorem LotAll.of {lot : List Int} {C : Nat} (h : lotS lot C = true) : LotAll lot C := fun _ h0 h1 => lot_in h (mem_rangeI.2 ⟨h0, h1⟩)
theorem divS_names {p lot : List Int} {C : Nat} {had had' : List Int} {r : Nat} (hN : Names p C) (hV : VN p C had had') (hlot : lotS lot C = true) :
    ∀ n, divS had' r C (lot.map (nameS p)) n = ((divS had r C lot n).1.map (nameS p), (divS had r C lot n).2.map (renTie p))
  | 0 => rfl
  | n + 1 => by
    have ih := divS_names (had := had) (had' := had') (r := r) hN hV hlot n
    have hl := LotAll.of hlot
    have hr : InR C (divS had r C lot n).1 := fun x hx => divS_rng hN.one hl n x hx
    have hA : InR C (topD had r C (divS had r C lot n).1) := fun x hx => topD_rng hx
    have hnd : (topD had r C (divS had r C lot n).1).Nodup := (nodup_rangeI C).sublist (bestR_sub _ _)
    simp only [divS]
    rw [ih]
    dsimp only
    rw [topD_names hN hV hr, frst_ren hN hA (lot_in_range hlot) (topD_ne had r hN.one _) fun x hx => hl x (topD_rng hx).1 (topD_rng hx).2, tied_ren hN hA hnd, List.map_append]
    rfl
theorem img_nil {p : List Int} {n : Nat} : imgS p n [] = [] := by
  unfold imgS
  rw [List.filter_eq_nil_iff]
  intro a _
  simp [inL]
/-- One seat after the other, under other names. -/
theorem more_names {p lot : List Int} {C : Nat} {f f' : Int → Int} (hN : Names p C) (hf : ∀ x : Int, 0 ≤ x ∧ x < C → f' (nameS p x) = f x) (hlot : lotS lot C = true) : ∀ (k : Nat) (eg a b : List Int) (ts : List Row), eg.Sublist (rangeI C) →
    ∃ ps, InR C ps ∧ moreS f C lot k eg (b, ts) = (b ++ ps, (moreS f C lot k eg (b, ts)).2) ∧ moreS f' C (lot.map (nameS p)) k (imgS p C eg) (a, ts.map (renTie p)) = (a ++ ps.map (nameS p), (moreS f C lot k eg (b, ts)).2.map (renTie p))
  | 0, _, _, _, _, _ => ⟨[], (fun _ h => by cases h), (by simp [moreS]), (by simp [moreS])⟩
  | k + 1, eg, a, b, ts, he => by
    have hl := LotAll.of hlot
    have he' : (if eg.length = 0 then rangeI C else eg).Sublist (rangeI C) := by
      split
      · exact List.Sublist.refl _
      · exact he
    have hne : (if eg.length = 0 then rangeI C else eg) ≠ [] := by
      split
      · intro e; have := congrArg List.length e; have h1 := hN.one; rw [length_rangeI] at this; simp at this; omega
      · rename_i h; intro e; exact h (by rw [e]; rfl)
    have hi : (if (imgS p C eg).length = 0 then rangeI C else imgS p C eg) = imgS p C (if eg.length = 0 then rangeI C else eg) := by
      rw [img_len hN ((inR_range C).sub he) ((nodup_rangeI C).sublist he)]
      split
      · rw [img_range hN]
      · rfl
    simp only [moreS]
    rw [hi]
    generalize (if eg.length = 0 then rangeI C else eg) = E at he' hne
    have hE : InR C E := (inR_range C).sub he'
    have hB : InR C (bestS f E) := hE.sub (bestS_sub f E)
    have hin : ∀ x ∈ bestS f E, x ∈ lot := fun x hx => hl x (hB x hx).1 (hB x hx).2
    have hx := hB _ (frst_mem (lot := lot) (bestS_ne (f := f) hne) hin)
    have hb : bestS f' (imgS p C E) = imgS p C (bestS f E) := best_ren hN hE hf
    have hfr : frstS (lot.map (nameS p)) (imgS p C (bestS f E)) = nameS p (frstS lot (bestS f E)) := frst_ren hN hB (lot_in_range hlot) (bestS_ne hne) hin
    have ht := tied_ren (ts := ts) (x := frstS lot (bestS f E)) hN hB ((nodup_rangeI C).sublist ((bestS_sub f E).trans he'))
    rw [hb, hfr, out_ren hN hE hx, ht]
    obtain ⟨ps, h1, h2, h3⟩ := more_names hN hf hlot k (outS E (frstS lot (bestS f E))) (a ++ [nameS p (frstS lot (bestS f E))]) (b ++ [frstS lot (bestS f E)]) (tiedS ts (bestS f E) (frstS lot (bestS f E))) ((outS_sub _ _).trans he')
    refine ⟨frstS lot (bestS f E) :: ps, fun y hy => ?_, ?_, ?_⟩
    · rcases List.mem_cons.1 hy with rfl | hy
      · exact hx
      · exact h1 y hy
    · rw [h2, List.append_assoc]; rfl
    · rw [h3, List.append_assoc]; rfl
theorem flr_names {p : List Int} {C : Nat} {had had' : List Int} (hV : VN p C had had') (n : Nat) {x : Int} (hx : 0 ≤ x ∧ x < (C : Int)) : flrS had' n (nameS p x) = flrS had n x ∧ restS had' n (nameS p x) = restS had n x := by
  unfold flrS restS
  rw [hV.sum, hV.at_ x hx]
  exact ⟨rfl, rfl⟩
theorem base_names {p : List Int} {C : Nat} {had had' : List Int} (hN : Names p C) (hV : VN p C had had') (n : Nat) : (baseS had' n C).Perm ((baseS had n C).map (nameS p)) := by
  refine List.perm_iff_count.2 fun a => ?_
  have hr : InR C (baseS had n C) := fun x hx => base_rng hx
  by_cases ha : 0 ≤ a ∧ a < (C : Int)
  · obtain ⟨X, rfl⟩ : ∃ X : Nat, a = X := ⟨a.toNat, by omega⟩
    obtain ⟨h1, h2⟩ := name_idx hN (d := X) (by omega)
    have hi : 0 ≤ ((idx p X : Nat) : Int) ∧ ((idx p X : Nat) : Int) < C := by omega
    rw [← h2, cnt_names hN hr hi, count_base, count_base, if_pos hi, if_pos (by rw [h2]; exact ha), (flr_names hV n hi).1]
  · rw [List.count_eq_zero.2 fun h => ha (base_rng h), List.count_eq_zero.2]
    intro h
    obtain ⟨y, hy, rfl⟩ := List.mem_map.1 h
    exact ha (hN.name_in (hr y hy))
/-- Largest remainders under other names: as many seats, the same ties. -/
theorem remS_names {p lot : List Int} {C : Nat} {had had' : List Int} (hN : Names p C) (hV : VN p C had had') (hlot : lotS lot C = true) (n : Nat) :
    (remS had' C (lot.map (nameS p)) n).1.Perm ((remS had C lot n).1.map (nameS p)) ∧ (remS had' C (lot.map (nameS p)) n).2 = (remS had C lot n).2.map (renTie p) := by
  have hb := base_names hN hV n
  have hbl := hb.length_eq
  rw [List.length_map] at hbl
  obtain ⟨ps, h1, h2, h3⟩ := more_names (f := restS had n) (f' := restS had' n) hN (fun x hx => (flr_names hV n hx).2) hlot (n - (baseS had n C).length) [] (baseS had' n C) (baseS had n C) [] (List.nil_sublist _)
  rw [img_nil] at h3
  unfold remS
  rw [hbl]
  have h3' : moreS (restS had' n) C (lot.map (nameS p)) (n - (baseS had n C).length) [] (baseS had' n C, []) = _ := h3
  rw [h3', h2]
  dsimp only
  rw [List.map_append]
  exact ⟨hb.append_right _, rfl⟩
/-- A profile of marks under other names. -/
def renK (p : List Int) (l : List Row) : List Row := eachS (fun ms => renS 2 ms p) l
theorem renS_one {p ms : List Int} {C : Nat} (hN : Names p C) (hm : ∀ y, ms = [y] → 0 ≤ y ∧ y < (C : Int)) {x : Int} (hx : 0 ≤ x ∧ x < (C : Int)) : decide (renS 2 ms p = [nameS p x]) = decide (ms = [x]) := by
  rw [Bool.eq_iff_iff, decide_eq_true_eq, decide_eq_true_eq]
  constructor
  · intro h
    have hl := congrArg List.length h
    rw [length_renS] at hl
    obtain ⟨y, rfl⟩ : ∃ y, ms = [y] := List.length_eq_one_iff.1 hl
    have hp := renS_two_perm [y] p
    rw [h] at hp
    have := List.perm_singleton.1 hp.symm
    rw [hN.inj (hm y rfl) hx (by simpa using this)]
  · rintro rfl
    exact List.perm_singleton.1 (renS_two_perm [x] p)
theorem votX_names {p : List Int} {C : Nat} {l : List Row} (hN : Names p C) (hm : MarkOK l C) {x : Int} (hx : 0 ≤ x ∧ x < (C : Int)) : votX (renK p l) (nameS p x) = votX l x := by
  unfold votX renK
  rw [wsum_each]
  exact wsum_congr fun r hr => renS_one hN (hm.one r hr) hx
theorem losV_names (p : List Int) (l : List Row) : losV (renK p l) = losV l := by
  unfold losV renK
  rw [wsum_each]
  exact wsum_congr fun r _ => by rw [length_renS]
theorem vn_vot {p : List Int} {C : Nat} {l : List Row} (hN : Names p C) (h : checkS C 2 l = 0) : VN p C (votV l C) (votV (renK p l) C) := by
  have hm : MarkOK l C := by have := markOK_of h; rwa [Int.toNat_natCast] at this
  have hm2 : MarkOK (renK p l) C := by have := markOK_of (ren_check hN h); rwa [Int.toNat_natCast] at this
  refine ⟨fun x hx => ?_, ?_⟩
  · rw [getI_votV (hN.name_in hx), getI_votV hx, votX_names hN hm hx]
  · have h1 := vot_all hm.one
    have h2 := vot_all hm2.one
    have h3 : totS (renK p l) = totS l := tot_each _ _
    rw [losV_names, h3] at h2
    omega
theorem votV_names {p : List Int} {C : Nat} {l : List Row} (hN : Names p C) (hm : MarkOK l C) : (votV (renK p l) C).map wholeS = renHad p ((votV l C).map wholeS) := by
  unfold renHad
  rw [List.length_map, length_votV]
  refine List.ext_getElem? fun i => ?_
  by_cases hi : i < C
  · obtain ⟨h1, h2⟩ := name_idx hN hi
    have e := votX_names hN hm (x := ((idx p i : Nat) : Int)) (by omega)
    rw [h2] at e
    rw [List.getElem?_map, get_votV _ hi, List.getElem?_map, List.getElem?_range hi, e]
    simp [List.getD, get_votV _ h1]
  · rw [List.getElem?_eq_none (by rw [List.length_map, length_votV]; omega), List.getElem?_eq_none (by simp; omega)]

/-- The outcome of a method. -/
def listO (rule : Int) (l : List Row) (C : Nat) (lot : List Int) (n : Nat) : Outc :=
  ((seatS rule (votV l C) C lot n).1, [rndS (votV l C) (losV l) (seatS rule (votV l C) C lot n).1 []], (seatS rule (votV l C) C lot n).2)
/-- How many seats each party got. -/
def gotV (el : List Int) (C : Nat) : List Int := (List.range C).map fun i : Nat => ((el.count (i : Int) : Nat) : Int)
theorem length_gotV (el : List Int) (C : Nat) : (gotV el C).length = C := by unfold gotV; simp
theorem get_gotV (el : List Int) {C i : Nat} (h : i < C) : (gotV el C)[i]? = some ((el.count (i : Int) : Nat) : Int) := by
  unfold gotV; rw [List.getElem?_map, List.getElem?_range h]; rfl
theorem gotV_nil (C : Nat) : gotV [] C = List.replicate C 0 := by
  refine List.ext_getElem? fun i => ?_
  by_cases hi : i < C
  · rw [get_gotV _ hi, List.getElem?_replicate, if_pos hi]; rfl
  · rw [List.getElem?_eq_none (by rw [length_gotV]; omega), List.getElem?_eq_none (by simp; omega)]
theorem gotV_snoc (el : List Int) {C X : Nat} : gotV (el ++ [(X : Int)]) C = (gotV el C).set X (((el.count (X : Int) : Nat) : Int) + 1) := by
  refine List.ext_getElem? fun i => ?_
  by_cases hi : i < C
  · rw [get_gotV _ hi, List.getElem?_set]
    by_cases e : X = i
    · subst e
      rw [if_pos rfl, if_pos (by rw [length_gotV]; exact hi), count_snoc, if_pos rfl]; rfl
    · rw [if_neg e, get_gotV _ hi, count_snoc, if_neg (by omega)]; rfl
  · rw [List.getElem?_eq_none (by rw [length_gotV]; omega), List.getElem?_eq_none (by rw [List.length_set, length_gotV]; omega)]
theorem gotV_out (el : List Int) {C : Nat} {x : Int} (hx : ¬ (0 ≤ x ∧ x < (C : Int))) : gotV (el ++ [x]) C = gotV el C := by
  refine List.ext_getElem? fun i => ?_
  by_cases hi : i < C
  · rw [get_gotV _ hi, get_gotV _ hi, count_snoc, if_neg (by omega)]; rfl
  · rw [List.getElem?_eq_none (by rw [length_gotV]; omega), List.getElem?_eq_none (by rw [length_gotV]; omega)]
theorem getI_gotV {el : List Int} {C : Nat} {x : Int} (hx : 0 ≤ x ∧ x < (C : Int)) : getI (gotV el C) x = ((el.count x : Nat) : Int) := by
  obtain ⟨X, rfl⟩ : ∃ X : Nat, x = X := ⟨x.toNat, by omega⟩
  unfold getI
  rw [List.getD_eq_getElem?_getD, Int.toNat_natCast, get_gotV _ (by omega)]; rfl
theorem gotV_perm {el el' : List Int} (h : el.Perm el') (C : Nat) : gotV el C = gotV el' C := by
  unfold gotV
  refine List.map_congr_left fun i _ => ?_
  rw [h.count_eq]
/-- D'Hondt and Sainte-Lague under other names. -/
theorem listO_names {p lot : List Int} {C : Nat} {l : List Row} {rule : Int} (hr : rule = 0 ∨ rule = 1) (hN : Names p C) (h : checkS C 2 l = 0) (hlot : lotS lot C = true) (n : Nat) :
    listO rule (renK p l) C (lot.map (nameS p)) n = renO p (listO rule l C lot n) := by
  have hm : MarkOK l C := by have := markOK_of h; rwa [Int.toNat_natCast] at this
  have hs : seatS rule (votV (renK p l) C) C (lot.map (nameS p)) n = ((seatS rule (votV l C) C lot n).1.map (nameS p), (seatS rule (votV l C) C lot n).2.map (renTie p)) := by
    unfold seatS
    rcases hr with rfl | rfl
    · rw [if_pos rfl, if_pos rfl]; exact divS_names hN (vn_vot hN h) hlot n
    · rw [if_neg (show ¬ (1 : Int) = 0 by decide), if_pos rfl, if_neg (show ¬ (1 : Int) = 0 by decide), if_pos rfl]; exact divS_names hN (vn_vot hN h) hlot n
  unfold listO renO
  rw [hs]
  dsimp only
  rw [List.map_cons, List.map_nil, renRnd]
  unfold rndS
  dsimp only
  rw [votV_names hN hm, losV_names]
  rfl
/-- Largest remainders under other names. -/
theorem listO_rem {p lot : List Int} {C : Nat} {l : List Row} {rule : Int} (h0 : rule ≠ 0) (h1 : rule ≠ 1) (hN : Names p C) (h : checkS C 2 l = 0) (hlot : lotS lot C = true) (n : Nat) :
    gotV (listO rule (renK p l) C (lot.map (nameS p)) n).1 C = gotV (renO p (listO rule l C lot n)).1 C ∧ (listO rule (renK p l) C (lot.map (nameS p)) n).2.2 = (renO p (listO rule l C lot n)).2.2 := by
  have hs := remS_names hN (vn_vot hN h) hlot n
  unfold listO renO seatS
  rw [if_neg h0, if_neg h1]
  rw [if_neg h0, if_neg h1]
  exact ⟨gotV_perm hs.1 C, hs.2⟩
end Go.Proofs.YtiebfalodelclaaGreat
