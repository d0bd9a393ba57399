/-
  Seats for lists: votes, divisor methods, largest remainders. No program is named here.
-/
import Derived.Test.YtiebfalodelclaaGreatSpecPa
import Derived.Test.YtiebfalodelclaaGreatSpecM
namespace Go.Proofs.YtiebfalodelclaaGreat

/-- The greatest of a list by an order, in the list's order. -/
def bestR (le : Int → Int → Bool) (l : List Int) : List Int := l.filter fun x => l.all fun y => le y x
/-- An order in which any two are comparable. -/
structure Pre (le : Int → Int → Bool) : Prop where
  tot : ∀ a b, le a b = true ∨ le b a = true
  tr : ∀ a b c, le a b = true → le b c = true → le a c = true
theorem Pre.refl {le : Int → Int → Bool} (h : Pre le) (a : Int) : le a a = true := (h.tot a a).elim id id
theorem mem_bestR {le : Int → Int → Bool} {l : List Int} {x : Int} : x ∈ bestR le l ↔ x ∈ l ∧ ∀ y ∈ l, le y x = true := by unfold bestR; simp
theorem bestR_sub (le : Int → Int → Bool) (l : List Int) : (bestR le l).Sublist l := List.filter_sublist
theorem bestR_some {le : Int → Int → Bool} (h : Pre le) : ∀ {l : List Int}, l ≠ [] → ∃ x ∈ l, ∀ y ∈ l, le y x = true
  | [], h => absurd rfl h
  | [a], _ => ⟨a, by simp, by simpa using h.refl a⟩
  | a :: b :: r, _ => by
    obtain ⟨x, hx, hm⟩ := bestR_some h (l := b :: r) (by simp)
    rcases h.tot a x with e | e
    · exact ⟨x, List.mem_cons_of_mem _ hx, fun k hk => by rcases List.mem_cons.1 hk with rfl | hk; exact e; exact hm k hk⟩
    · exact ⟨a, List.mem_cons_self .., fun k hk => by rcases List.mem_cons.1 hk with rfl | hk; exact h.refl k; exact h.tr _ _ _ (hm k hk) e⟩
theorem bestR_ne {le : Int → Int → Bool} (h : Pre le) {l : List Int} (hl : l ≠ []) : bestR le l ≠ [] := by
  obtain ⟨x, hx, hm⟩ := bestR_some h hl
  exact List.ne_nil_of_mem (mem_bestR.2 ⟨hx, hm⟩)
/-- One more is looked at: it is greater. -/
theorem bestR_more {le : Int → Int → Bool} (h : Pre le) {l : List Int} {x o : Int} {r : List Int} (hb : bestR le l = o :: r) (hx : le x o = false) : bestR le (l ++ [x]) = [x] := by
  have ho := mem_bestR.1 (show o ∈ bestR le l by rw [hb]; simp)
  have hox : le o x = true := (h.tot o x).elim id (fun e => by rw [hx] at e; cases e)
  unfold bestR
  rw [List.filter_append, List.filter_eq_nil_iff.2, List.nil_append]
  · have hall : ((l ++ [x]).all fun y => le y x) = true := by
      rw [List.all_append, Bool.and_eq_true, List.all_eq_true]
      exact ⟨fun y hy => h.tr _ _ _ (ho.2 y hy) hox, by simpa using h.refl x⟩
    simp only [List.filter_cons, hall, if_true, List.filter_nil]
  · intro y hy hc
    rw [List.all_append, Bool.and_eq_true] at hc
    have h1 : le x y = true := by simpa using hc.2
    have := h.tr _ _ _ h1 (ho.2 y hy)
    rw [hx] at this; cases this
/-- It is as great. -/
theorem bestR_same {le : Int → Int → Bool} (h : Pre le) {l : List Int} {x o : Int} {r : List Int} (hb : bestR le l = o :: r) (hx : le x o = true) (hx' : le o x = true) : bestR le (l ++ [x]) = bestR le l ++ [x] := by
  have ho := mem_bestR.1 (show o ∈ bestR le l by rw [hb]; simp)
  have hall : ((l ++ [x]).all fun y => le y x) = true := by
    rw [List.all_append, Bool.and_eq_true, List.all_eq_true]
    exact ⟨fun y hy => h.tr _ _ _ (ho.2 y hy) hx', by simpa using h.refl x⟩
  unfold bestR
  rw [List.filter_append]
  congr 1
  · refine List.filter_congr fun y hy => ?_
    rw [List.all_append]
    cases ha : l.all fun z => le z y with
    | false => rfl
    | true =>
      have hoy := List.all_eq_true.1 ha o ho.1
      simpa using h.tr _ _ _ hx hoy
  · simp only [List.filter_cons, hall, if_true, List.filter_nil]
/-- It is smaller. -/
theorem bestR_less {le : Int → Int → Bool} (h : Pre le) {l : List Int} {x o : Int} {r : List Int} (hb : bestR le l = o :: r) (hx' : le o x = false) : bestR le (l ++ [x]) = bestR le l := by
  have ho := mem_bestR.1 (show o ∈ bestR le l by rw [hb]; simp)
  have hx : le x o = true := (h.tot x o).elim id (fun e => by rw [hx'] at e; cases e)
  unfold bestR
  rw [List.filter_append]
  have h2 : ([x].filter fun y => (l ++ [x]).all fun z => le z y) = [] := by
    have hall : ((l ++ [x]).all fun y => le y x) = false := by
      rw [Bool.eq_false_iff]; intro hc
      rw [List.all_append, Bool.and_eq_true, List.all_eq_true] at hc
      have := hc.1 o ho.1
      rw [hx'] at this; cases this
    simp only [List.filter_cons, hall, List.filter_nil]
    rfl
  rw [h2, List.append_nil]
  refine List.filter_congr fun y hy => ?_
  rw [List.all_append]
  cases ha : l.all fun z => le z y with
  | false => rfl
  | true =>
    have hoy := List.all_eq_true.1 ha o ho.1
    simpa using h.tr _ _ _ hx hoy

/-- The votes of the parties; the invalid ballots. -/
def votX (l : List Row) (x : Int) : Int := wsum (fun ms => decide (ms = [x])) l
def votV (l : List Row) (C : Nat) : List Int := (List.range C).map fun x : Nat => votX l (x : Int)
def losV (l : List Row) : Int := wsum (fun ms => decide (ms.length ≠ 1)) l
theorem length_votV (l : List Row) (C : Nat) : (votV l C).length = C := by unfold votV; simp
theorem getI_votV {l : List Row} {C : Nat} {x : Int} (hx : 0 ≤ x ∧ x < C) : getI (votV l C) x = votX l x := by
  unfold getI votV
  rw [List.getD_eq_getElem?_getD, List.getElem?_map, List.getElem?_range (by omega)]
  simp only [Option.map_some, Option.getD_some]
  rw [show ((x.toNat : Nat) : Int) = x by omega]

/-- The divisor of the next seat; rule 0 is D'Hondt. -/
def dvS (r : Nat) (s : Nat) : Int := if r = 0 then (s : Int) + 1 else 2 * (s : Int) + 1
theorem dvS_pos (r s : Nat) : 0 < dvS r s := by unfold dvS; split <;> omega
theorem dvS_mono {r s t : Nat} (h : s < t) : dvS r s < dvS r t := by unfold dvS; split <;> omega
theorem dvS_le {r s t : Nat} (h : s ≤ t) : dvS r s ≤ dvS r t := by unfold dvS; split <;> omega
/-- The next quotient of y is at most that of x. -/
def leD (had : List Int) (r : Nat) (el : List Int) (y x : Int) : Bool := decide (getI had y * dvS r (el.count x) ≤ getI had x * dvS r (el.count y))
theorem pre_leD (had : List Int) (r : Nat) (el : List Int) : Pre (leD had r el) := by
  refine ⟨fun a b => ?_, fun a b c hab hbc => ?_⟩
  · unfold leD
    simp only [decide_eq_true_eq]
    omega
  · unfold leD at *
    simp only [decide_eq_true_eq] at *
    have pa := dvS_pos r (el.count a)
    have pb := dvS_pos r (el.count b)
    have pc := dvS_pos r (el.count c)
    generalize dvS r (el.count a) = da at *
    generalize dvS r (el.count b) = db at *
    generalize dvS r (el.count c) = dc at *
    have h1 : getI had a * db * dc ≤ getI had b * da * dc := Int.mul_le_mul_of_nonneg_right hab (by omega)
    have h2 : getI had b * dc * da ≤ getI had c * db * da := Int.mul_le_mul_of_nonneg_right hbc (by omega)
    have e1 : getI had b * da * dc = getI had b * dc * da := by rw [Int.mul_assoc, Int.mul_comm da dc, ← Int.mul_assoc]
    have h3 : (getI had a * dc) * db ≤ (getI had c * da) * db := by
      have e2 : (getI had a * dc) * db = getI had a * db * dc := by rw [Int.mul_assoc, Int.mul_comm dc db, ← Int.mul_assoc]
      have e3 : (getI had c * da) * db = getI had c * db * da := by rw [Int.mul_assoc, Int.mul_comm da db, ← Int.mul_assoc]
      rw [e2, e3]; omega
    exact Int.le_of_mul_le_mul_right h3 pb
/-- Whose next quotient is greatest. -/
def topD (had : List Int) (r C : Nat) (el : List Int) : List Int := bestR (leD had r el) (rangeI C)
/-- Seats by a divisor method: who is elected, the ties. -/
def divS (had : List Int) (r C : Nat) (lot : List Int) : Nat → List Int × List Row
  | 0 => ([], [])
  | n + 1 => ((divS had r C lot n).1 ++ [frstS lot (topD had r C (divS had r C lot n).1)], tiedS (divS had r C lot n).2 (topD had r C (divS had r C lot n).1) (frstS lot (topD had r C (divS had r C lot n).1)))
theorem length_divS (had : List Int) (r C : Nat) (lot : List Int) : ∀ n, (divS had r C lot n).1.length = n
  | 0 => rfl
  | n + 1 => by
    have := length_divS had r C lot n
    unfold divS
    simp [this]

/-- The floors of the shares. -/
def flrS (had : List Int) (n : Nat) (x : Int) : Nat := if had.sum ≤ 0 then 0 else (getI had x * n / had.sum).toNat
def restS (had : List Int) (n : Nat) (x : Int) : Int := if had.sum ≤ 0 then 0 else getI had x * n % had.sum
def baseS (had : List Int) (n C : Nat) : List Int := (rangeI C).flatMap fun x => List.replicate (flrS had n x) x
/-- The seats that are left, one after the other. -/
def moreS (f : Int → Int) (C : Nat) (lot : List Int) : Nat → List Int → List Int × List Row → List Int × List Row
  | 0, _, s => s
  | k + 1, eg, s =>
    let eg' := if eg.length = 0 then rangeI C else eg
    let x := frstS lot (bestS f eg')
    moreS f C lot k (outS eg' x) (s.1 ++ [x], tiedS s.2 (bestS f eg') x)
def remS (had : List Int) (C : Nat) (lot : List Int) (n : Nat) : List Int × List Row := moreS (restS had n) C lot (n - (baseS had n C).length) [] (baseS had n C, [])
def seatS (rule : Int) (had : List Int) (C : Nat) (lot : List Int) (n : Nat) : List Int × List Row := if rule = 0 then divS had 0 C lot n else if rule = 1 then divS had 1 C lot n else remS had C lot n
end Go.Proofs.YtiebfalodelclaaGreat
