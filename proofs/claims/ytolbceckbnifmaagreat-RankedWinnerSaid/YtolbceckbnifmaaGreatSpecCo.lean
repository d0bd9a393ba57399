/-
  Who has the most: the outcome that elects the one; Copeland and minimax, in plain terms. No program is named here.
  Condorcet winners and losers, Copeland, minimax and the Smith set, in plain terms.
-/
import Derived.Test.YtolbceckbnifmaaGreatSpecPa
import Derived.Test.YtolbceckbnifmaaGreatW3c
import Derived.Test.YtolbceckbnifmaaGreatW11g
import Derived.Test.YtolbceckbnifmaaGreatSpecSr
import Derived.Test.YtolbceckbnifmaaGreatW12a
namespace Go.Proofs.YtolbceckbnifmaaGreat

/-- The outcome that elects the candidate with the most of f; g says how a number is shown. -/
def mostO (f : Int → Int) (g : Int → Rat3) (C : Nat) (lot : List Int) : Outc :=
  ([frstS lot (bestS f (rangeI C))], [((rangeI C).map fun y => g (f y), wholeS 0, [frstS lot (bestS f (rangeI C))], [])], tiedS [] (bestS f (rangeI C)) (frstS lot (bestS f (rangeI C))))
/-- Twice the Copeland score against the first Y. -/
def copP (m : M) (x : Nat) : Nat → Int
  | 0 => 0
  | Y + 1 => copP m x Y + if m Y x < m x Y then 2 else if m x Y = m Y x ∧ x ≠ Y then 1 else 0
theorem copP_succ (m : M) (x Y : Nat) : copP m x (Y + 1) = copP m x Y + if m Y x < m x Y then 2 else if m x Y = m Y x ∧ x ≠ Y then 1 else 0 := rfl
theorem copP_bd (m : M) (x : Nat) : ∀ Y, 0 ≤ copP m x Y ∧ copP m x Y ≤ 2 * Y
  | 0 => by simp [copP]
  | Y + 1 => by
    have := copP_bd m x Y
    rw [copP_succ]
    split
    · omega
    · split <;> omega
def copF (m : M) (C : Nat) (x : Int) : Int := copP m x.toNat C
/-- The worst margin against the first Y, or 0. -/
def worP (m : M) (x : Nat) : Nat → Int
  | 0 => 0
  | Y + 1 => min (worP m x Y) (m x Y - m Y x)
theorem worP_succ (m : M) (x Y : Nat) : worP m x (Y + 1) = min (worP m x Y) (m x Y - m Y x) := rfl
theorem worP_bd {m : M} (h : Bd m) {x : Nat} (hx : x < 10) : ∀ {Y : Nat}, Y ≤ 10 → -1000000 ≤ worP m x Y ∧ worP m x Y ≤ 0
  | 0, _ => by simp [worP]
  | Y + 1, hY => by
    have h1 := worP_bd h hx (Y := Y) (by omega)
    have h2 := h x Y hx (by omega)
    have h3 := h Y x (by omega) hx
    rw [worP_succ]
    omega
def worF (m : M) (C : Nat) (x : Int) : Int := worP m x.toNat C
/-- Half of n. -/
def halfS (n : Int) : Rat3 := (false, (lowS n.toNat 2).1, (lowS n.toNat 2).2)
def copO (m : M) (C : Nat) (lot : List Int) : Outc := mostO (copF m C) halfS C lot
def minO (m : M) (C : Nat) (lot : List Int) : Outc := mostO (worF m C) (fun n => wholeS (-n)) C lot
/-- What count hands back. -/
def cmostR (f : Int → Int) (g : Int → Rat3) (c k : Int) (l : List Row) (seats : Int) (lot : List Int) : Outc := if mayS c k l 1 seats 1 lot = 0 then mostO f g c.toNat lot else ([], [], [])
theorem cmostR_ok {f : Int → Int} {g : Int → Rat3} {c k : Int} {l : List Row} {seats : Int} {lot : List Int} (h : mayS c k l 1 seats 1 lot = 0) : cmostR f g c k l seats lot = mostO f g c.toNat lot := if_pos h
theorem cmostR_bad {f : Int → Int} {g : Int → Rat3} {c k : Int} {l : List Row} {seats : Int} {lot : List Int} (h : mayS c k l 1 seats 1 lot ≠ 0) : cmostR f g c k l seats lot = ([], [], []) := if_neg h
def copR (c k : Int) (l : List Row) (seats : Int) (lot : List Int) : Outc := cmostR (copF (ofR c k l) c.toNat) halfS c k l seats lot
def minR (c k : Int) (l : List Row) (seats : Int) (lot : List Int) : Outc := cmostR (worF (ofR c k l) c.toNat) (fun n => wholeS (-n)) c k l seats lot
theorem copR_ok {c k : Int} {l : List Row} {seats : Int} {lot : List Int} (h : mayS c k l 1 seats 1 lot = 0) : copR c k l seats lot = copO (ofR c k l) c.toNat lot := cmostR_ok h
theorem minR_ok {c k : Int} {l : List Row} {seats : Int} {lot : List Int} (h : mayS c k l 1 seats 1 lot = 0) : minR c k l seats lot = minO (ofR c k l) c.toNat lot := cmostR_ok h
end Go.Proofs.YtolbceckbnifmaaGreat

namespace Go.Proofs.YtolbceckbnifmaaGreat
open Go.RowKit Go.Proofs

/-- How many of the first Y are in a set. -/
def inC (T : List Int) : Nat → Nat
  | 0 => 0
  | Y + 1 => inC T Y + if (Y : Int) ∈ T then 1 else 0
theorem inC_succ (T : List Int) (Y : Nat) : inC T (Y + 1) = inC T Y + if (Y : Int) ∈ T then 1 else 0 := rfl
theorem cop_out {m : M} {C : Nat} {T : List Int} (hT : Dom m C T) {x : Nat} (hx : x < C) (hxT : (x : Int) ∉ T) : ∀ {Y : Nat}, Y ≤ C → copP m x Y + 2 * inC T Y + (if x < Y then 2 else 0) ≤ 2 * Y
  | 0, _ => by simp [copP, inC]
  | Y + 1, hY => by
    have ih := cop_out hT hx hxT (Y := Y) (by omega)
    rw [copP_succ, inC_succ]
    by_cases hm : (Y : Int) ∈ T
    · have h1 := hT.all Y x (by omega) hx hm hxT
      have hne : x ≠ Y := fun e => hxT (by rw [e]; exact hm)
      rw [if_pos hm, if_neg (by omega), if_neg (by omega)]
      split at ih <;> split <;> omega
    · rw [if_neg hm]
      by_cases e : x = Y
      · subst e
        rw [if_neg (by omega), if_neg (fun h => h.2 rfl), if_pos (by omega)]
        rw [if_neg (by omega)] at ih
        omega
      · have h2 : (if m Y x < m x Y then (2 : Int) else if m x Y = m Y x ∧ x ≠ Y then 1 else 0) ≤ 2 := by split <;> (try split) <;> omega
        generalize (if m Y x < m x Y then (2 : Int) else if m x Y = m Y x ∧ x ≠ Y then 1 else 0) = q at h2 ⊢
        split at ih <;> rename_i hc
        · rw [if_pos (by omega)]; omega
        · rw [if_neg (by omega)]; omega
theorem cop_in {m : M} {C : Nat} {T : List Int} (hT : Dom m C T) {z : Nat} (hz : z < C) (hzT : (z : Int) ∈ T) : ∀ {Y : Nat}, Y ≤ C → 2 * (Y : Int) ≤ copP m z Y + 2 * inC T Y
  | 0, _ => by simp [copP, inC]
  | Y + 1, hY => by
    have ih := cop_in hT hz hzT (Y := Y) (by omega)
    rw [copP_succ, inC_succ]
    by_cases hm : (Y : Int) ∈ T
    · rw [if_pos hm]
      have h2 : (0 : Int) ≤ (if m Y z < m z Y then (2 : Int) else if m z Y = m Y z ∧ z ≠ Y then 1 else 0) := by split <;> (try split) <;> omega
      omega
    · have h1 := hT.all z Y hz (by omega) hzT hm
      rw [if_neg hm, if_pos h1]
      omega
/-- Copeland's best are in every set that rules. -/
theorem cop_smith {m : M} {C : Nat} {T : List Int} (hT : Dom m C T) : bestS (copF m C) (rangeI C) ⊆ T := fun x hx => by
  obtain ⟨hxr, hm⟩ := mem_bestS.1 hx
  have rx := mem_rangeI.1 hxr
  obtain ⟨X, rfl⟩ : ∃ X : Nat, x = X := ⟨x.toNat, by omega⟩
  refine Classical.byContradiction fun hn => ?_
  obtain ⟨a, ha⟩ := List.exists_mem_of_ne_nil T hT.ne
  have ra := mem_rangeI.1 (hT.sub.subset ha)
  obtain ⟨A, rfl⟩ : ∃ A : Nat, a = A := ⟨a.toNat, by omega⟩
  have h1 := cop_out hT (x := X) (by omega) hn (Nat.le_refl C)
  have h2 := cop_in hT (z := A) (by omega) ha (Nat.le_refl C)
  have h3 := hm _ (mem_rangeI.2 ra)
  unfold copF at h3
  rw [Int.toNat_natCast, Int.toNat_natCast] at h3
  rw [if_pos (by omega)] at h1
  omega
theorem only_best {f : Int → Int} {C : Nat} {w : Int} (h0 : 0 < C) (hs : ∀ x ∈ bestS f (rangeI C), x = w) : bestS f (rangeI C) = [w] := by
  have hn : (bestS f (rangeI C)).Nodup := (nodup_rangeI C).sublist (bestS_sub _ _)
  have hne : bestS f (rangeI C) ≠ [] := bestS_ne (fun e => by have := congrArg List.length e; rw [length_rangeI] at this; simp at this; omega)
  obtain ⟨a, ha⟩ := List.exists_mem_of_ne_nil _ hne
  have hw : w ∈ bestS f (rangeI C) := by rw [← hs a ha]; exact ha
  exact List.perm_singleton.1 ((List.perm_ext_iff_of_nodup hn (by simp)).2 fun x => by
    rw [List.mem_singleton]; exact ⟨hs x, fun e => by rw [e]; exact hw⟩)
theorem lone_dom {m : M} {C X : Nat} (hX : X < C) (hw : ∀ y : Nat, (y : Int) < C → y ≠ X → m y X < m X y) : Dom m C [(X : Int)] := by
  refine ⟨?_, by simp, fun x y _ hy hx hyn => ?_⟩
  · exact List.singleton_sublist.2 (mem_rangeI.2 ⟨by omega, by omega⟩)
  · have e : x = X := by have := List.mem_singleton.1 hx; omega
    subst e
    exact hw y (by omega) (fun e => hyn (by rw [e]; exact List.mem_singleton_self _))
theorem lone_smith {m : M} {C X : Nat} (hX : X < C) (hw : ∀ y : Nat, (y : Int) < C → y ≠ X → m y X < m X y) : Smith m C [(X : Int)] :=
  ⟨lone_dom hX hw, fun D hD => by have := List.length_pos_iff.2 hD.ne; simp; omega⟩
theorem worP_le {m : M} {x Y : Nat} : ∀ {C : Nat}, Y < C → worP m x C ≤ m x Y - m Y x
  | C + 1, h => by
    rw [worP_succ]
    by_cases e : Y = C
    · subst e; omega
    · have := worP_le (m := m) (x := x) (Y := Y) (C := C) (by omega); omega
theorem worP_zero {m : M} {x : Nat} : ∀ {C : Nat}, (∀ y, y < C → 0 ≤ m x y - m y x) → worP m x C = 0
  | 0, _ => rfl
  | C + 1, h => by
    rw [worP_succ, worP_zero (C := C) fun y hy => h y (by omega)]
    have := h C (by omega)
    omega
theorem wor_lone {m : M} {C X : Nat} (hX : X < C) (hw : ∀ y : Nat, (y : Int) < C → y ≠ X → m y X < m X y) : bestS (worF m C) (rangeI C) = [(X : Int)] := by
  refine only_best (by omega) fun x hx => ?_
  obtain ⟨hxr, hm⟩ := mem_bestS.1 hx
  have rx := mem_rangeI.1 hxr
  obtain ⟨Z, rfl⟩ : ∃ Z : Nat, x = Z := ⟨x.toNat, by omega⟩
  refine Classical.byContradiction fun hne => ?_
  have h1 := hm X (mem_rangeI.2 ⟨by omega, by omega⟩)
  unfold worF at h1
  rw [Int.toNat_natCast, Int.toNat_natCast, worP_zero (x := X) fun y hy => by
    by_cases e : y = X
    · subst e; omega
    · have := hw y (by omega) e; omega] at h1
  have h2 := worP_le (m := m) (x := Z) (Y := X) (C := C) hX
  have h3 := hw Z (by omega) (fun e => hne (by rw [e]))
  omega
theorem cop_lone {m : M} {C X : Nat} (hX : X < C) (hw : ∀ y : Nat, (y : Int) < C → y ≠ X → m y X < m X y) : bestS (copF m C) (rangeI C) = [(X : Int)] :=
  only_best (by omega) fun x hx => List.mem_singleton.1 (cop_smith (lone_dom hX hw) hx)
theorem lone_false {m : M} {C : Nat} (hr : rightS m C = true) (h : (loneV m C).2 = false) : (loneV m C).1 = 0 ∧ ∀ X, X < C → ∃ y, y < C ∧ y ≠ X ∧ ¬ m y X < m X y := by
  unfold loneV at h ⊢
  rw [if_pos hr, Int.toNat_natCast] at h ⊢
  cases ha : aloneS m C with
  | some x => rw [ha] at h; simp at h
  | none =>
    refine ⟨rfl, fun X hX => ?_⟩
    have h1 := List.find?_eq_none.1 ha X (List.mem_range.2 hX)
    unfold rowW at h1
    rw [List.all_eq_true] at h1
    refine Classical.byContradiction fun hn => h1 fun y hy => ?_
    have hy := List.mem_range.1 hy
    by_cases e : X = y
    · simp [e]
    · have h2 : m y X < m X y := Classical.byContradiction fun h3 => hn ⟨y, hy, fun e' => e e'.symm, h3⟩
      simp [h2]
theorem smith_two {m : M} {C : Nat} {S : List Int} (h : Smith m C S) (hno : ∀ X, X < C → ∃ y, y < C ∧ y ≠ X ∧ ¬ m y X < m X y) : 1 < S.length := by
  refine Nat.lt_of_not_le fun hle => ?_
  have hp := List.length_pos_iff.2 h.dom.ne
  obtain ⟨a, rfl⟩ := List.length_eq_one_iff.1 (show S.length = 1 by omega)
  have ra := mem_rangeI.1 (h.dom.sub.subset (List.mem_singleton_self a))
  obtain ⟨A, rfl⟩ : ∃ A : Nat, a = A := ⟨a.toNat, by omega⟩
  obtain ⟨y, hy, hne, hn⟩ := hno A (by omega)
  exact hn (h.dom.all A y (by omega) hy (List.mem_singleton_self _) (fun hm => hne (by have := List.mem_singleton.1 hm; omega)))
theorem loser_out {m : M} {C L : Nat} {S : List Int} (h : Smith m C S) (hL : L < C) (hC : 2 ≤ C) (hl : ∀ y : Nat, (y : Int) < C → y ≠ L → m L y < m y L) : (L : Int) ∉ S := fun hm => by
  have hsub : (S.filter fun x => !decide (x = (L : Int))).Sublist S := List.filter_sublist
  have hlen : (S.filter fun x => !decide (x = (L : Int))).length < S.length := by
    have h1 := hsub.length_le
    refine Nat.lt_of_le_of_ne h1 fun e => ?_
    have h2 := hsub.eq_of_length e
    have h3 : (L : Int) ∈ S.filter fun x => !decide (x = (L : Int)) := by rw [h2]; exact hm
    have := (List.mem_filter.1 h3).2
    simp at this
  by_cases hne : (S.filter fun x => !decide (x = (L : Int))) = []
  · -- alone: yet the others beat it
    obtain ⟨y, hy, hyL⟩ : ∃ y, y < C ∧ y ≠ L := by
      by_cases e : L = 0
      · exact ⟨1, by omega, by omega⟩
      · exact ⟨0, by omega, by omega⟩
    have hyS : (y : Int) ∉ S := fun hy' => by
      have : (y : Int) ∈ S.filter fun x => !decide (x = (L : Int)) := List.mem_filter.2 ⟨hy', by simp; omega⟩
      rw [hne] at this; cases this
    have h1 := h.dom.all L y hL hy hm hyS
    have h2 := hl y (by omega) hyL
    omega
  · have hd : Dom m C (S.filter fun x => !decide (x = (L : Int))) := ⟨hsub.trans h.dom.sub, hne, fun x y hx hy hxm hyn => by
      obtain ⟨hx1, hx2⟩ := List.mem_filter.1 hxm
      by_cases e : y = L
      · subst e
        exact hl x (by omega) (fun e' => by subst e'; simp at hx2)
      · refine h.dom.all x y hx hy hx1 fun hy' => hyn (List.mem_filter.2 ⟨hy', by simp; omega⟩)⟩
    have := h.least _ hd
    omega
end Go.Proofs.YtolbceckbnifmaaGreat
