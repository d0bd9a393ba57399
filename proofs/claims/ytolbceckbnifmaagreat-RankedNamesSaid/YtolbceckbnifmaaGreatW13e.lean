/-
  Who comes first in the lot; the layer paths: Count.
-/
import Derived.Test.YtolbceckbnifmaaGreatW13a
import Derived.Test.YtolbceckbnifmaaGreatW15e
import Derived.Test.YtolbceckbnifmaaGreatW11g
namespace Go.Proofs.YtolbceckbnifmaaGreat
open Go.RowKit Go.Proofs Go.Shelf
attribute [local go_sem] cell?_more cell?_alloc_some cell?_setCell_far frozen?_alloc_some frozen?_more
/-- The outcome of the method, errors included. -/
def pathR (c k : Int) (l : List Row) (seats : Int) (lot : List Int) : Outc := if mayS c k l 1 seats 1 lot = 0 then pathO (strV (ofR c k l) c) c.toNat lot else ([], [], [])
theorem pathR_ok {c k : Int} {l : List Row} {seats : Int} {lot : List Int} (h : mayS c k l 1 seats 1 lot = 0) : pathR c k l seats lot = pathO (strV (ofR c k l) c) c.toNat lot := if_pos h
theorem pathR_bad {c k : Int} {l : List Row} {seats : Int} {lot : List Int} (h : mayS c k l 1 seats 1 lot ≠ 0) : pathR c k l seats lot = ([], [], []) := if_neg h
/-- The numbers as they are being counted. -/
def hadT (S : M) (C X Y : Nat) : List Int := (List.range C).map fun i : Nat => if i < X then (hadP S i C : Int) else if i = X then (hadP S i Y : Int) else 0
theorem length_hadT (S : M) (C X Y : Nat) : (hadT S C X Y).length = C := by simp [hadT]
theorem get_hadT (S : M) {C X Y i : Nat} (h : i < C) : (hadT S C X Y)[i]? = some (if i < X then (hadP S i C : Int) else if i = X then (hadP S i Y : Int) else 0) := by
  unfold hadT; rw [List.getElem?_map, List.getElem?_range h]; rfl
theorem hadT_zero (S : M) (C : Nat) : hadT S C 0 0 = List.replicate C 0 := by
  refine List.ext_getElem? fun i => ?_
  by_cases hi : i < C
  · rw [get_hadT S hi, if_neg (Nat.not_lt_zero _), List.getElem?_replicate, if_pos hi]
    split <;> rfl
  · rw [List.getElem?_eq_none (by rw [length_hadT]; omega), List.getElem?_eq_none (by simp; omega)]
theorem hadT_row {S : M} {C X : Nat} : hadT S C X C = hadT S C (X + 1) 0 := by
  refine List.ext_getElem? fun i => ?_
  by_cases hi : i < C
  · rw [get_hadT S hi, get_hadT S hi]
    by_cases h1 : i < X
    · rw [if_pos h1, if_pos (by omega)]
    · rw [if_neg h1]
      by_cases h2 : i = X
      · rw [if_pos h2, if_pos (by omega)]
      · rw [if_neg h2, if_neg (by omega)]
        split
        · rename_i h3; simp [hadP]
        · rfl
  · rw [List.getElem?_eq_none (by rw [length_hadT]; omega), List.getElem?_eq_none (by rw [length_hadT]; omega)]
theorem hadT_yes {S : M} {C X Y : Nat} (hX : X < C) (h : X ≠ Y ∧ S Y X ≤ S X Y) : hadT S C X (Y + 1) = (hadT S C X Y).set X ((hadP S X Y : Int) + 1) := by
  refine List.ext_getElem? fun i => ?_
  by_cases hi : i < C
  · rw [get_hadT S hi, List.getElem?_set]
    by_cases e : X = i
    · subst e
      rw [if_neg (by omega), if_pos rfl, if_pos rfl, if_pos (by rw [length_hadT]; exact hX), hadP_succ, if_pos h]
      congr 1
    · rw [if_neg e, get_hadT S hi, if_neg (Ne.symm e), if_neg (Ne.symm e)]
  · rw [List.getElem?_eq_none (by rw [length_hadT]; omega), List.getElem?_eq_none (by rw [List.length_set, length_hadT]; omega)]
theorem hadT_no {S : M} {C X Y : Nat} (h : ¬ (X ≠ Y ∧ S Y X ≤ S X Y)) : hadT S C X (Y + 1) = hadT S C X Y := by
  refine List.ext_getElem? fun i => ?_
  by_cases hi : i < C
  · rw [get_hadT S hi, get_hadT S hi]
    by_cases h1 : i < X
    · rw [if_pos h1, if_pos h1]
    · rw [if_neg h1, if_neg h1]
      by_cases h2 : i = X
      · subst h2; rw [if_pos rfl, if_pos rfl, hadP_succ, if_neg h]; rfl
      · rw [if_neg h2, if_neg h2]
  · rw [List.getElem?_eq_none (by rw [length_hadT]; omega), List.getElem?_eq_none (by rw [length_hadT]; omega)]
theorem hadT_end {S : M} {C : Nat} : hadT S C C 0 = hadPL S C := by
  refine List.ext_getElem? fun i => ?_
  by_cases hi : i < C
  · rw [get_hadT S hi, get_hadPL S hi, if_pos hi]
  · rw [List.getElem?_eq_none (by rw [length_hadT]; omega), List.getElem?_eq_none (by rw [length_hadPL]; omega)]

set_option maxRecDepth 100000 in
theorem pfirst_any (g B : Nat) (el rn vt : Value) (Al : Option Addr) (nl cl : Nat) (lot : List Int) (fp : Nat → Prop) (ts : List Row) (A : Option Addr) (n c : Nat) (among : List Int) (w : World) (hg : Has w g 96 #[el, rn, vt, .slice Al nl cl]) (hB : B ≤ w.heap.size) (hO : OAgg ETie 110 2 fp w B vt ts)
    (hgf : ¬ fp g) (hgv : vt.ownBlock ≠ some g) (hL : RInts w Al nl cl lot) (hnl : nl ≤ 1000) (h : RInts w A n c among) (hn : n ≤ 1000) (h0 : 0 < n) (hs : among.Pairwise (· ≤ ·)) (hin : ∀ x ∈ among, x ∈ lot) (hts : ts.length ≤ 1000) :
    Calls Tryz.prog 57 #[.pointer (some ⟨g, 0, none⟩), .slice A n c] w (TellPost w g B el rn vt (.slice Al nl cl) fp ts among (frstS lot among)) := by
  have hbd := hide (fun y (hy : y ∈ among) => h.bd hy)
  have Hs := hide hs
  have Hin := hide hin
  have Hgf := hide hgf
  have Hgv := hide hgv
  clear hs hin hgf hgv
  go_enter Tryz.func57, Tryz.ntmps57
  go_wp2_with fail
  refine (cfirst_any g _ _ _ Al nl cl lot A n c among w hg hL h h0 hnl).mono ?_
  rintro e3 w3 ⟨m, rfl, ⟨hm1, hm2⟩, hb3⟩
  have hfind : frstS lot among = m := by
    unfold frstS
    rw [first_find hm1 (Hin.out m hm1) hm2]; rfl
  have hI : I64 m := hbd.out m hm1
  have ht := tell_any g B el rn vt (.slice Al nl cl) fp ts A n c among m w3 (hg.below hb3 hg.lt) (Nat.le_trans hB hb3.size) (hO.below hb3) Hgf.out Hgv.out (h.below hb3) hn Hs.out hI hts
  have Hf := hide hfind
  clear hm1 hm2 hfind hI
  go_wp2_with fail
  refine ht.mono ?_
  intro e4 w4 hp
  obtain ⟨he, hr⟩ := hp
  subst he
  go_wp2
  go_ret
  rw [Hf.out]
  exact TellPost.start hb3 ⟨rfl, hr⟩

theorem top_sub (S : M) (C : Nat) : (topS S C).Sublist (rangeI C) := List.filter_sublist
theorem hadPL_bd {S : M} {C : Nat} (hC : C ≤ 1000) : ∀ y ∈ hadPL S C, 0 ≤ y ∧ y ≤ 1000 := fun y hy => by
  obtain ⟨x, _, rfl⟩ := List.mem_map.1 hy
  have := (hadP_le S x C).1
  omega
theorem le_rangeI (t : Nat) : (rangeI t).Pairwise (· ≤ ·) := (lt_rangeI t).imp fun h => Int.le_of_lt h
end Go.Proofs.YtolbceckbnifmaaGreat
