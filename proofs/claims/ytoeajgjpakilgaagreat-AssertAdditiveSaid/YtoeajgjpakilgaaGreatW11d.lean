/-
  The program's Best and Least.
  The library's Sort, Sorted, Index, Contains, Reverse at numbers of any length; the lot: Of, first, tell, Last.
  The lot: Of, first, tell, Last.
-/
import Derived.Test.YtoeajgjpakilgaaGreatW11a
import Derived.Test.YtoeajgjpakilgaaGreatW8f
import Derived.Test.YtoeajgjpakilgaaGreatW8i
import Derived.Test.YtoeajgjpakilgaaGreatShf
import Derived.Lib.OwnBridge
namespace Go.Proofs.YtoeajgjpakilgaaGreat
open Go.RowKit Go.Proofs Go.Shelf
attribute [local go_sem] cell?_more cell?_alloc_some cell?_setCell_far frozen?_alloc_some frozen?_more
theorem Own.lit (w : World) (B : Nat) (x : Int) (hB : B ≤ w.heap.size) : Own (w.alloc (.cells #[.int .i64 x] 3)) B (.slice (some ⟨w.heap.size, 0, none⟩) 1 1) [x] := by
  unfold Own
  have := World.ownsRow_lit (base := B) (e := 3) (size := 1) w #[.int .i64 x] 1 hB (by unfold maxLen; omega) (by simp)
  simpa using this

end Go.Proofs.YtoeajgjpakilgaaGreat

namespace Go.Proofs.YtoeajgjpakilgaaGreat
open Go.RowKit Go.Proofs Go.Shelf
attribute [local go_sem] cell?_more cell?_alloc_some cell?_setCell_far frozen?_alloc_some frozen?_more
theorem sortL_any (B : Nat) (A : Option Addr) (n c : Nat) (xs : List Int) (w : World) (h : Own w B (.slice A n c) xs) (hn : n ≤ 1000) :
    Calls Tryz.prog 60 #[.slice A n c] w (SortPost w B (.slice A n c) xs) := by
  have hlen : xs.length = n := by
    obtain ⟨A', c', e⟩ := h.slice
    cases e; rfl
  by_cases hv : (Value.slice A n c) = .slice none 0 0
  · cases hv
    have hx : xs = [] := List.eq_nil_of_length_eq_zero hlen
    refine (Tryz.slices_Sort_int_none none 0 w).mono ?_
    rintro e w' ⟨rfl, rfl⟩
    exact ⟨rfl, [], by rw [hx] at h; exact h, by rw [hx], List.Pairwise.nil, Frame'.refl _ _⟩
  · have hown : w.ownsRow B 3 1 (.slice A n c) n (xs.map (Value.int .i64)) := by have := h; unfold Own at this; rwa [hlen] at this
    obtain ⟨g, cap, e, hB, hg, hnc, hcm, hxl, hH⟩ := Lib.holds_of_ownsRow hown hv
    cases e
    have hs := Tryz.slices_Sort_int g 0 c xs w hH hg (by omega)
    rw [hlen] at hs
    refine hs.mono ?_
    rintro e w' ⟨rfl, q, os, rfl⟩
    have hp := List.mergeSort_perm xs (fun x y => decide (x ≤ y))
    have hk := Lib.ownsRow_putRow (q := q) (k := n) (ys := xs.mergeSort fun x y => decide (x ≤ y)) hown (by rw [hp.length_eq]; exact hlen) (Nat.le_refl _)
    rw [List.take_of_length_le (by rw [hp.length_eq, hlen]; exact Nat.le_refl _)] at hk
    have hO : Own (Sort.putRow (Value.int .i64) (Sort.ahead w q) g 0 (xs.mergeSort fun x y => decide (x ≤ y)).toArray) B (.slice (some ⟨g, 0, none⟩) n c) (xs.mergeSort fun x y => decide (x ≤ y)) := by
      unfold Own; rw [hp.length_eq, hlen]; exact hk
    have hgrow : ∀ W : World, Below W.heap.size W (Sort.grow W os) := fun W => ⟨rfl, rfl, rfl, by simp, fun k hk => by simp [Sort.grow, Array.getElem?_append, hk]⟩
    have hF : Frame' (fun b => some b = (Value.slice (some ⟨g, 0, none⟩) n c).ownBlock) w (Sort.putRow (Value.int .i64) (Sort.ahead w q) g 0 (xs.mergeSort fun x y => decide (x ≤ y)).toArray) :=
      ⟨rfl, rfl, rfl, by simp [Sort.putRow, Sort.mapBlock, Sort.ahead], fun k hk hne => by
        have hne' : g ≠ k := fun e => hne (by rw [e]; rfl)
        simp [Sort.putRow, Sort.mapBlock, Sort.ahead, Array.getElem?_modify, hne']⟩
    refine ⟨rfl, _, hO.below (hgrow _), hp, ?_, hF.trans (Frame'.of_below (hgrow _))⟩
    have := List.pairwise_mergeSort (le := fun x y : Int => decide (x ≤ y)) (fun a b c h1 h2 => by simp at *; omega) (fun a b => by simp; omega) xs
    exact this.imp fun h => by simpa using h

set_option maxRecDepth 100000 in
theorem sortedL_any (Bs : Nat) (A : Option Addr) (n c : Nat) (xs : List Int) (w : World) (hBs : w.cell? ⟨Bs, 0, none⟩ = some (.slice A n c)) (h : RInts w A n c xs) (hn : n ≤ 1000) :
    Calls Tryz.prog 28 #[.func (.func 61) #[] #[.pointer (some ⟨Bs, 0, none⟩)]] w (SortedPost w xs) := by
  have hcall := collect_any Bs A n c xs w hBs h (by omega)
  have hl := hide h.len
  clear h hBs
  go_enter Tryz.func28, Tryz.ntmps28
  go_wp2_with (first
    | (go_at_call 59; refine hcall.mono ?_; rintro e w1 ⟨v, rfl, hO, hb⟩; obtain ⟨A1, c1, rfl⟩ := hO.slice)
    | (go_at_call 60; refine (sortL_any w.heap.size A1 xs.length c1 xs w1 hO (by rw [hl.out]; exact hn)).mono ?_; rintro e w2 ⟨rfl, ys, hO2, hp, hs, hF⟩))
  go_ret
  exact ⟨A1, c1, ys, rfl, hO2, hp, hs, Frame'.below hb hF (fun k e => (Own.own_lt hO e.symm).1) hb.size⟩

theorem RInts.cells {w : World} {b off n c : Nat} {xs : List Int} (h : RInts w (some ⟨b, off, none⟩) n c xs) : ∀ j, j < xs.length → w.cell? ⟨b, off + j, none⟩ = some (.int .i64 (xs.getD j 0)) := fun j hj => by
  obtain ⟨b', off', e, hc⟩ := h.2.2.2.2 (by have := h.len; omega)
  cases e
  exact hc j (by rw [← h.len]; exact hj)
theorem indexL_any (A : Option Addr) (n c : Nat) (xs : List Int) (x : Int) (w : World) (h : RInts w A n c xs) :
    Calls Tryz.prog 66 #[.slice A n c, .int .i64 x] w fun e w' => e = .returned (.int .i64 (Lib.idxOf xs x)) ∧ w = w' := by
  by_cases h0 : 0 < n
  · obtain ⟨b, off, rfl, _⟩ := h.2.2.2.2 h0
    refine (Tryz.slices_Index_int b off n c xs x w (by rw [h.len]; exact Nat.le_refl _) h.le h.cells).mono ?_
    rintro e w' ⟨rfl, rfl⟩
    exact ⟨by rw [List.take_of_length_le (by rw [h.len]; exact Nat.le_refl _)], rfl⟩
  · obtain rfl : n = 0 := by omega
    have hx : xs = [] := List.eq_nil_of_length_eq_zero h.len
    subst hx
    refine (Tryz.slices_Index_int_empty A c x w).mono ?_
    rintro e w' ⟨rfl, rfl⟩
    exact ⟨rfl, rfl⟩
theorem contains_any (A : Option Addr) (n c : Nat) (xs : List Int) (x : Int) (w : World) (h : RInts w A n c xs) :
    Calls Tryz.prog 44 #[.slice A n c, .int .i64 x] w fun e w' => e = .returned (.bool (inL xs x)) ∧ w = w' := by
  have e0 : ∀ l : List Int, l.contains x = inL l x := fun l => by unfold inL; rw [Bool.eq_iff_iff]; simp
  by_cases h0 : 0 < n
  · obtain ⟨b, off, rfl, _⟩ := h.2.2.2.2 h0
    refine (Tryz.slices_Contains_int b off n c xs x w (by rw [h.len]; exact Nat.le_refl _) h.le h.cells).mono ?_
    rintro e w' ⟨rfl, rfl⟩
    exact ⟨by rw [List.take_of_length_le (by rw [h.len]; exact Nat.le_refl _), e0], rfl⟩
  · obtain rfl : n = 0 := by omega
    have hx : xs = [] := List.eq_nil_of_length_eq_zero h.len
    subst hx
    refine (Tryz.slices_Contains_int_empty A c x w).mono ?_
    rintro e w' ⟨rfl, rfl⟩
    exact ⟨by rw [inL_nil], rfl⟩
end Go.Proofs.YtoeajgjpakilgaaGreat

namespace Go.Proofs.YtoeajgjpakilgaaGreat
open Go.RowKit Go.Proofs Go.Shelf
attribute [local go_sem] cell?_more cell?_alloc_some cell?_setCell_far frozen?_alloc_some frozen?_more
end Go.Proofs.YtoeajgjpakilgaaGreat
