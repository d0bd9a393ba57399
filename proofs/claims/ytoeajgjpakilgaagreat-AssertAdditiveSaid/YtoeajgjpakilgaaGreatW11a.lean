/-
  Numbers of one word: made, trimmed, added, subtracted, halved.
  Numbers of one word: made, added, subtracted, halved.
  The reference's Gcd and Div at a number of one word and one; ratios of whole numbers.
-/
import Derived.Test.YtoeajgjpakilgaaGreatSpecC
import Derived.Test.YtoeajgjpakilgaaGreatAgg
import Derived.Test.YtoeajgjpakilgaaGreatQTail
import Derived.Test.YtoeajgjpakilgaaGreatMem3
import Derived.Test.YtoeajgjpakilgaaGreatW8i
namespace Go.Proofs.YtoeajgjpakilgaaGreat
open Go.RowKit Go.Proofs
attribute [local go_sem] cell?_more cell?_alloc_some cell?_setCell_far frozen?_alloc_some frozen?_more
/-- What hands back a number. -/
def WPost (w : World) (xs : List Int) (e : Ending) (w' : World) : Prop := ∃ A n c, e = .returned (.slice A n c) ∧ RWrds w' A n c xs ∧ Below w.heap.size w w'
theorem OwnW.new {w : World} {B n c : Nat} {A : Option Addr} {xs : List Int} (h : OwnW w B (.slice A n c) xs) : ∀ b, fpS A n b → B ≤ b := fun b hb => by
  obtain ⟨hn, off, e⟩ := hb
  rcases h.2 with ⟨e', h0⟩ | ⟨g, cap, cur, e', hb, r⟩
  · cases e'; omega
  · cases e'; cases e; exact hb

end Go.Proofs.YtoeajgjpakilgaaGreat

namespace Go.Proofs.YtoeajgjpakilgaaGreat
open Go.RowKit Go.Proofs
attribute [local go_sem] cell?_more cell?_alloc_some cell?_setCell_far frozen?_alloc_some frozen?_more
theorem OwnW.out {w w' : World} {v : Value} {xs : List Int} (h : OwnW w' w.heap.size v xs) (hx : ∀ x ∈ xs, 0 ≤ x ∧ x ≤ 4294967295) (hb : Below w.heap.size w w') : WPost w xs (.returned v) w' := by
  obtain ⟨A, c, rfl⟩ := h.slice
  exact ⟨A, xs.length, c, rfl, h.wrds hx, hb⟩
theorem RWrds.more {w : World} {A : Option Addr} {n c : Nat} {xs : List Int} (h : RWrds w A n c xs) (q : Ext) : RWrds (More w q) A n c xs := h.below (more_below w q)
end Go.Proofs.YtoeajgjpakilgaaGreat

namespace Go.Proofs.YtoeajgjpakilgaaGreat
open Go.RowKit Go.Proofs
attribute [local go_sem] cell?_more cell?_alloc_some cell?_setCell_far frozen?_alloc_some frozen?_more
theorem RWrds.empty {w : World} {A : Option Addr} {n c : Nat} (h : RWrds w A n c (lm 0)) (w' : World) : RWrds w' A n c (lm 0) :=
  ⟨h.1, h.2.1, h.2.2.1, h.2.2.2.1, fun hn => absurd hn (by have := h.1; rw [lm_zero] at this; simp at this; omega)⟩
theorem RWrds.frame {S : Nat → Prop} {w w' : World} {A : Option Addr} {n c : Nat} {xs : List Int} (h : RWrds w A n c xs) (k : Frame' S w w') (hS : ∀ b, fpS A n b → ¬ S b) : RWrds w' A n c xs := (h.on.frame k hS).get
end Go.Proofs.YtoeajgjpakilgaaGreat

/-
  The reference's In, All, Alike, Least, Last, Without: of numbers.
  The reference's Alike, Least and Tied.
  Whole numbers as ratios: slices of them; a tie more.
-/
namespace Go.Proofs.YtoeajgjpakilgaaGreat
open Go.RowKit Go.Proofs
attribute [local go_sem] cell?_more cell?_alloc_some cell?_setCell_far frozen?_alloc_some frozen?_more
theorem inL_nil (x : Int) : inL [] x = false := by unfold inL; simp

end Go.Proofs.YtoeajgjpakilgaaGreat

namespace Go.Proofs.YtoeajgjpakilgaaGreat
open Go.RowKit Go.Proofs
attribute [local go_sem] cell?_more cell?_alloc_some cell?_setCell_far frozen?_alloc_some frozen?_more
end Go.Proofs.YtoeajgjpakilgaaGreat

namespace Go.Proofs.YtoeajgjpakilgaaGreat
open Go.RowKit Go.Proofs
attribute [local go_sem] cell?_more cell?_alloc_some cell?_setCell_far frozen?_alloc_some frozen?_more
end Go.Proofs.YtoeajgjpakilgaaGreat
