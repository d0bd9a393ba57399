/-
  A range over a function whose iterator works in memory of its own: what it tells of each element may speak of the world.
  The layer condorcet: sets that grow; the Smith set.
  The layer condorcet: the Smith set.
-/
import Derived.Test.YtoeajgjpakilgaaGreatSpecSr
import Derived.Test.YtoeajgjpakilgaaGreatW9a
import Derived.Test.YtoeajgjpakilgaaGreatMat
import Derived.Test.YtoeajgjpakilgaaGreatSpecA
import Derived.Test.YtoeajgjpakilgaaGreatW11g
import Derived.Test.YtoeajgjpakilgaaGreatW8i
import Derived.RangeFuncNested
import Derived.RangeFuncBound
import Derived.RangeFuncCalls
import Derived.RangeFuncLeaves
import Derived.WalkMore
namespace Go.Proofs.YtoeajgjpakilgaaGreat
open Go Go.RowKit

variable {F : Fence} {n : Nat} {P : Program}

end Go.Proofs.YtoeajgjpakilgaaGreat

namespace Go.Proofs.YtoeajgjpakilgaaGreat
open Go.RowKit Go.Proofs Go.Shelf
attribute [local go_sem] Oper.semAt_some
attribute [local go_sem] cell?_more cell?_alloc_some cell?_setCell_far frozen?_alloc_some frozen?_more
theorem Grow.le {m : M} {C k : Nat} {L : List Int} (h : Grow m C k L) : L.length ≤ C := by
  have := h.nd.length_le_of_subset (l₂ := rangeI C) fun x hx => mem_rangeI.2 (h.rng x hx)
  rwa [length_rangeI] at this
end Go.Proofs.YtoeajgjpakilgaaGreat

namespace Go.Proofs.YtoeajgjpakilgaaGreat
open Go.RowKit Go.Proofs Go.Shelf
attribute [local go_sem] Oper.semAt_some
attribute [local go_sem] cell?_more cell?_alloc_some cell?_setCell_far frozen?_alloc_some frozen?_more
theorem run_nil0 (W : World) : Sem.run Tryz.prog (binOp BinOp.eql 22 (.slice none 0 0) (.slice none 0 0)) W = .ok (.bool true) W := by kernel_rfl
theorem run_nil1 (a : Addr) (n c : Nat) (W : World) : Sem.run Tryz.prog (binOp BinOp.eql 22 (.slice (some a) n c) (.slice none 0 0)) W = .ok (.bool false) W := by kernel_rfl
attribute [local go_sem] run_nil0 run_nil1
/-- What the loop of Smith knows: the least set so far. -/
def LeastAt (m : M) (C B fb : Nat) (w0 : World) (k : Nat) (W : World) : Prop :=
  (∃ v, Has W fb 22 #[v] ∧ ((k = 0 ∧ v = .slice none 0 0) ∨ (0 < k ∧ ∃ L, Own W B v L ∧ Least m C k L))) ∧ Below w0.heap.size w0 W
theorem LeastAt.below {m : M} {C B fb : Nat} {w0 : World} {k : Nat} {A E : World} (hs : w0.heap.size ≤ A.heap.size) (h : LeastAt m C B fb w0 k A) (hb : Below A.heap.size A E) : LeastAt m C B fb w0 k E := by
  obtain ⟨⟨v, hv, h⟩, h2⟩ := h
  refine ⟨⟨v, hv.below hb hv.lt, ?_⟩, Below_trans' h2 hs hb⟩
  rcases h with h | ⟨h0, L, hO, hL⟩
  · exact .inl h
  · exact .inr ⟨h0, L, hO.below hb, hL⟩
theorem has_putObj {W : World} {g l : Nat} {t : TypeId} {C : Array Value} {o : Obj} (h : Has W g t C) (o' : Obj) (hl : W.heap[l]? = some o) (ho : o.isCells = false) : Has (W.putObj l o') g t C := by
  have hne : g ≠ l := fun e => by subst e; unfold Has at h; rw [h] at hl; cases hl; cases ho
  unfold Has at *
  rw [World.putObj_heap_other hne]; exact h
theorem own_putObj {W : World} {B l : Nat} {v : Value} {xs : List Int} {o : Obj} (h : Own W B v xs) (o' : Obj) (hl : W.heap[l]? = some o) (ho : o.isCells = false) : Own (W.putObj l o') B v xs := ownsRow_putObj h o' hl ho
theorem LeastAt.putObj {m : M} {C B fb : Nat} {w0 : World} {k l : Nat} {W : World} {o : Obj} (h : LeastAt m C B fb w0 k W) (o' : Obj) (hw : w0.heap.size ≤ l) (hl : W.heap[l]? = some o) (ho : o.isCells = false) : LeastAt m C B fb w0 k (W.putObj l o') := by
  obtain ⟨⟨v, hv, h⟩, h2⟩ := h
  refine ⟨⟨v, has_putObj hv o' hl ho, ?_⟩, h2.grown (grownBy_putObj' W l o') (Nat.le_of_lt (Nat.lt_of_le_of_lt hw (Array.getElem?_eq_some_iff.1 hl).1)) (fun i e => by cases e; exact hw)⟩
  rcases h with h | ⟨h0, L, hO, hL⟩
  · exact .inl h
  · exact .inr ⟨h0, L, own_putObj hO o' hl ho, hL⟩
theorem frame_putObj {S : Nat → Prop} {W : World} {l : Nat} {o' : Obj} (hS : S l) : Frame' S W (W.putObj l o') := by
  refine (Frame'.of_grown (grownBy_putObj' W l o')).mono fun k _ hk => ?_
  have e : k = l := by simpa using hk
  rw [e]; exact hS

end Go.Proofs.YtoeajgjpakilgaaGreat
