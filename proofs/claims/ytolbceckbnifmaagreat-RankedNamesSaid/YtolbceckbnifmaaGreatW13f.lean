/-
  The reference's Count of chapter 13; two slices of numbers that grow side by side.
-/
import Derived.Test.YtolbceckbnifmaaGreatW13b
import Derived.Test.YtolbceckbnifmaaGreatW13e
import Derived.Test.YtolbceckbnifmaaGreatW10m
namespace Go.Proofs.YtolbceckbnifmaaGreat
open Go.RowKit Go.Proofs Go.Shelf
attribute [local go_sem] cell?_more cell?_alloc_some cell?_setCell_far frozen?_alloc_some frozen?_more
/-- Two slices of numbers, apart. -/
structure Two (w : World) (B : Nat) (u v : Value) (xs ys : List Int) : Prop where
  l : Own w B u xs
  r : Own w B v ys
  ap : ∀ b, u.ownBlock = some b → v.ownBlock ≠ some b
theorem Two.symm {w : World} {B : Nat} {u v : Value} {xs ys : List Int} (h : Two w B u v xs ys) : Two w B v u ys xs := ⟨h.r, h.l, fun b hv hu => h.ap b hu hv⟩
theorem Two.below {w w' : World} {B : Nat} {u v : Value} {xs ys : List Int} (h : Two w B u v xs ys) (hb : Below w.heap.size w w') : Two w' B u v xs ys := ⟨h.l.below hb, h.r.below hb, h.ap⟩
theorem Two.nil_ (w : World) (B : Nat) : Two w B (.slice none 0 0) (.slice none 0 0) [] [] := ⟨Own.nil_ _ _, Own.nil_ _ _, fun b h => by cases h⟩
/-- One more on the left. -/
theorem Two.app {w : World} {B : Nat} {u v : Value} {xs ys : List Int} (h : Two w B u v xs ys) (x : Int) (hx : I64 x) (hn : xs.length + 1 ≤ 1000000) (hB : B ≤ w.heap.size) (ty : TypeId) :
    ∃ u' w', (Builtin.append_ #[28, 28] ty #[u, .slice (some ⟨w.heap.size, 0, none⟩) 1 1]).run Tryz.prog (w.alloc (.cells #[.int .i64 x] 3)) = .ok u' w' ∧ Two w' B u' v (xs ++ [x]) ys ∧ Frame' (fun b => u.ownBlock = some b) w w' := by
  have hb : Below w.heap.size w (w.alloc (.cells #[.int .i64 x] 3)) := below_allocN
  have h1 := h.below hb
  have hL : RInts (w.alloc (.cells #[.int .i64 x] 3)) (some ⟨w.heap.size, 0, none⟩) 1 1 [x] := ints_lit [x] (Has.new _ _ _) (by simp) (fun z hz => by rw [List.mem_singleton.1 hz]; exact hx)
  obtain ⟨u', w', k1, k2, k3, k4⟩ := run_appInts _ ty h1.l hL (by simpa using hn) (by simp; omega)
  have hf : Frame' (fun b => u.ownBlock = some b) (w.alloc (.cells #[.int .i64 x] 3)) w' := (Frame'.of_grown k3).mono fun b _ e => e.symm
  refine ⟨u', w', k1, ⟨k2, h1.r.frame hf (fun b hb' e => h.ap b e hb'), fun b hu hv => ?_⟩, (Frame'.of_below hb).trans hf⟩
  rcases k4 with e | e
  · rw [e] at hu; exact h.ap b hu hv
  · rw [e] at hu
    have e2 := Option.some.inj hu
    have := (h1.r.own_lt hv).2
    omega
/-- Who is behind nobody, of the first X. -/
def topT (S : M) (C X : Nat) : List Int := (rangeI X).filter fun x => decide (hadP S x.toNat C + 1 = C)
def hadU (S : M) (C X : Nat) : List Int := (List.range X).map fun x : Nat => (hadP S x C : Int)
theorem hadU_succ (S : M) (C X : Nat) : hadU S C (X + 1) = hadU S C X ++ [(hadP S X C : Int)] := by unfold hadU; rw [List.range_succ, List.map_append]; rfl
theorem length_hadU (S : M) (C X : Nat) : (hadU S C X).length = X := by simp [hadU]
theorem length_topT (S : M) (C X : Nat) : (topT S C X).length ≤ X := Nat.le_trans (List.length_filter_le _ _) (by rw [length_rangeI]; exact Nat.le_refl _)
theorem topT_succ (S : M) (C X : Nat) : topT S C (X + 1) = topT S C X ++ if hadP S X C + 1 = C then [(X : Int)] else [] := by
  unfold topT
  rw [rangeI_succ, List.filter_append]
  congr 1
  by_cases e : hadP S X C + 1 = C
  · rw [if_pos e, List.filter_cons, if_pos (by simpa using e)]; rfl
  · rw [if_neg e, List.filter_cons, if_neg (by simpa using e)]; rfl
end Go.Proofs.YtolbceckbnifmaaGreat
