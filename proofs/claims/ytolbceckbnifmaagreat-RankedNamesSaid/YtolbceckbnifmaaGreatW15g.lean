/-
  The examples of chapter 15.
-/
import Derived.Test.YtolbceckbnifmaaGreatW15e
namespace Go.Proofs.YtolbceckbnifmaaGreat
open Go.RowKit Go.Proofs Go.Shelf
attribute [local go_sem] cell?_more cell?_alloc_some cell?_setCell_far frozen?_alloc_some frozen?_more
def ex15p : List Row := [([0, 1], 4), ([1], 3), ([2, 1], 2)]
def ex15q : List Row := [([0], 1), ([1], 1)]
def ex15o1 : Outc := ([1], [rndS [4, 3, 2] 0 [] [2], rndS [4, 5, 0] 0 [1] []], [])
def ex15o2 : Outc := ([1], [rndS [1, 1] 0 [] [0], rndS [0, 1] 1 [1] []], [([0, 1], 0)])
theorem ex15_m1 : mayS 3 1 ex15p 1 1 1 [0, 1, 2] = 0 := by kernel_rfl
theorem ex15_m2 : mayS 2 1 ex15q 1 1 1 [1, 0] = 0 := by kernel_rfl
theorem ex15_m3 : mayS 3 1 ex15p 1 2 1 [0, 1, 2] = 2 := by kernel_rfl
theorem ex15_m4 : mayS 0 0 [] 1 1 1 [] = 8 := by kernel_rfl
theorem ex15_o1 : runO 3 1 ex15p 1 [0, 1, 2] = ex15o1 := by kernel_rfl
theorem ex15_o2 : runO 2 1 ex15q 1 [1, 0] = ex15o2 := by kernel_rfl
theorem ex15_f1 : firstsL 3 1 ex15p [false, true] = [0, 9, 0] := by kernel_rfl
theorem ex15_f2 : firstsN 3 1 ex15p [false, true] = 0 := by kernel_rfl
theorem ex15_f3 : firstsE 3 1 ex15p = 0 := by kernel_rfl
theorem ex15_f4 : firstsE 1 2 [] = 8 := by kernel_rfl
theorem bools2 {w : World} {g t : Nat} {x y : Bool} (h : Has w g t #[.bool x, .bool y]) : RBools w (some ⟨g, 0, none⟩) 2 2 [x, y] := by
  refine ⟨rfl, Nat.le_refl _, by omega, fun _ => ⟨g, 0, rfl, fun i hi => ?_⟩⟩
  have : i = 0 ∨ i = 1 := by omega
  rcases this with rfl | rfl
  · rw [h.cell]; rfl
  · rw [h.cell]; rfl
theorem bools_nil {w : World} : RBools w none 0 0 [] := ⟨rfl, Nat.le_refl _, by omega, fun h => absurd h (by omega)⟩
theorem ERnd.belowX {w w' : World} {vs : List Value} {x : Rnd} (h : ERnd w vs x) (hb : Below w.heap.size w w') : ERnd w' vs x := below_rnd _ _ _ _ h hb

end Go.Proofs.YtolbceckbnifmaaGreat
