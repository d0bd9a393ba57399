/-
  Matrices of ten by ten numbers in memory: a variable of a hundred cells; whole loads and stores; comparison.
  Comparison of two matrices.
  Several variables in memory at once; a matrix in one spelling.
-/
import Derived.Test.YtoeajgjpakilgaaGreatSpecA
import Derived.Test.YtoeajgjpakilgaaGreatOwn
import Derived.Test.YtoeajgjpakilgaaGreatChecked
import Derived.StillTailTactics
import Derived.Laws.StructEq
namespace Go.Proofs.YtoeajgjpakilgaaGreat
open Go.RowKit Go.Proofs

/-- The hundred cells C are the matrix m. -/
structure Mat (C : Array Value) (m : M) : Prop where
  size : C.size = 100
  at_ : ∀ x y, x < 10 → y < 10 → C[x * 10 + y]? = some (.int .i64 (m x y))
  bd : ∀ x y, x < 10 → y < 10 → I64 (m x y)

/-- The ten cells R are the row f. -/
structure RowA (R : Array Value) (f : Nat → Int) : Prop where
  size : R.size = 10
  at_ : ∀ y, y < 10 → R[y]? = some (.int .i64 (f y))

theorem Mat.congr {C : Array Value} {m m' : M} (h : Mat C m) (e : ∀ x y, x < 10 → y < 10 → m x y = m' x y) : Mat C m' :=
  ⟨h.size, fun x y hx hy => by rw [h.at_ x y hx hy, e x y hx hy], fun x y hx hy => by rw [← e x y hx hy]; exact h.bd x y hx hy⟩

theorem Mat.row {C : Array Value} {m : M} (h : Mat C m) {x : Nat} (hx : x < 10) : RowA (C.extract (x * 10) (x * 10 + 10)) (m x) := by
  refine ⟨by have := h.size; simp; omega, fun y hy => ?_⟩
  rw [Array.getElem?_extract, if_pos (by have := h.size; omega)]
  exact h.at_ x y hx hy

theorem Mat.put {C : Array Value} {m : M} (h : Mat C m) {x y : Nat} (hx : x < 10) (hy : y < 10) {v : Int} (hv : I64 v) :
    Mat (C.setIfInBounds (x * 10 + y) (.int .i64 v)) (fun a b => if a = x ∧ b = y then v else m a b) := by
  refine ⟨by simp [h.size], fun a b ha hb => ?_, fun a b ha hb => ?_⟩
  · by_cases e : a = x ∧ b = y
    · obtain ⟨rfl, rfl⟩ := e
      rw [Array.getElem?_setIfInBounds_self_of_lt (by have := h.size; omega)]
      simp
    · rw [Array.getElem?_setIfInBounds_ne (by omega), h.at_ a b ha hb, if_neg e]
  · split
    · exact hv
    · exact h.bd a b ha hb

theorem Mat.one {C : Array Value} {m : M} (h : Mat C m) : C.all (·.oneCell') = true := by
  rw [Array.all_eq_true]
  intro k hk
  have h1 := h.at_ (k / 10) (k % 10) (by have := h.size; omega) (by omega)
  rw [show k / 10 * 10 + k % 10 = k by omega, Array.getElem?_eq_getElem hk] at h1
  rw [Option.some.inj h1]; rfl
theorem RowA.one {C : Array Value} {f : Nat → Int} (h : RowA C f) : C.all (·.oneCell') = true := by
  rw [Array.all_eq_true]
  intro k hk
  have h1 := h.at_ k (by have := h.size; omega)
  rw [Array.getElem?_eq_getElem hk] at h1
  rw [Option.some.inj h1]; rfl

section
variable {ops : Array Oper} {rest : List Oper} {o : Oper} {a : Act} {w : World} {Q : Exit → Act → World → Prop}

end

end Go.Proofs.YtoeajgjpakilgaaGreat

namespace Go.Proofs.YtoeajgjpakilgaaGreat
open Go.RowKit Go.Proofs

end Go.Proofs.YtoeajgjpakilgaaGreat

namespace Go.Proofs.YtoeajgjpakilgaaGreat
open Go.RowKit Go.Proofs

/-- The cells of a block. -/
def cellsOf (w : World) (g : Nat) : Array Value := match w.heap[g]? with | some (.cells C _ _) => C | _ => #[]
end Go.Proofs.YtoeajgjpakilgaaGreat
