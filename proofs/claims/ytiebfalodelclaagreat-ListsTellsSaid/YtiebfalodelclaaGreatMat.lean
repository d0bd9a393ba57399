/-
  Matrices of ten by ten numbers in memory: a variable of a hundred cells; whole loads and stores; comparison.
  Comparison of two matrices.
  Several variables in memory at once; a matrix in one spelling.
-/
import Derived.Test.YtiebfalodelclaaGreatChecked
import Derived.Test.YtiebfalodelclaaGreatSpecA
import Derived.StillTailTactics
import Derived.Laws.StructEq
import Derived.Test.YtiebfalodelclaaGreatOwn
namespace Go.Proofs.YtiebfalodelclaaGreat
open Go.RowKit Go.Proofs

/-- The hundred cells C are the matrix m. -/
structure Mat (C : Array Value) (m : M) : Prop where
  size : C.size = 100
  at_ : ∀ x y, x < 10 → y < 10 → C[x * 10 + y]? = some (.int .i64 (m x y))
  bd : ∀ x y, x < 10 → y < 10 → I64 (m x y)

/-- The ten cells R are the row f. -/
structure RowA (R : Array Value) (f : Nat → Int) : Prop where
  size : R.size = 10
  at_ : ∀ y, y < 10 → R[y]? = some (.int .i64 (f y))

theorem Mat.congr {C : Array Value} {m m' : M} (h : Mat C m) (e : ∀ x y, x < 10 → y < 10 → m x y = m' x y) : Mat C m' :=
  ⟨h.size, fun x y hx hy => by rw [h.at_ x y hx hy, e x y hx hy], fun x y hx hy => by rw [← e x y hx hy]; exact h.bd x y hx hy⟩

theorem Mat.row {C : Array Value} {m : M} (h : Mat C m) {x : Nat} (hx : x < 10) : RowA (C.extract (x * 10) (x * 10 + 10)) (m x) := by
  refine ⟨by have := h.size; simp; omega, fun y hy => ?_⟩
  rw [Array.getElem?_extract, if_pos (by have := h.size; omega)]
  exact h.at_ x y hx hy

theorem Mat.put {C : Array Value} {m : M} (h : Mat C m) {x y : Nat} (hx : x < 10) (hy : y < 10) {v : Int} (hv : I64 v) :
    Mat (C.setIfInBounds (x * 10 + y) (.int .i64 v)) (fun a b => if a = x ∧ b = y then v else m a b) := by
  refine ⟨by simp [h.size], fun a b ha hb => ?_, fun a b ha hb => ?_⟩
  · by_cases e : a = x ∧ b = y
    · obtain ⟨rfl, rfl⟩ := e
      rw [Array.getElem?_setIfInBounds_self_of_lt (by have := h.size; omega)]
      simp
    · rw [Array.getElem?_setIfInBounds_ne (by omega), h.at_ a b ha hb, if_neg e]
  · split
    · exact hv
    · exact h.bd a b ha hb

theorem Mat.unique {C D : Array Value} {m m' : M} (h : Mat C m) (h' : Mat D m') (e : ∀ x y, x < 10 → y < 10 → m x y = m' x y) : C = D := by
  apply Array.ext_getElem?
  intro k
  by_cases hk : k < 100
  · have h1 := h.at_ (k / 10) (k % 10) (by omega) (by omega)
    have h2 := h'.at_ (k / 10) (k % 10) (by omega) (by omega)
    rw [show k / 10 * 10 + k % 10 = k by omega] at h1 h2
    rw [h1, h2, e _ _ (by omega) (by omega)]
  · rw [Array.getElem?_eq_none (by have := h.size; omega), Array.getElem?_eq_none (by have := h'.size; omega)]

theorem Mat.one {C : Array Value} {m : M} (h : Mat C m) : C.all (·.oneCell') = true := by
  rw [Array.all_eq_true]
  intro k hk
  have h1 := h.at_ (k / 10) (k % 10) (by have := h.size; omega) (by omega)
  rw [show k / 10 * 10 + k % 10 = k by omega, Array.getElem?_eq_getElem hk] at h1
  rw [Option.some.inj h1]; rfl
theorem RowA.one {C : Array Value} {f : Nat → Int} (h : RowA C f) : C.all (·.oneCell') = true := by
  rw [Array.all_eq_true]
  intro k hk
  have h1 := h.at_ k (by have := h.size; omega)
  rw [Array.getElem?_eq_getElem hk] at h1
  rw [Option.some.inj h1]; rfl

theorem zeroRow : RowA #[.int .i64 0, .int .i64 0, .int .i64 0, .int .i64 0, .int .i64 0, .int .i64 0, .int .i64 0, .int .i64 0, .int .i64 0, .int .i64 0] (fun _ => 0) :=
  ⟨rfl, fun j hj => by
    have : j = 0 ∨ j = 1 ∨ j = 2 ∨ j = 3 ∨ j = 4 ∨ j = 5 ∨ j = 6 ∨ j = 7 ∨ j = 8 ∨ j = 9 := by omega
    rcases this with rfl | rfl | rfl | rfl | rfl | rfl | rfl | rfl | rfl | rfl <;> rfl⟩

section
variable {ops : Array Oper} {rest : List Oper} {o : Oper} {a : Act} {w : World} {Q : Exit → Act → World → Prop}

end

end Go.Proofs.YtiebfalodelclaaGreat

namespace Go.Proofs.YtiebfalodelclaaGreat
open Go.RowKit Go.Proofs

theorem run_forIn_all {P : Program} (p : Nat → Bool) (g : Nat → (Option Bool × PUnit) → Sem (ForInStep (Option Bool × PUnit))) :
    ∀ (l : List Nat), (∀ i ∈ l, ∀ w, (g i (none, ⟨⟩)).run P w = .ok (if p i then .yield (none, ⟨⟩) else .done (some false, ⟨⟩)) w) →
      ∀ w, (forIn l (none, ⟨⟩) g).run P w = .ok (if l.all p then (none, ⟨⟩) else (some false, ⟨⟩)) w
  | [], _, w => by simp
  | i :: l, h, w => by
    rw [List.forIn_cons, Sem.run_bind, h i (by simp) w]
    cases hp : p i with
    | true => simp only [Result.andThen_ok, if_true, hp, List.all_cons, Bool.true_and]; exact run_forIn_all p g l (fun j hj => h j (by simp [hj])) w
    | false => simp [Result.andThen_ok, hp]

end Go.Proofs.YtiebfalodelclaaGreat

namespace Go.Proofs.YtiebfalodelclaaGreat
open Go.RowKit Go.Proofs

/-- The hundred cells of a matrix. -/
def canon (m : M) : Array Value := (Array.range 100).map fun k => .int .i64 (m (k / 10) (k % 10))
theorem canon_mat {m : M} (h : ∀ x y, x < 10 → y < 10 → I64 (m x y)) : Mat (canon m) m := by
  refine ⟨by simp [canon], fun x y hx hy => ?_, h⟩
  unfold canon
  rw [Array.getElem?_map, Array.getElem?_range, if_pos (by omega)]
  simp only [Option.map_some]
  rw [show (x * 10 + y) / 10 = x by omega, show (x * 10 + y) % 10 = y by omega]
theorem Mat.canon {C : Array Value} {m : M} (h : Mat C m) : C = canon m := h.unique (canon_mat h.bd) (fun _ _ _ _ => rfl)
theorem Mat.turned {C : Array Value} {m : M} (h : Mat C m) : Mat (Proofs.YtiebfalodelclaaGreat.canon fun x y => m y x) (fun x y => m y x) := canon_mat (fun x y hx hy => h.bd y x hy hx)
theorem matEq_self (m : M) : matEq m m = true := matEq_iff.2 fun _ _ _ _ => rfl

/-- The cells of a block. -/
def cellsOf (w : World) (g : Nat) : Array Value := match w.heap[g]? with | some (.cells C _ _) => C | _ => #[]
theorem cells_eq {w : World} {g : Nat} {t : TypeId} {C : Array Value} (h : Has w g t C) : cellsOf w g = C := by unfold cellsOf; unfold Has at h; rw [h]
/-- Whole matrices are read: rules for the walk; 'cells_eq' and 'good_of' lay what they ask. -/
def LDM (g : Nat) : Sem (Array Value) := loadCellsFrom ⟨g, 0, none⟩ 0 100 #[]
theorem ldm_fold (g : Nat) : loadCellsFrom ⟨g, 0, none⟩ 0 100 #[] = LDM g := rfl
end Go.Proofs.YtiebfalodelclaaGreat
