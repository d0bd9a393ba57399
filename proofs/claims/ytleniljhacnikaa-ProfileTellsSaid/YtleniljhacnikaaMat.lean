/-
  Matrices of ten by ten numbers in memory: a variable of a hundred cells; whole loads and stores; comparison.
-/
import Derived.Test.YtleniljhacnikaaChecked
import Derived.Test.YtleniljhacnikaaSpecA
import Derived.StillTailTactics
import Derived.Laws.StructEq
namespace Go.Proofs.Ytleniljhacnikaa
open Go.RowKit Go.Proofs

/-- The hundred cells C are the matrix m. -/
structure Mat (C : Array Value) (m : M) : Prop where
  size : C.size = 100
  at_ : ∀ x y, x < 10 → y < 10 → C[x * 10 + y]? = some (.int .i64 (m x y))
  bd : ∀ x y, x < 10 → y < 10 → I64 (m x y)

/-- The ten cells R are the row f. -/
structure RowA (R : Array Value) (f : Nat → Int) : Prop where
  size : R.size = 10
  at_ : ∀ y, y < 10 → R[y]? = some (.int .i64 (f y))

theorem Mat.congr {C : Array Value} {m m' : M} (h : Mat C m) (e : ∀ x y, x < 10 → y < 10 → m x y = m' x y) : Mat C m' :=
  ⟨h.size, fun x y hx hy => by rw [h.at_ x y hx hy, e x y hx hy], fun x y hx hy => by rw [← e x y hx hy]; exact h.bd x y hx hy⟩

theorem Mat.row {C : Array Value} {m : M} (h : Mat C m) {x : Nat} (hx : x < 10) : RowA (C.extract (x * 10) (x * 10 + 10)) (m x) := by
  refine ⟨by have := h.size; simp; omega, fun y hy => ?_⟩
  rw [Array.getElem?_extract, if_pos (by have := h.size; omega)]
  exact h.at_ x y hx hy

theorem Mat.put {C : Array Value} {m : M} (h : Mat C m) {x y : Nat} (hx : x < 10) (hy : y < 10) {v : Int} (hv : I64 v) :
    Mat (C.setIfInBounds (x * 10 + y) (.int .i64 v)) (fun a b => if a = x ∧ b = y then v else m a b) := by
  refine ⟨by simp [h.size], fun a b ha hb => ?_, fun a b ha hb => ?_⟩
  · by_cases e : a = x ∧ b = y
    · obtain ⟨rfl, rfl⟩ := e
      rw [Array.getElem?_setIfInBounds_self_of_lt (by have := h.size; omega)]
      simp
    · rw [Array.getElem?_setIfInBounds_ne (by omega), h.at_ a b ha hb, if_neg e]
  · split
    · exact hv
    · exact h.bd a b ha hb

theorem Mat.unique {C D : Array Value} {m m' : M} (h : Mat C m) (h' : Mat D m') (e : ∀ x y, x < 10 → y < 10 → m x y = m' x y) : C = D := by
  apply Array.ext_getElem?
  intro k
  by_cases hk : k < 100
  · have h1 := h.at_ (k / 10) (k % 10) (by omega) (by omega)
    have h2 := h'.at_ (k / 10) (k % 10) (by omega) (by omega)
    rw [show k / 10 * 10 + k % 10 = k by omega] at h1 h2
    rw [h1, h2, e _ _ (by omega) (by omega)]
  · rw [Array.getElem?_eq_none (by have := h.size; omega), Array.getElem?_eq_none (by have := h'.size; omega)]

theorem Mat.one {C : Array Value} {m : M} (h : Mat C m) : C.all (·.oneCell') = true := by
  rw [Array.all_eq_true]
  intro k hk
  have h1 := h.at_ (k / 10) (k % 10) (by have := h.size; omega) (by omega)
  rw [show k / 10 * 10 + k % 10 = k by omega, Array.getElem?_eq_getElem hk] at h1
  rw [Option.some.inj h1]; rfl
theorem RowA.one {C : Array Value} {f : Nat → Int} (h : RowA C f) : C.all (·.oneCell') = true := by
  rw [Array.all_eq_true]
  intro k hk
  have h1 := h.at_ k (by have := h.size; omega)
  rw [Array.getElem?_eq_getElem hk] at h1
  rw [Option.some.inj h1]; rfl

theorem zeroMat : Mat Try.zeroCells27 (fun _ _ => 0) := by
  have hz : Try.zeroCells27 = Array.replicate 100 (.int .i64 0) := by kernel_rfl
  rw [hz]
  exact ⟨by simp, fun x y hx hy => by rw [Array.getElem?_replicate, if_pos (by omega)], fun _ _ _ _ => by unfold I64; omega⟩
theorem zeroRow : RowA #[.int .i64 0, .int .i64 0, .int .i64 0, .int .i64 0, .int .i64 0, .int .i64 0, .int .i64 0, .int .i64 0, .int .i64 0, .int .i64 0] (fun _ => 0) :=
  ⟨rfl, fun j hj => by
    have : j = 0 ∨ j = 1 ∨ j = 2 ∨ j = 3 ∨ j = 4 ∨ j = 5 ∨ j = 6 ∨ j = 7 ∨ j = 8 ∨ j = 9 := by omega
    rcases this with rfl | rfl | rfl | rfl | rfl | rfl | rfl | rfl | rfl | rfl <;> rfl⟩

theorem infoMat : (Try.prog.info? 27).map (·.size) = some 100 := by kernel_rfl
theorem infoRow : (Try.prog.info? 25).map (·.size) = some 10 := by kernel_rfl

section
variable {ops : Array Oper} {rest : List Oper} {o : Oper} {a : Act} {w : World} {Q : Exit → Act → World → Prop}

/-- A whole matrix is read. -/
theorem ldMat (hgd : o.guard = none) {x : Operand} (ho : o.op = .load 27 x) {g : Nat} (hx : a.eval x = .pointer (some ⟨g, 0, none⟩)) {C : Array Value} (hg : Has w g 27 C) (hs : C.size = 100)
    (h : wpList Try.prog ops Q rest (a.put o.dst (.agg C)) w) : wpList Try.prog ops Q (o :: rest) a w :=
  wpList_load_row hgd 27 x ho g hx _ C (0, 0) _ hg Try.underlying27 rfl (infoMat.trans (by rw [hs])) h
theorem ldRow (hgd : o.guard = none) {x : Operand} (ho : o.op = .load 25 x) {g : Nat} (hx : a.eval x = .pointer (some ⟨g, 0, none⟩)) {C : Array Value} (hg : Has w g 25 C) (hs : C.size = 10)
    (h : wpList Try.prog ops Q rest (a.put o.dst (.agg C)) w) : wpList Try.prog ops Q (o :: rest) a w :=
  wpList_load_row hgd 25 x ho g hx _ C (0, 0) _ hg Try.underlying25 rfl (infoRow.trans (by rw [hs])) h

/-- A whole matrix is stored. -/
theorem stMat (hgd : o.guard = none) {x y : Operand} (ho : o.op = .store 27 x y) {g : Nat} (hx : a.eval x = .pointer (some ⟨g, 0, none⟩)) {C D : Array Value} (hy : a.eval y = .agg D) (hg : Has w g 27 C) (hs : C.size = 100) (hD : D.size = 100) (h1 : D.all (·.oneCell') = true)
    (h : wpList Try.prog ops Q rest (a.put o.dst undef) (w.setRow g D)) : wpList Try.prog ops Q (o :: rest) a w :=
  wpList_plain hgd fun _ hK => wp_store_row 27 x y ho g D hx hy _ C hg (infoMat.trans (by rw [hD])) (by rw [hs, hD]) h1 (hK _ _ h)
theorem stRow (hgd : o.guard = none) {x y : Operand} (ho : o.op = .store 25 x y) {g : Nat} (hx : a.eval x = .pointer (some ⟨g, 0, none⟩)) {C D : Array Value} (hy : a.eval y = .agg D) (hg : Has w g 25 C) (hs : C.size = 10) (hD : D.size = 10) (h1 : D.all (·.oneCell') = true)
    (h : wpList Try.prog ops Q rest (a.put o.dst undef) (w.setRow g D)) : wpList Try.prog ops Q (o :: rest) a w :=
  wpList_plain hgd fun _ hK => wp_store_row 25 x y ho g D hx hy _ C hg (infoRow.trans (by rw [hD])) (by rw [hs, hD]) h1 (hK _ _ h)
end

/-- A row of a matrix, an element of a row, of values: two rules for the walk. -/
theorem ixMat {C R : Array Value} {x : Nat} (hx : x < 10) (hR : C.extract (x * 10) (x * 10 + 10) = R) :
    ∀ w : World, (Instr.index 27 (.agg C) (.int .i64 (x : Int))).run Try.prog w = .ok (.agg R) w := fun w => by
  have hu := Try.underlying27
  have h1 := Try.sizeOf25
  have h2 := Try.isAgg25
  simp [Instr.index, asIntOf, run_underlying hu, h1, h2, part, hx, hR]
theorem ixRow {R : Array Value} {f : Nat → Int} (hR : RowA R f) {y : Nat} (hy : y < 10) :
    ∀ w : World, (Instr.index 25 (.agg R) (.int .i64 (y : Int))).run Try.prog w = .ok (.int .i64 (f y)) w := fun w => by
  have hu := Try.underlying25
  have h1 := Try.sizeOf3
  have h2 := Try.isAgg3
  have h3 := hR.at_ y hy
  simp [Instr.index, asIntOf, run_underlying hu, h1, h2, part, hy, h3]

/-- A function hands back a matrix that lies in its result's variable; with an error beside it. -/
theorem retMat {fn : Func} {R : Ending → World → Prop} {a : Act} {w : World} {p g : Nat} {C : Array Value} (hr : fn.results = #[.cell p 27]) (hp : a.tmps.getD p undef = .pointer (some ⟨g, 0, none⟩))
    (hg : Has w g 27 C) (hs : C.size = 100) (hd : a.defers = []) (hR : R (.returned (.agg C)) w) : bodyPost Try.prog fn R .ret a w :=
  bodyPost_ret (results_cell_row hr _ _ g _ C _ _ hp hg Try.underlying27 rfl (infoMat.trans (by rw [hs]))) hd hR
theorem retMat2 {fn : Func} {R : Ending → World → Prop} {a : Act} {w : World} {p q g : Nat} {C : Array Value} {v : Value} (hr : fn.results = #[.cell p 27, .tmp q]) (hp : a.tmps.getD p undef = .pointer (some ⟨g, 0, none⟩))
    (hq : a.tmps.getD q undef = v) (hg : Has w g 27 C) (hs : C.size = 100) (hd : a.defers = []) (hR : R (.returned (.tuple #[.agg C, v])) w) : bodyPost Try.prog fn R .ret a w := by
  have hl := run_loadVar_row (P := Try.prog) w g _ 27 C (0, 0) _ hg Try.underlying27 rfl (infoMat.trans (by rw [hs]))
  refine bodyPost_ret (v := .tuple #[.agg C, v]) ?_ hd hR
  have hp' : a.tmps[p]?.getD undef = .pointer (some ⟨g, 0, none⟩) := by simpa using hp
  have hq' : a.tmps[q]?.getD undef = v := by simpa using hq
  simp [results, hr, hp', hq', asAddr, hl]
end Go.Proofs.Ytleniljhacnikaa
