/-
  Matrices of ten by ten numbers in memory: a variable of a hundred cells; whole loads and stores; comparison.
  Comparison of two matrices.
  Several variables in memory at once; a matrix in one spelling.
-/
import Derived.Test.YtolbceckbnifmaaGreatChecked
import Derived.Test.YtolbceckbnifmaaGreatSpecA
import Derived.StillTailTactics
import Derived.Laws.StructEq
import Derived.Test.YtolbceckbnifmaaGreatOwn
namespace Go.Proofs.YtolbceckbnifmaaGreat
open Go.RowKit Go.Proofs

/-- The hundred cells C are the matrix m. -/
structure Mat (C : Array Value) (m : M) : Prop where
  size : C.size = 100
  at_ : ∀ x y, x < 10 → y < 10 → C[x * 10 + y]? = some (.int .i64 (m x y))
  bd : ∀ x y, x < 10 → y < 10 → I64 (m x y)

/-- The ten cells R are the row f. -/
structure RowA (R : Array Value) (f : Nat → Int) : Prop where
  size : R.size = 10
  at_ : ∀ y, y < 10 → R[y]? = some (.int .i64 (f y))

theorem Mat.congr {C : Array Value} {m m' : M} (h : Mat C m) (e : ∀ x y, x < 10 → y < 10 → m x y = m' x y) : Mat C m' :=
  ⟨h.size, fun x y hx hy => by rw [h.at_ x y hx hy, e x y hx hy], fun x y hx hy => by rw [← e x y hx hy]; exact h.bd x y hx hy⟩

theorem Mat.row {C : Array Value} {m : M} (h : Mat C m) {x : Nat} (hx : x < 10) : RowA (C.extract (x * 10) (x * 10 + 10)) (m x) := by
  refine ⟨by have := h.size; simp; omega, fun y hy => ?_⟩
  rw [Array.getElem?_extract, if_pos (by have := h.size; omega)]
  exact h.at_ x y hx hy

theorem Mat.put {C : Array Value} {m : M} (h : Mat C m) {x y : Nat} (hx : x < 10) (hy : y < 10) {v : Int} (hv : I64 v) :
    Mat (C.setIfInBounds (x * 10 + y) (.int .i64 v)) (fun a b => if a = x ∧ b = y then v else m a b) := by
  refine ⟨by simp [h.size], fun a b ha hb => ?_, fun a b ha hb => ?_⟩
  · by_cases e : a = x ∧ b = y
    · obtain ⟨rfl, rfl⟩ := e
      rw [Array.getElem?_setIfInBounds_self_of_lt (by have := h.size; omega)]
      simp
    · rw [Array.getElem?_setIfInBounds_ne (by omega), h.at_ a b ha hb, if_neg e]
  · split
    · exact hv
    · exact h.bd a b ha hb

theorem Mat.unique {C D : Array Value} {m m' : M} (h : Mat C m) (h' : Mat D m') (e : ∀ x y, x < 10 → y < 10 → m x y = m' x y) : C = D := by
  apply Array.ext_getElem?
  intro k
  by_cases hk : k < 100
  · have h1 := h.at_ (k / 10) (k % 10) (by omega) (by omega)
    have h2 := h'.at_ (k / 10) (k % 10) (by omega) (by omega)
    rw [show k / 10 * 10 + k % 10 = k by omega] at h1 h2
    rw [h1, h2, e _ _ (by omega) (by omega)]
  · rw [Array.getElem?_eq_none (by have := h.size; omega), Array.getElem?_eq_none (by have := h'.size; omega)]

theorem Mat.one {C : Array Value} {m : M} (h : Mat C m) : C.all (·.oneCell') = true := by
  rw [Array.all_eq_true]
  intro k hk
  have h1 := h.at_ (k / 10) (k % 10) (by have := h.size; omega) (by omega)
  rw [show k / 10 * 10 + k % 10 = k by omega, Array.getElem?_eq_getElem hk] at h1
  rw [Option.some.inj h1]; rfl
theorem RowA.one {C : Array Value} {f : Nat → Int} (h : RowA C f) : C.all (·.oneCell') = true := by
  rw [Array.all_eq_true]
  intro k hk
  have h1 := h.at_ k (by have := h.size; omega)
  rw [Array.getElem?_eq_getElem hk] at h1
  rw [Option.some.inj h1]; rfl

theorem zeroMat : Mat Tryz.zeroCells24 (fun _ _ => 0) := by
  have hz : Tryz.zeroCells24 = Array.replicate 100 (.int .i64 0) := by kernel_rfl
  rw [hz]
  exact ⟨by simp, fun x y hx hy => by rw [Array.getElem?_replicate, if_pos (by omega)], fun _ _ _ _ => by unfold I64; omega⟩
theorem zeroRow : RowA #[.int .i64 0, .int .i64 0, .int .i64 0, .int .i64 0, .int .i64 0, .int .i64 0, .int .i64 0, .int .i64 0, .int .i64 0, .int .i64 0] (fun _ => 0) :=
  ⟨rfl, fun j hj => by
    have : j = 0 ∨ j = 1 ∨ j = 2 ∨ j = 3 ∨ j = 4 ∨ j = 5 ∨ j = 6 ∨ j = 7 ∨ j = 8 ∨ j = 9 := by omega
    rcases this with rfl | rfl | rfl | rfl | rfl | rfl | rfl | rfl | rfl | rfl <;> rfl⟩

theorem infoMat : (Tryz.prog.info? 24).map (·.size) = some 100 := by kernel_rfl
theorem infoRow : (Tryz.prog.info? 22).map (·.size) = some 10 := by kernel_rfl

section
variable {ops : Array Oper} {rest : List Oper} {o : Oper} {a : Act} {w : World} {Q : Exit → Act → World → Prop}

/-- A whole matrix is read. -/
theorem ldMat (hgd : o.guard = none) {x : Operand} (ho : o.op = .load 24 x) {g : Nat} (hx : a.eval x = .pointer (some ⟨g, 0, none⟩)) {C : Array Value} (hg : Has w g 24 C) (hs : C.size = 100)
    (h : wpList Tryz.prog ops Q rest (a.put o.dst (.agg C)) w) : wpList Tryz.prog ops Q (o :: rest) a w :=
  wpList_load_row hgd 24 x ho g hx _ C (0, 0) _ hg Tryz.underlying24 rfl (infoMat.trans (by rw [hs])) h
theorem ldRow (hgd : o.guard = none) {x : Operand} (ho : o.op = .load 22 x) {g : Nat} (hx : a.eval x = .pointer (some ⟨g, 0, none⟩)) {C : Array Value} (hg : Has w g 22 C) (hs : C.size = 10)
    (h : wpList Tryz.prog ops Q rest (a.put o.dst (.agg C)) w) : wpList Tryz.prog ops Q (o :: rest) a w :=
  wpList_load_row hgd 22 x ho g hx _ C (0, 0) _ hg Tryz.underlying22 rfl (infoRow.trans (by rw [hs])) h

/-- A whole matrix is stored. -/
theorem stMat (hgd : o.guard = none) {x y : Operand} (ho : o.op = .store 24 x y) {g : Nat} (hx : a.eval x = .pointer (some ⟨g, 0, none⟩)) {C D : Array Value} (hy : a.eval y = .agg D) (hg : Has w g 24 C) (hs : C.size = 100) (hD : D.size = 100) (h1 : D.all (·.oneCell') = true)
    (h : wpList Tryz.prog ops Q rest (a.put o.dst undef) (w.setRow g D)) : wpList Tryz.prog ops Q (o :: rest) a w :=
  wpList_plain hgd fun _ hK => wp_store_row 24 x y ho g D hx hy _ C hg (infoMat.trans (by rw [hD])) (by rw [hs, hD]) h1 (hK _ _ h)
theorem stRow (hgd : o.guard = none) {x y : Operand} (ho : o.op = .store 22 x y) {g : Nat} (hx : a.eval x = .pointer (some ⟨g, 0, none⟩)) {C D : Array Value} (hy : a.eval y = .agg D) (hg : Has w g 22 C) (hs : C.size = 10) (hD : D.size = 10) (h1 : D.all (·.oneCell') = true)
    (h : wpList Tryz.prog ops Q rest (a.put o.dst undef) (w.setRow g D)) : wpList Tryz.prog ops Q (o :: rest) a w :=
  wpList_plain hgd fun _ hK => wp_store_row 22 x y ho g D hx hy _ C hg (infoRow.trans (by rw [hD])) (by rw [hs, hD]) h1 (hK _ _ h)
end

/-- A row of a matrix, an element of a row, of values: two rules for the walk. -/
theorem ixMat {C R : Array Value} {x : Nat} (hx : x < 10) (hR : C.extract (x * 10) (x * 10 + 10) = R) :
    ∀ w : World, (Instr.index 24 (.agg C) (.int .i64 (x : Int))).run Tryz.prog w = .ok (.agg R) w := fun w => by
  have hu := Tryz.underlying24
  have h1 := Tryz.sizeOf22
  have h2 := Tryz.isAgg22
  simp [Instr.index, asIntOf, run_underlying hu, h1, h2, part, hx, hR]
theorem ixRow {R : Array Value} {f : Nat → Int} (hR : RowA R f) {y : Nat} (hy : y < 10) :
    ∀ w : World, (Instr.index 22 (.agg R) (.int .i64 (y : Int))).run Tryz.prog w = .ok (.int .i64 (f y)) w := fun w => by
  have hu := Tryz.underlying22
  have h1 := Tryz.sizeOf3
  have h2 := Tryz.isAgg3
  have h3 := hR.at_ y hy
  simp [Instr.index, asIntOf, run_underlying hu, h1, h2, part, hy, h3]

/-- A function hands back a matrix that lies in its result's variable; with an error beside it. -/
theorem retMat {fn : Func} {R : Ending → World → Prop} {a : Act} {w : World} {p g : Nat} {C : Array Value} (hr : fn.results = #[.cell p 24]) (hp : a.tmps.getD p undef = .pointer (some ⟨g, 0, none⟩))
    (hg : Has w g 24 C) (hs : C.size = 100) (hd : a.defers = []) (hR : R (.returned (.agg C)) w) : bodyPost Tryz.prog fn R .ret a w :=
  bodyPost_ret (results_cell_row hr _ _ g _ C _ _ hp hg Tryz.underlying24 rfl (infoMat.trans (by rw [hs]))) hd hR
theorem retMat2 {fn : Func} {R : Ending → World → Prop} {a : Act} {w : World} {p q g : Nat} {C : Array Value} {v : Value} (hr : fn.results = #[.cell p 24, .tmp q]) (hp : a.tmps.getD p undef = .pointer (some ⟨g, 0, none⟩))
    (hq : a.tmps.getD q undef = v) (hg : Has w g 24 C) (hs : C.size = 100) (hd : a.defers = []) (hR : R (.returned (.tuple #[.agg C, v])) w) : bodyPost Tryz.prog fn R .ret a w := by
  have hl := run_loadVar_row (P := Tryz.prog) w g _ 24 C (0, 0) _ hg Tryz.underlying24 rfl (infoMat.trans (by rw [hs]))
  refine bodyPost_ret (v := .tuple #[.agg C, v]) ?_ hd hR
  have hp' : a.tmps[p]?.getD undef = .pointer (some ⟨g, 0, none⟩) := by simpa using hp
  have hq' : a.tmps[q]?.getD undef = v := by simpa using hq
  simp [results, hr, hp', hq', asAddr, hl]
end Go.Proofs.YtolbceckbnifmaaGreat

namespace Go.Proofs.YtolbceckbnifmaaGreat
open Go.RowKit Go.Proofs

theorem run_forIn_all {P : Program} (p : Nat → Bool) (g : Nat → (Option Bool × PUnit) → Sem (ForInStep (Option Bool × PUnit))) :
    ∀ (l : List Nat), (∀ i ∈ l, ∀ w, (g i (none, ⟨⟩)).run P w = .ok (if p i then .yield (none, ⟨⟩) else .done (some false, ⟨⟩)) w) →
      ∀ w, (forIn l (none, ⟨⟩) g).run P w = .ok (if l.all p then (none, ⟨⟩) else (some false, ⟨⟩)) w
  | [], _, w => by simp
  | i :: l, h, w => by
    rw [List.forIn_cons, Sem.run_bind, h i (by simp) w]
    cases hp : p i with
    | true => simp only [Result.andThen_ok, if_true, hp, List.all_cons, Bool.true_and]; exact run_forIn_all p g l (fun j hj => h j (by simp [hj])) w
    | false => simp [Result.andThen_ok, hp]

theorem run_equal_row {R S : Array Value} {f g : Nat → Int} (hR : RowA R f) (hS : RowA S g) (d : Nat) (w : World) :
    (Op.equalIn (d + 2) 22 (.agg R) (.agg S)).run Tryz.prog w = .ok ((List.range 10).all fun y => decide (f y = g y)) w := by
  have hu := Tryz.underlying22
  have h1 := Tryz.sizeOf3
  have h2 := Tryz.isAgg3
  have hu3 := Tryz.underlying3
  rw [Op.equalIn]
  simp only [Sem.run_bind, run_underlying hu, Result.andThen_ok, h1]
  rw [Std.Legacy.Range.forIn_eq_forIn_range', run_forIn_all (fun y => decide (f y = g y))]
  · rw [show List.range' [:10].start [:10].size [:10].step = List.range 10 from by decide]
    cases (List.range 10).all fun y => decide (f y = g y) <;> rfl
  · intro i hi w
    have hi : i < 10 := by simpa using hi
    have r1 := hR.at_ i hi
    have r2 := hS.at_ i hi
    simp [Sem.run_bind, part, h2, r1, r2, run_equalIn_int w d 3 .i64 .i64 _ _ hu3]
    split <;> rfl

theorem run_equal_mat {C D : Array Value} {m m' : M} (hC : Mat C m) (hD : Mat D m') (d : Nat) (w : World) :
    (Op.equalIn (d + 3) 24 (.agg C) (.agg D)).run Tryz.prog w = .ok (matEq m m') w := by
  have hu := Tryz.underlying24
  have h1 := Tryz.sizeOf22
  have h2 := Tryz.isAgg22
  rw [Op.equalIn]
  simp only [Sem.run_bind, run_underlying hu, Result.andThen_ok, h1]
  rw [Std.Legacy.Range.forIn_eq_forIn_range', run_forIn_all (fun x => (List.range 10).all fun y => decide (m x y = m' x y))]
  · rw [show List.range' [:10].start [:10].size [:10].step = List.range 10 from by decide]
    unfold matEq all2
    cases (List.range 10).all fun x => (List.range 10).all fun y => decide (m x y = m' x y) <;> rfl
  · intro i hi w
    have hi : i < 10 := by simpa using hi
    have r := run_equal_row (hC.row hi) (hD.row hi) d w
    simp only [Sem.run_bind, part, h2, h1, Result.andThen_ok, Sem.run_pure, if_true, r]
    cases (List.range 10).all fun y => decide (m i y = m' i y) <;> rfl

/-- The rule for the walk. -/
theorem eqMat {C D : Array Value} {m m' : M} (hC : Mat C m) (hD : Mat D m') : ∀ w : World, (Op.equalIn 10000 24 (.agg C) (.agg D)).run Tryz.prog w = .ok (matEq m m') w :=
  fun w => run_equal_mat hC hD 9997 w
theorem eqGuardMat : Tryz.prog.eqGuardType Tryz.prog.depth 24 = false := by kernel_rfl
end Go.Proofs.YtolbceckbnifmaaGreat

namespace Go.Proofs.YtolbceckbnifmaaGreat
open Go.RowKit Go.Proofs

/-- The hundred cells of a matrix. -/
def canon (m : M) : Array Value := (Array.range 100).map fun k => .int .i64 (m (k / 10) (k % 10))
theorem canon_mat {m : M} (h : ∀ x y, x < 10 → y < 10 → I64 (m x y)) : Mat (canon m) m := by
  refine ⟨by simp [canon], fun x y hx hy => ?_, h⟩
  unfold canon
  rw [Array.getElem?_map, Array.getElem?_range, if_pos (by omega)]
  simp only [Option.map_some]
  rw [show (x * 10 + y) / 10 = x by omega, show (x * 10 + y) % 10 = y by omega]
theorem Mat.canon {C : Array Value} {m : M} (h : Mat C m) : C = canon m := h.unique (canon_mat h.bd) (fun _ _ _ _ => rfl)
theorem Mat.turned {C : Array Value} {m : M} (h : Mat C m) : Mat (Proofs.YtolbceckbnifmaaGreat.canon fun x y => m y x) (fun x y => m y x) := canon_mat (fun x y hx hy => h.bd y x hy hx)
theorem matEq_self (m : M) : matEq m m = true := matEq_iff.2 fun _ _ _ _ => rfl

/-- A whole matrix read inside a region that draws its order. -/
theorem run_ldMat {W : World} {g : Nat} {C : Array Value} (h : Has W g 24 C) (hs : C.size = 100) (q : Ext) : (loadVar 24 ⟨g, 0, none⟩).run Tryz.prog (More W q) = .ok (.agg C) (More W q) :=
  run_loadVar_row (P := Tryz.prog) _ g _ 24 C (0, 0) _ (h.below (more_below W q) h.lt) Tryz.underlying24 rfl (infoMat.trans (by rw [hs]))
theorem run_ldMatD {W : World} {g : Nat} {C : Array Value} (h : Has W g 24 C) (hs : C.size = 100) (q : Ext) : (loadVar 24 ⟨g, 0, none⟩).run Tryz.prog (More W q).drew = .ok (.agg C) (More W q).drew :=
  run_loadVar_row (P := Tryz.prog) _ g _ 24 C (0, 0) _ ((h.below (more_below W q) h.lt).drew) Tryz.underlying24 rfl (infoMat.trans (by rw [hs]))

/-- The cells of a block. -/
def cellsOf (w : World) (g : Nat) : Array Value := match w.heap[g]? with | some (.cells C _ _) => C | _ => #[]
/-- Block g is a matrix's variable. -/
def Good (w : World) (g : Nat) : Prop := Has w g 24 (cellsOf w g) ∧ (cellsOf w g).size = 100
theorem cells_eq {w : World} {g : Nat} {t : TypeId} {C : Array Value} (h : Has w g t C) : cellsOf w g = C := by unfold cellsOf; unfold Has at h; rw [h]
theorem good_of {w : World} {g : Nat} {C : Array Value} (h : Has w g 24 C) (hs : C.size = 100) : Good w g := by
  unfold Good; rw [cells_eq h]; exact ⟨h, hs⟩
/-- Whole matrices are read: rules for the walk; 'cells_eq' and 'good_of' lay what they ask. -/
def LDM (g : Nat) : Sem (Array Value) := loadCellsFrom ⟨g, 0, none⟩ 0 100 #[]
theorem ldm_fold (g : Nat) : loadCellsFrom ⟨g, 0, none⟩ 0 100 #[] = LDM g := rfl
theorem run_LDM {w : World} {g : Nat} (h : Good w g) : (LDM g).run Tryz.prog w = .ok (cellsOf w g) w := by
  have hl := run_loadCells_list (P := Tryz.prog) w ⟨g, 0, none⟩ (cellsOf w g).toList (fun j v hv => by
    have hadd : (⟨g, 0, none⟩ : Addr).add j = ⟨g, j, none⟩ := by unfold Addr.add; split <;> simp_all
    rw [hadd, h.1.cell, ← Array.getElem?_toList]; exact hv)
  rw [Array.length_toList, h.2, Array.toArray_toList] at hl
  exact hl
theorem run_LDM_more {W : World} {g : Nat} (q : Ext) (h : Good W g) : (LDM g).run Tryz.prog (More W q) = .ok (cellsOf W g) (More W q) := by
  have hb := h.1.below (more_below W q) h.1.lt
  rw [run_LDM (good_of hb h.2), cells_eq hb]
theorem run_LDM_drew {w : World} {g : Nat} (h : Good w g) : (LDM g).run Tryz.prog w.drew = .ok (cellsOf w g) w.drew := by
  have hb := h.1.drew
  rw [run_LDM (good_of hb h.2), cells_eq hb]
end Go.Proofs.YtolbceckbnifmaaGreat
