/-
  Several variables in memory at once; a matrix in one spelling.
-/
import Derived.Test.YtcmoekkaakkpjaaGreatMat
import Derived.Test.YtcmoekkaakkpjaaGreatOwn
namespace Go.Proofs.YtcmoekkaakkpjaaGreat
open Go.RowKit Go.Proofs

/-- The hundred cells of a matrix. -/
def canon (m : M) : Array Value := (Array.range 100).map fun k => .int .i64 (m (k / 10) (k % 10))
theorem canon_mat {m : M} (h : ∀ x y, x < 10 → y < 10 → I64 (m x y)) : Mat (canon m) m := by
  refine ⟨by simp [canon], fun x y hx hy => ?_, h⟩
  unfold canon
  rw [Array.getElem?_map, Array.getElem?_range, if_pos (by omega)]
  simp only [Option.map_some]
  rw [show (x * 10 + y) / 10 = x by omega, show (x * 10 + y) % 10 = y by omega]
theorem Mat.canon {C : Array Value} {m : M} (h : Mat C m) : C = canon m := h.unique (canon_mat h.bd) (fun _ _ _ _ => rfl)
theorem Mat.turned {C : Array Value} {m : M} (h : Mat C m) : Mat (Proofs.YtcmoekkaakkpjaaGreat.canon fun x y => m y x) (fun x y => m y x) := canon_mat (fun x y hx hy => h.bd y x hy hx)
theorem matEq_self (m : M) : matEq m m = true := matEq_iff.2 fun _ _ _ _ => rfl

/-- A whole matrix read inside a region that draws its order. -/
theorem run_ldMat {W : World} {g : Nat} {C : Array Value} (h : Has W g 72 C) (hs : C.size = 100) (q : Ext) : (loadVar 72 ⟨g, 0, none⟩).run Tryz.prog (More W q) = .ok (.agg C) (More W q) :=
  run_loadVar_row (P := Tryz.prog) _ g _ 72 C (0, 0) _ (h.below (more_below W q) h.lt) Tryz.underlying72 rfl (infoMat.trans (by rw [hs]))
theorem run_ldMatD {W : World} {g : Nat} {C : Array Value} (h : Has W g 72 C) (hs : C.size = 100) (q : Ext) : (loadVar 72 ⟨g, 0, none⟩).run Tryz.prog (More W q).drew = .ok (.agg C) (More W q).drew :=
  run_loadVar_row (P := Tryz.prog) _ g _ 72 C (0, 0) _ ((h.below (more_below W q) h.lt).drew) Tryz.underlying72 rfl (infoMat.trans (by rw [hs]))

/-- The cells of a block. -/
def cellsOf (w : World) (g : Nat) : Array Value := match w.heap[g]? with | some (.cells C _ _) => C | _ => #[]
/-- Block g is a matrix's variable. -/
def Good (w : World) (g : Nat) : Prop := Has w g 72 (cellsOf w g) ∧ (cellsOf w g).size = 100
theorem cells_eq {w : World} {g : Nat} {t : TypeId} {C : Array Value} (h : Has w g t C) : cellsOf w g = C := by unfold cellsOf; unfold Has at h; rw [h]
theorem good_of {w : World} {g : Nat} {C : Array Value} (h : Has w g 72 C) (hs : C.size = 100) : Good w g := by
  unfold Good; rw [cells_eq h]; exact ⟨h, hs⟩
/-- Whole matrices are read: rules for the walk; 'cells_eq' and 'good_of' lay what they ask. -/
def LDM (g : Nat) : Sem (Array Value) := loadCellsFrom ⟨g, 0, none⟩ 0 100 #[]
theorem ldm_fold (g : Nat) : loadCellsFrom ⟨g, 0, none⟩ 0 100 #[] = LDM g := rfl
theorem run_LDM {w : World} {g : Nat} (h : Good w g) : (LDM g).run Tryz.prog w = .ok (cellsOf w g) w := by
  have hl := run_loadCells_list (P := Tryz.prog) w ⟨g, 0, none⟩ (cellsOf w g).toList (fun j v hv => by
    have hadd : (⟨g, 0, none⟩ : Addr).add j = ⟨g, j, none⟩ := by unfold Addr.add; split <;> simp_all
    rw [hadd, h.1.cell, ← Array.getElem?_toList]; exact hv)
  rw [Array.length_toList, h.2, Array.toArray_toList] at hl
  exact hl
theorem run_LDM_more {W : World} {g : Nat} (q : Ext) (h : Good W g) : (LDM g).run Tryz.prog (More W q) = .ok (cellsOf W g) (More W q) := by
  have hb := h.1.below (more_below W q) h.1.lt
  rw [run_LDM (good_of hb h.2), cells_eq hb]
theorem run_LDM_drew {w : World} {g : Nat} (h : Good w g) : (LDM g).run Tryz.prog w.drew = .ok (cellsOf w g) w.drew := by
  have hb := h.1.drew
  rw [run_LDM (good_of hb h.2), cells_eq hb]
end Go.Proofs.YtcmoekkaakkpjaaGreat
