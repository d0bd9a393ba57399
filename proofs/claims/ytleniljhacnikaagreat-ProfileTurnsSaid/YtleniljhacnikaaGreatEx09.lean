/-
  The chapter's examples, in plain terms.
-/
import Derived.Test.YtleniljhacnikaaGreatW9v
import Derived.Test.YtleniljhacnikaaGreatW9x
import Derived.Test.YtleniljhacnikaaGreatW9r
import Derived.Test.YtleniljhacnikaaGreatW9e
namespace Go.Proofs.YtleniljhacnikaaGreat
open Go.RowKit Go.Proofs

def e1 : List Row := [([0, 1], 3)]
def e2 : List Row := [([0, 1], 3), ([1], 2)]
def e3 : List Row := [([0, 1], 4), ([1], 2)]
def eb : List Bal := [(1, [1]), (1, [0, 1]), (1, [0, 1]), (1, [1]), (1, [0, 1]), (1, [0, 1])]
theorem ex9_new : newErr 2 1 = 0 := by kernel_rfl
theorem ex9_new0 : newErr 0 1 ≠ 0 := by decide
theorem ex9_a1 : addP 2 1 [] 1 [0, 1] 3 = ⟨0, 2, 1, e1⟩ := by kernel_rfl
theorem ex9_a2 : addP 2 1 e1 1 [1] 2 = ⟨0, 2, 1, e2⟩ := by kernel_rfl
theorem ex9_a3 : addP 2 1 e2 1 [0, 1] 1 = ⟨0, 2, 1, e3⟩ := by kernel_rfl
theorem ex9_keep : turnP (fun ms => keptS 1 ms [false, true]) 2 1 e3 = ⟨0, 2, 1, [([1], 6)]⟩ := by kernel_rfl
theorem ex9_take : takeP 2 1 e3 1 [1] 2 = ⟨0, 2, 1, [([0, 1], 4)]⟩ := by kernel_rfl
theorem ex9_none : takeP 2 1 e3 1 [1] 3 = ⟨6, 0, 0, []⟩ := by kernel_rfl
theorem ex9_arg : addP 2 1 e3 1 [1] 0 = ⟨2, 0, 0, []⟩ := by kernel_rfl
theorem ex9_bad : addP 2 1 e3 2 [] 1 = ⟨8, 0, 0, []⟩ := by kernel_rfl
theorem ex9_many : addP 2 1 e3 1 [1] 1000000 = ⟨4, 0, 0, []⟩ := by kernel_rfl
theorem ex9_cnt : cntV 2 1 e3 anyRow = 6 := by kernel_rfl
theorem ex9_chk : checkS 2 1 e3 = 0 := by kernel_rfl
theorem ex9_chk0 : checkS 0 0 [] = 8 := by kernel_rfl
theorem ex9_make : makeP 2 1 eb = ⟨0, 2, 1, e3⟩ := by kernel_rfl
theorem ex9_full (l : List Row) (h : l.length = 65) : checkS 0 0 l = 9 := by unfold checkS; rw [if_pos (by omega)]
theorem ex9_same : sameB 2 1 e3 2 1 e3 = true := by kernel_rfl
theorem ex9_less : sameB 2 1 [([1], 6)] 2 1 e3 = false := by kernel_rfl

theorem ex9_mk (w : World) : (Instr.makeSlice 22 (.int .i64 65) (.int .i64 65)).run Tryz.prog w = .ok (.slice (some ⟨w.heap.size, 0, none⟩) 65 65) (w.alloc (.cells (Builtin.zeroCells #[.slice none 0 0, .int .i64 0] 65) 47)) := by kernel_rfl
theorem rows65 {w : World} {g : Nat} (h : Has w g 47 (Builtin.zeroCells #[.slice none 0 0, .int .i64 0] 65)) : RRows w (some ⟨g, 0, none⟩) 65 65 (List.replicate 65 ([], 0)) := by
  refine ⟨by simp, Nat.le_refl _, by omega, fun _ => ⟨g, 0, rfl, fun i hi => ?_⟩⟩
  have hg : (List.replicate 65 (([], 0) : Row)).getD i ([], 0) = ([], 0) := by rw [List.getD_eq_getElem?_getD, List.getElem?_replicate, if_pos hi]; rfl
  have hz : ∀ j, j < 130 → (Builtin.zeroCells #[.slice none 0 0, .int .i64 0] 65)[j]? = some (#[Value.slice none 0 0, .int .i64 0][j % 2]!) := fun j hj => by
    unfold Builtin.zeroCells; rw [Array.getElem?_map, Array.getElem?_range, if_pos (by simp; omega)]; rfl
  rw [hg]
  refine ⟨none, 0, 0, ?_, RInts.nil_ _, ?_, by simp⟩
  · rw [h.cell, Nat.zero_add, hz _ (by omega), show i * 2 % 2 = 0 by omega]; rfl
  · rw [h.cell, Nat.zero_add, hz _ (by omega), show (i * 2 + 1) % 2 = 1 by omega]; rfl
end Go.Proofs.YtleniljhacnikaaGreat
