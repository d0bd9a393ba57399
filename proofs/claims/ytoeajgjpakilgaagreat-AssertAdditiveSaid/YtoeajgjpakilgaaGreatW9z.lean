/-
  The chapter's examples, in plain terms.
-/
import Derived.Test.YtoeajgjpakilgaaGreatW9u
import Derived.Test.YtoeajgjpakilgaaGreatW9x
import Derived.Test.YtoeajgjpakilgaaGreatW9e
import Derived.Test.YtoeajgjpakilgaaGreatW9q
namespace Go.Proofs.YtoeajgjpakilgaaGreat
open Go.RowKit Go.Proofs

def e1 : List Row := [([0, 1], 3)]
def e2 : List Row := [([0, 1], 3), ([1], 2)]
def e3 : List Row := [([0, 1], 4), ([1], 2)]
def eb : List Bal := [(1, [1]), (1, [0, 1]), (1, [0, 1]), (1, [1]), (1, [0, 1]), (1, [0, 1])]
theorem ex9_new : newErr 2 1 = 0 := by kernel_rfl
theorem ex9_new0 : newErr 0 1 ≠ 0 := by decide
theorem ex9_a1 : addP 2 1 [] 1 [0, 1] 3 = ⟨0, 2, 1, e1⟩ := by kernel_rfl
theorem ex9_a2 : addP 2 1 e1 1 [1] 2 = ⟨0, 2, 1, e2⟩ := by kernel_rfl
theorem ex9_a3 : addP 2 1 e2 1 [0, 1] 1 = ⟨0, 2, 1, e3⟩ := by kernel_rfl
theorem ex9_keep : turnP (fun ms => keptS 1 ms [false, true]) 2 1 e3 = ⟨0, 2, 1, [([1], 6)]⟩ := by kernel_rfl
theorem ex9_take : takeP 2 1 e3 1 [1] 2 = ⟨0, 2, 1, [([0, 1], 4)]⟩ := by kernel_rfl
theorem ex9_none : takeP 2 1 e3 1 [1] 3 = ⟨6, 0, 0, []⟩ := by kernel_rfl
theorem ex9_arg : addP 2 1 e3 1 [1] 0 = ⟨2, 0, 0, []⟩ := by kernel_rfl
theorem ex9_bad : addP 2 1 e3 2 [] 1 = ⟨8, 0, 0, []⟩ := by kernel_rfl
theorem ex9_many : addP 2 1 e3 1 [1] 1000000 = ⟨4, 0, 0, []⟩ := by kernel_rfl
theorem ex9_cnt : cntV 2 1 e3 anyRow = 6 := by kernel_rfl
theorem ex9_chk : checkS 2 1 e3 = 0 := by kernel_rfl
theorem ex9_chk0 : checkS 0 0 [] = 8 := by kernel_rfl
theorem ex9_make : makeP 2 1 eb = ⟨0, 2, 1, e3⟩ := by kernel_rfl
theorem ex9_full (l : List Row) (h : l.length = 65) : checkS 0 0 l = 9 := by unfold checkS; rw [if_pos (by omega)]
theorem ex9_same : sameB 2 1 e3 2 1 e3 = true := by kernel_rfl
theorem ex9_less : sameB 2 1 [([1], 6)] 2 1 e3 = false := by kernel_rfl

theorem ex9_mk (w : World) : (Instr.makeSlice 25 (.int .i64 65) (.int .i64 65)).run Tryz.prog w = .ok (.slice (some ⟨w.heap.size, 0, none⟩) 65 65) (w.alloc (.cells (Builtin.zeroCells #[.slice none 0 0, .int .i64 0] 65) 55)) := by kernel_rfl
theorem rows65 {w : World} {g : Nat} (h : Has w g 55 (Builtin.zeroCells #[.slice none 0 0, .int .i64 0] 65)) : RRows w (some ⟨g, 0, none⟩) 65 65 (List.replicate 65 ([], 0)) := by
  refine ⟨by simp, Nat.le_refl _, by omega, fun _ => ⟨g, 0, rfl, fun i hi => ?_⟩⟩
  have hg : (List.replicate 65 (([], 0) : Row)).getD i ([], 0) = ([], 0) := by rw [List.getD_eq_getElem?_getD, List.getElem?_replicate, if_pos hi]; rfl
  have hz : ∀ j, j < 130 → (Builtin.zeroCells #[.slice none 0 0, .int .i64 0] 65)[j]? = some (#[Value.slice none 0 0, .int .i64 0][j % 2]!) := fun j hj => by
    unfold Builtin.zeroCells; rw [Array.getElem?_map, Array.getElem?_range, if_pos (by simp; omega)]; rfl
  rw [hg]
  refine ⟨none, 0, 0, ?_, RInts.nil_ _, ?_, by simp⟩
  · rw [h.cell, Nat.zero_add, hz _ (by omega), show i * 2 % 2 = 0 by omega]; rfl
  · rw [h.cell, Nat.zero_add, hz _ (by omega), show (i * 2 + 1) % 2 = 1 by omega]; rfl
end Go.Proofs.YtoeajgjpakilgaaGreat

/-
  The chapter's examples.
-/
namespace Go.Proofs.YtoeajgjpakilgaaGreat
open Go.RowKit Go.Proofs
attribute [local go_sem] cell?_more cell?_alloc_some cell?_setCell_far frozen?_alloc_some frozen?_more
theorem rows9 {w : World} {a b g : Nat} (ha : Has w a 3 #[.int .i64 0, .int .i64 1]) (hb : Has w b 3 #[.int .i64 1])
    (hg : Has w g 55 #[.slice (some ⟨a, 0, none⟩) 2 2, .int .i64 4, .slice (some ⟨b, 0, none⟩) 1 1, .int .i64 2]) : RRows w (some ⟨g, 0, none⟩) 2 2 e3 := by
  have h1 : RInts w (some ⟨a, 0, none⟩) 2 2 [0, 1] := ints_of' [0, 1] ha (by decide) (by intro x hx; simp at hx; omega)
  have h2 : RInts w (some ⟨b, 0, none⟩) 1 1 [1] := ints_of' [1] hb (by decide) (by intro x hx; simp at hx; omega)
  refine ⟨rfl, Nat.le_refl _, by omega, fun _ => ⟨g, 0, rfl, fun i hi => ?_⟩⟩
  have : i = 0 ∨ i = 1 := by omega
  rcases this with rfl | rfl
  · exact ⟨_, 2, 2, hg.cell 0, h1, hg.cell 1, by simp [e3]⟩
  · exact ⟨_, 1, 1, hg.cell 2, h2, hg.cell 3, by simp [e3]⟩
theorem bals9 {w : World} {a b g : Nat} (ha : RInts w (some ⟨a, 0, none⟩) 2 2 [0, 1]) (hb : RInts w (some ⟨b, 0, none⟩) 1 1 [1])
    (hg : Has w g 29 #[.int .u8 1, .slice (some ⟨b, 0, none⟩) 1 1, .int .u8 1, .slice (some ⟨a, 0, none⟩) 2 2, .int .u8 1, .slice (some ⟨a, 0, none⟩) 2 2, .int .u8 1, .slice (some ⟨b, 0, none⟩) 1 1, .int .u8 1, .slice (some ⟨a, 0, none⟩) 2 2, .int .u8 1, .slice (some ⟨a, 0, none⟩) 2 2]) :
    RBals w (some ⟨g, 0, none⟩) 6 6 eb := by
  refine ⟨rfl, Nat.le_refl _, by omega, fun _ => ⟨g, 0, rfl, fun i hi => ?_⟩⟩
  have : i = 0 ∨ i = 1 ∨ i = 2 ∨ i = 3 ∨ i = 4 ∨ i = 5 := by omega
  rcases this with rfl | rfl | rfl | rfl | rfl | rfl
  · exact ⟨_, 1, 1, hg.cell 0, hg.cell 1, hb⟩
  · exact ⟨_, 2, 2, hg.cell 2, hg.cell 3, ha⟩
  · exact ⟨_, 2, 2, hg.cell 4, hg.cell 5, ha⟩
  · exact ⟨_, 1, 1, hg.cell 6, hg.cell 7, hb⟩
  · exact ⟨_, 2, 2, hg.cell 8, hg.cell 9, ha⟩
  · exact ⟨_, 2, 2, hg.cell 10, hg.cell 11, ha⟩
theorem bools9 {w : World} {g : Nat} (hg : Has w g 4 #[.bool false, .bool true]) : RBools w (some ⟨g, 0, none⟩) 2 2 [false, true] := by
  refine ⟨rfl, Nat.le_refl _, by omega, fun _ => ⟨g, 0, rfl, fun i hi => ?_⟩⟩
  have : i = 0 ∨ i = 1 := by omega
  rcases this with rfl | rfl
  · exact hg.cell 0
  · exact hg.cell 1

end Go.Proofs.YtoeajgjpakilgaaGreat
