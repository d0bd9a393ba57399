/-
  A matrix read as an argument of a row.
-/
import Derived.Test.YtolbceckbnifmaaGreatRowK
import Derived.Test.YtolbceckbnifmaaGreatMat
namespace Go.Proofs.YtolbceckbnifmaaGreat
open Go.ChangeShapes Go.WideShapes Go.ChangeAt Go.RowKit Go.Deep

theorem cellsLine : Tryz.prog.cellsOf 22 = 10 := by kernel_rfl
theorem cellsPairs : Tryz.prog.cellsOf 24 = 100 := by kernel_rfl
section
variable {H : Type} {enc : TypeId × Value → H} {W : World} {held : Bool}
set_option maxRecDepth 100000 in
/-- A matrix. -/
theorem read_mat {base : Nat} {v : Value} {d : DataW H} {p : List MemPlace} (hv : Value.okWide Tryz.prog W .any base 24 v) (h : DataW.Trod enc Tryz.prog W 0 (fun _ => true) held 24 v d p) :
    ∃ C m, v = .agg C ∧ Mat C m := by
  unfold Value.okWide at hv
  rw [Tryz.underlying24] at hv
  obtain ⟨C, rfl, hs, _⟩ := hv
  rw [cellsPairs] at hs
  obtain ⟨fuel, hf⟩ := h
  obtain ⟨xs, m1, _, _, _, hn, hel⟩ := DataW.trod_array Tryz.underlying24 hf
  have each : ∀ x y, x < 10 → y < 10 → ∃ z, C[x * 10 + y]? = some (.int .i64 z) ∧ I64 z := by
    intro x y hx hy
    have h1 := hel x hx
    rw [cellsLine, List.getElem?_eq_getElem (by omega)] at h1
    obtain ⟨ys, m2, _, _, _, hn2, hel2⟩ := DataW.trod_array Tryz.underlying22 h1
    have h2 := hel2 y hy
    rw [cellsInt, List.getElem?_eq_getElem (by omega)] at h2
    obtain ⟨z, e, _, hz⟩ := DataW.trod_int Tryz.underlying3 h2
    refine ⟨z, ?_, i64_of_wf hz⟩
    have : ((((C.toList.drop (x * 10)).take 10).drop (y * 1)).take 1)[0]? = some (.int .i64 z) := by
      have e' := e
      simp only [Value.cells] at e'
      rw [e']; rfl
    rw [List.getElem?_take_of_lt (by omega), List.getElem?_drop, List.getElem?_take_of_lt (by omega), List.getElem?_drop] at this
    rw [← Array.getElem?_toList, ← this]
    congr 1
    omega
  have get : ∀ x y : Nat, ∃ z : Int, x < 10 → y < 10 → C[x * 10 + y]? = some (.int .i64 z) ∧ I64 z := fun x y => by
    by_cases hxy : x < 10 ∧ y < 10
    · obtain ⟨z, hz⟩ := each x y hxy.1 hxy.2; exact ⟨z, fun _ _ => hz⟩
    · exact ⟨0, fun hx hy => absurd ⟨hx, hy⟩ hxy⟩
  refine ⟨C, fun x y => (get x y).choose, rfl, hs, fun x y hx hy => ((get x y).choose_spec hx hy).1, fun x y hx hy => ((get x y).choose_spec hx hy).2⟩
end
end Go.Proofs.YtolbceckbnifmaaGreat
