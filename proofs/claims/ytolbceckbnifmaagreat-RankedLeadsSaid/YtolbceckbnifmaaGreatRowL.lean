/-
  What a slice of links that came in is.
-/
import Derived.Test.YtolbceckbnifmaaGreatRowK
import Derived.Test.YtolbceckbnifmaaGreatW14e
namespace Go.Proofs.YtolbceckbnifmaaGreat
open Go.ChangeShapes Go.WideShapes Go.ChangeAt Go.RowKit Go.Deep

theorem cellsLk : Tryz.prog.cellsOf 49 = 4 := by kernel_rfl
set_option maxRecDepth 100000
section
variable {H : Type} {enc : TypeId × Value → H} {W : World} {held : Bool}
theorem read_link {fuel : Nat} {cs : List Value} {x : DataW H × List MemPlace} (h : DataW.trod enc Tryz.prog W 0 (fun _ => true) held fuel 49 cs = some x) : ∃ k, ELnk W cs k := by
  obtain ⟨xs, n, _, _, hlen, hxl, hf⟩ := DataW.trod_struct Tryz.underlying49 h
  rw [cellsLk] at hlen
  match cs, hlen with
  | [c0, c1, c2, c3], _ =>
    have g0 := hf 0 _ rfl
    have g1 := hf 1 _ rfl
    have g2 := hf 2 _ rfl
    have g3 := hf 3 _ rfl
    have hx : xs.length = 4 := by rw [hxl]; rfl
    rw [List.getElem?_eq_getElem (by omega)] at g0 g1 g2 g3
    obtain ⟨a, e0, _, w0⟩ := DataW.trod_int (cs := [c0]) Tryz.underlying3 g0
    obtain ⟨b, e1, _, w1⟩ := DataW.trod_int (cs := [c1]) Tryz.underlying3 g1
    obtain ⟨c, e2, _, w2⟩ := DataW.trod_int (cs := [c2]) Tryz.underlying3 g2
    obtain ⟨d, e3, _, w3⟩ := DataW.trod_int (cs := [c3]) Tryz.underlying3 g3
    cases e0; cases e1; cases e2; cases e3
    exact ⟨(a, b, c, d), rfl, i64_of_wf w0, i64_of_wf w1, i64_of_wf w2, i64_of_wf w3⟩
theorem read_lnks {fuel : Nat} {u : Value} {x : DataW H × List MemPlace} (h : DataW.trod enc Tryz.prog W 0 (fun _ => true) held fuel 32 [u] = some x) :
    ∃ A n c l, u = .slice A n c ∧ RAgg ELnk 4 W A n c l := by
  rcases open_slice Tryz.underlying32 h with ⟨e, _⟩ | ⟨a, len, cap, m, n0, D, Pl, e, _, hl, hm, hmm, _, hc⟩
  · cases e; exact ⟨none, 0, 0, [], rfl, RAgg.nil_ _ _ _⟩
  · cases e
    simp only [if_true] at hmm
    have hm' : cap ≤ 9223372036854775807 := by unfold maxLen at hm; omega
    have each : ∀ i, i < len → ∃ q : List Value × Lk, q.1.length = 4 ∧ (∀ j u, q.1[j]? = some u → W.cell? ((a.add (i * 4)).add j) = some u) ∧ ELnk W q.1 q.2 := by
      intro i hi
      obtain ⟨cs', h1, h2⟩ := hc i (by omega)
      rw [cellsLk] at h1
      obtain ⟨_, hlen, hcell⟩ := World.cells?_some h1
      obtain ⟨o, ho⟩ := read_link h2
      exact ⟨(cs', o), hlen, fun j u hj => by
        have hj4 : j < 4 := by rw [← hlen]; exact (List.getElem?_eq_some_iff.1 hj).1
        rw [hcell j hj4]; exact hj, ho⟩
    obtain ⟨q, hq⟩ := choose_lt each
    refine ⟨some a, len, cap, (List.range len).map fun i => (q i).2, rfl, by simp, hl, hm', fun hn => ?_⟩
    obtain ⟨h6, hc0, _⟩ := hq 0 hn
    have h00 := hc0 0 ((q 0).1[0]'(by omega)) (List.getElem?_eq_getElem _)
    rw [show (a.add (0 * 4)).add 0 = a from rfl] at h00
    have ha := addr_of_cell h00
    refine ⟨a.block, a.off, by rw [← ha], fun i hi => ?_⟩
    obtain ⟨h1, h2, h3⟩ := hq i hi
    refine ⟨(q i).1, (q i).2, by rw [List.getElem?_map, List.getElem?_range hi]; rfl, h1, fun j u hj => ?_, h3⟩
    have := h2 j u hj
    rw [ha, add_plain, add_plain] at this
    exact this
theorem read_links {base : Nat} {v : Value} {d : DataW H} {p : List MemPlace} (hv : Value.okWide Tryz.prog W .any base 32 v) (h : DataW.Trod enc Tryz.prog W 0 (fun _ => true) held 32 v d p) :
    ∃ A n c l, v = .slice A n c ∧ RAgg ELnk 4 W A n c l := by
  obtain ⟨a, n, c, rfl⟩ := okWide_slice Tryz.underlying32 hv
  obtain ⟨fuel, hf⟩ := h
  exact read_lnks hf
end
end Go.Proofs.YtolbceckbnifmaaGreat
