/-
  What an argument that came in is: a ballot, a slice of ballots, a byte.
-/
import Derived.Test.YtleniljhacnikaaRowK
import Derived.Test.YtleniljhacnikaaW9x
namespace Go.Proofs.Ytleniljhacnikaa
open Go.ChangeShapes Go.WideShapes Go.ChangeAt Go.RowKit Go.Deep

theorem cellsBallot : Try.prog.cellsOf 63 = 2 := by kernel_rfl
theorem cellsU8 : Try.prog.cellsOf 5 = 1 := by kernel_rfl

set_option maxRecDepth 100000
section
variable {H : Type} {enc : TypeId × Value → H} {W : World} {held : Bool}
theorem read_ballot {base : Nat} {v : Value} {d : DataW H} {p : List MemPlace} (hv : Value.okWide Try.prog W .any base 63 v) (h : DataW.Trod enc Try.prog W 0 (fun _ => true) held 63 v d p) :
    ∃ k A n c xs, v = .agg #[.int .u8 k, .slice A n c] ∧ RInts W A n c xs ∧ 0 ≤ k ∧ k ≤ 255 := by
  obtain ⟨v0, v1, y0, y1, n, rfl, _, _, h0, h1⟩ := Go.Joins.open_agg2 Try.underlying63 (by kernel_rfl) cellsBallot hv h
  obtain ⟨k, e0, _, w0⟩ := DataW.trod_int Try.underlying5 h0
  obtain ⟨A, n', c, xs, e1, hr⟩ := read_ints h1
  cases e0; subst e1
  exact ⟨k, A, n', c, xs, rfl, hr, u8_of_wf w0⟩
theorem read_u8 {base : Nat} {v : Value} {d : DataW H} {p : List MemPlace} (hv : Value.okWide Try.prog W .any base 5 v) (h : DataW.Trod enc Try.prog W 0 (fun _ => true) held 5 v d p) :
    ∃ z, v = .int .u8 z ∧ 0 ≤ z ∧ z ≤ 255 := by
  obtain ⟨z, rfl⟩ := okWide_int Try.underlying5 hv
  obtain ⟨fuel, hf⟩ := h
  obtain ⟨z', e, _, hz⟩ := DataW.trod_int Try.underlying5 hf
  cases e
  exact ⟨z, rfl, u8_of_wf hz⟩
theorem read_ballots {base : Nat} {v : Value} {d : DataW H} {p : List MemPlace} (hv : Value.okWide Try.prog W .any base 60 v) (h : DataW.Trod enc Try.prog W 0 (fun _ => true) held 60 v d p) :
    ∃ A n c bl, v = .slice A n c ∧ RBals W A n c bl := by
  obtain ⟨a, n, c, rfl⟩ := okWide_slice Try.underlying60 hv
  obtain ⟨fuel, h⟩ := h
  rcases open_slice_pairs Try.underlying60 Try.underlying63 cellsBallot rfl rfl cellsU8 cellsInts h with ⟨e, _⟩ | ⟨a', len, cap, m0, n0, V0, V1, D0, D1, P0, P1, e, _, hl, hm, hmm, _, hc⟩
  · cases e; exact ⟨none, 0, 0, [], rfl, RBals.nil_ W⟩
  · cases e
    simp only [if_true] at hmm
    have hm' : c ≤ 9223372036854775807 := by unfold maxLen at hm; omega
    have each : ∀ i, i < n → ∃ q : Bal, ∃ Am nm cm, W.cell? (a'.add (i * 2)) = some (.int .u8 q.1) ∧ W.cell? (a'.add (i * 2 + 1)) = some (.slice Am nm cm) ∧ RInts W Am nm cm q.2 := by
      intro i hi
      obtain ⟨h1, h2, h3, h4⟩ := hc i (by omega)
      obtain ⟨z, e2, _, hz⟩ := DataW.trod_int Try.underlying5 h3
      obtain ⟨Am, nm, cm, xs, e1, hr⟩ := read_ints h4
      have e2 := (List.cons.inj e2).1
      exact ⟨(z, xs), Am, nm, cm, by rw [h1, e2], by rw [h2, e1], hr⟩
    obtain ⟨q, hq⟩ := choose_lt each
    refine ⟨some a', n, c, (List.range n).map q, rfl, by simp, hl, hm', fun hn => ?_⟩
    obtain ⟨_, _, _, h0, _⟩ := hq 0 hn
    rw [show a'.add (0 * 2) = a' from rfl] at h0
    have ha := addr_of_cell h0
    refine ⟨a'.block, a'.off, by rw [← ha], fun i hi => ?_⟩
    obtain ⟨Am, nm, cm, h1, h2, h3⟩ := hq i hi
    rw [ha, add_plain] at h1 h2
    have hg : ((List.range n).map q).getD i (0, []) = q i := by simp [List.getD, hi]
    rw [hg]
    exact ⟨Am, nm, cm, h1, by rw [Nat.add_assoc]; exact h2, h3⟩
end
end Go.Proofs.Ytleniljhacnikaa
