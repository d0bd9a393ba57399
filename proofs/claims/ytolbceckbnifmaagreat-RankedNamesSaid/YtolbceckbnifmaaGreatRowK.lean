/-
  What an argument that came in is: a profile, a slice of numbers; what a law's row asks in the end.
  What an argument that came in is: a slice of truth values.
-/
import Derived.Test.YtolbceckbnifmaaGreatRows
import Derived.ProofKit
import Derived.OpenShut
import Derived.Lib.SmallJoins
import Derived.Deep.SlicePairs
import Derived.Test.YtolbceckbnifmaaGreatW8f
import Derived.Deep.Grids
namespace Go.Proofs.YtolbceckbnifmaaGreat
open Go.ChangeShapes Go.WideShapes Go.ChangeAt Go.RowKit Go.Deep

theorem ownK : ownKnob Tryz.prog.godebug = none := by kernel_rfl
theorem laidK : laidOutB Tryz.prog = true := by kernel_rfl
theorem cellsInt : Tryz.prog.cellsOf 3 = 1 := by kernel_rfl
theorem cellsInts : Tryz.prog.cellsOf 28 = 1 := by kernel_rfl
theorem cellsRow : Tryz.prog.cellsOf 80 = 2 := by kernel_rfl
theorem cellsRows : Tryz.prog.cellsOf 25 = 1 := by kernel_rfl
theorem cellsProfile : Tryz.prog.cellsOf 27 = 3 := by kernel_rfl

set_option maxRecDepth 100000

section
variable {H : Type} {enc : TypeId × Value → H} {W : World} {held : Bool}

theorem addr_of_cell {w : World} {a : Addr} {v : Value} (h : w.cell? a = some v) : a = ⟨a.block, a.off, none⟩ := by
  obtain ⟨b, o, s⟩ := a
  cases s with
  | none => rfl
  | some x =>
    simp only [World.cell?, Option.isSome_some, if_true] at h
    split at h <;> cases h
theorem add_plain (b o i : Nat) : (⟨b, o, none⟩ : Addr).add i = ⟨b, o + i, none⟩ := by
  unfold Addr.add
  split
  · rename_i h; subst h; rfl
  · rfl
theorem i64_of_wf {z : Int} (h : (Lit.int .i64 z).wf = true) : -9223372036854775808 ≤ z ∧ z ≤ 9223372036854775807 := by
  simpa [Lit.wf, IntKind.min, IntKind.max, IntKind.signed, IntKind.bits] using h
theorem u8_of_wf {z : Int} (h : (Lit.int .u8 z).wf = true) : 0 ≤ z ∧ z ≤ 255 := by
  simpa [Lit.wf, IntKind.min, IntKind.max, IntKind.signed, IntKind.bits] using h

/-- A slice of numbers. -/
theorem read_ints {fuel : Nat} {u : Value} {x : DataW H × List MemPlace} (h : DataW.trod enc Tryz.prog W 0 (fun _ => true) held fuel 28 [u] = some x) :
    ∃ A n c xs, u = .slice A n c ∧ RInts W A n c xs := by
  rcases open_ints Tryz.underlying28 Tryz.underlying3 cellsInt h with ⟨e, _⟩ | ⟨a, len, cap, zs, e, _, hl, hm, hz, _, hc, hw⟩
  · cases e; exact ⟨none, 0, 0, [], rfl, RInts.nil_ W⟩
  · cases e
    simp only [if_true] at hz
    have hm' : cap ≤ 9223372036854775807 := by unfold maxLen at hm; omega
    refine ⟨some a, len, cap, zs.take len, rfl, by simp; omega, hl, hm', fun y hy => i64_of_wf (hw y (List.mem_of_mem_take hy)), fun hn => ?_⟩
    have h0 := hc 0 (by omega)
    rw [show a.add 0 = a from rfl] at h0
    have ha := addr_of_cell h0
    refine ⟨a.block, a.off, by rw [← ha], fun i hi => ?_⟩
    have := hc i (by omega)
    rw [ha, add_plain] at this
    rw [this]
    simp [List.getD, hi]

/-- A slice of rows. -/
theorem read_rows {fuel : Nat} {u : Value} {x : DataW H × List MemPlace} (h : DataW.trod enc Tryz.prog W 0 (fun _ => true) held fuel 25 [u] = some x) :
    ∃ A n c l, u = .slice A n c ∧ RRows W A n c l := by
  rcases open_slice_pairs Tryz.underlying25 Tryz.underlying80 cellsRow rfl rfl cellsInts cellsInt h with ⟨e, _⟩ | ⟨a, len, cap, m, n, V0, V1, D0, D1, P0, P1, e, _, hl, hm, hmm, _, hc⟩
  · cases e; exact ⟨none, 0, 0, [], rfl, RRows.nil_ W⟩
  · cases e
    simp only [if_true] at hmm
    have hm' : cap ≤ 9223372036854775807 := by unfold maxLen at hm; omega
    have each : ∀ i, i < len → ∃ q : Row, ∃ Am nm cm, W.cell? (a.add (i * 2)) = some (.slice Am nm cm) ∧ RInts W Am nm cm q.1 ∧ W.cell? (a.add (i * 2 + 1)) = some (.int .i64 q.2) ∧ -9223372036854775808 ≤ q.2 ∧ q.2 ≤ 9223372036854775807 := by
      intro i hi
      obtain ⟨h1, h2, h3, h4⟩ := hc i (by omega)
      obtain ⟨Am, nm, cm, xs, e1, hr⟩ := read_ints h3
      obtain ⟨z, e2, _, hz⟩ := DataW.trod_int Tryz.underlying3 h4
      have e2 := (List.cons.inj e2).1
      exact ⟨(xs, z), Am, nm, cm, by rw [h1, e1], hr, by rw [h2, e2], i64_of_wf hz⟩
    obtain ⟨q, hq⟩ := choose_lt each
    refine ⟨some a, len, cap, (List.range len).map q, rfl, by simp, hl, hm', fun hn => ?_⟩
    obtain ⟨_, _, _, h0, _⟩ := hq 0 hn
    rw [show a.add (0 * 2) = a from rfl] at h0
    have ha := addr_of_cell h0
    refine ⟨a.block, a.off, by rw [← ha], fun i hi => ?_⟩
    obtain ⟨Am, nm, cm, h1, h2, h3, h4⟩ := hq i hi
    rw [ha, add_plain] at h1 h3
    have hg : ((List.range len).map q).getD i ([], 0) = q i := by simp [List.getD, hi]
    rw [hg]
    exact ⟨Am, nm, cm, h1, h2, by rw [Nat.add_assoc]; exact h3, h4⟩

/-- A profile. -/
theorem read_profile {base : Nat} {v : Value} {d : DataW H} {p : List MemPlace} (hv : Value.okWide Tryz.prog W .any base 27 v) (h : DataW.Trod enc Tryz.prog W 0 (fun _ => true) held 27 v d p) :
    ∃ c k A n cp l, v = .agg #[.int .i64 c, .int .u8 k, .slice A n cp] ∧ RRows W A n cp l ∧ (-9223372036854775808 ≤ c ∧ c ≤ 9223372036854775807) ∧ 0 ≤ k ∧ k ≤ 255 := by
  obtain ⟨v0, v1, v2, y0, y1, y2, n, rfl, _, _, h0, h1, h2⟩ := Go.Joins.open_agg3 Tryz.underlying27 (by kernel_rfl) cellsProfile hv h
  obtain ⟨c, e0, _, w0⟩ := DataW.trod_int Tryz.underlying3 h0
  obtain ⟨k, e1, _, w1⟩ := DataW.trod_int Tryz.underlying5 h1
  obtain ⟨A, n', cp, l, e2, hr⟩ := read_rows h2
  cases e0; cases e1; subst e2
  exact ⟨c, k, A, n', cp, l, rfl, hr, i64_of_wf w0, u8_of_wf w1⟩

/-- A number. -/
theorem read_int {base : Nat} {v : Value} {d : DataW H} {p : List MemPlace} (hv : Value.okWide Tryz.prog W .any base 3 v) (h : DataW.Trod enc Tryz.prog W 0 (fun _ => true) held 3 v d p) :
    ∃ z, v = .int .i64 z ∧ I64 z := by
  obtain ⟨z, rfl⟩ := okWide_int Tryz.underlying3 hv
  obtain ⟨fuel, hf⟩ := h
  obtain ⟨z', e, _, hz⟩ := DataW.trod_int Tryz.underlying3 hf
  cases e
  exact ⟨z, rfl, i64_of_wf hz⟩
theorem read_slice {base : Nat} {v : Value} {d : DataW H} {p : List MemPlace} (hv : Value.okWide Tryz.prog W .any base 28 v) (h : DataW.Trod enc Tryz.prog W 0 (fun _ => true) held 28 v d p) :
    ∃ A n c xs, v = .slice A n c ∧ RInts W A n c xs := by
  obtain ⟨a, n, c, rfl⟩ := okWide_slice Tryz.underlying28 hv
  obtain ⟨fuel, hf⟩ := h
  exact read_ints hf
end

/-- What came in reads as it did. -/
theorem all_stays {H : Type} {enc : TypeId × Value → H} {W W' : World} (hb : Below W.heap.size W W') : ∀ {ts : List TypeId} {vs : List Value} {ds : List (DataW H)} {p : List MemPlace},
    (∀ t ∈ ts, Tryz.prog.readableRec t = true ∧ t < Tryz.prog.types.size) → (∀ x ∈ p, x.block < W.heap.size) → DataW.TrodAll enc Tryz.prog W 0 (fun _ => true) true ts vs ds p →
    DataW.TrodAll enc Tryz.prog W' 0 (fun b => decide (b < W.heap.size)) true ts vs ds p
  | [], vs, ds, p, _, _, h => by
    obtain ⟨rfl, rfl, rfl⟩ := trodAll_nil h
    exact trodAll_mk0
  | t :: ts, vs, ds, p, ht, hp, h => by
    obtain ⟨v, vs', d, ds', p1, p2, rfl, rfl, rfl, h1, h2⟩ := trodAll_cons h
    have h0 := ht t (List.mem_cons_self ..)
    exact ⟨p1, p2, Below.trod laidK h0.1 h0.2 h1 hb (fun x hx => hp x (List.mem_append_left _ hx)),
      all_stays hb (fun t ht' => ht t (List.mem_cons_of_mem _ ht')) (fun x hx => hp x (List.mem_append_right _ hx)) h2, rfl⟩

theorem params_ok (l : List TypeId) (h : (l.all fun t => Tryz.prog.readableRec t && decide (t < Tryz.prog.types.size)) = true) : ∀ t ∈ l, Tryz.prog.readableRec t = true ∧ t < Tryz.prog.types.size := by
  intro t ht
  have := List.all_eq_true.1 h t ht
  simpa using this

/-- A law's end: it says true, and old memory is as it was. -/
theorem post_law {H : Type} {enc : TypeId × Value → H} {f : Func} {s : ChangeSpec} {W W' : World} {args : Array Value} {ds gs : List (DataW H)} {before : List MemPlace}
    (hv : s.vars = []) (hrt : f.resultTypes = #[4]) (hp : ∀ t ∈ f.params.toList, Tryz.prog.readableRec t = true ∧ t < Tryz.prog.types.size)
    (hs : s.fn H (ds ++ gs) = { results := [.lit (.bool true)], args := ds }) (hW : DataW.Whole enc Tryz.prog f.params.toList s.vars false W args.toList ds gs before)
    (hb : Below W.heap.size W W') : s.post enc Tryz.prog f false true false false W args (.bool true) W' := by
  have hlt : ∀ x ∈ before, x.block < W.heap.size := fun x hx => hW.lt x hx
  have hW0 := hW
  obtain ⟨p, q, hA, hV, rfl, _, _⟩ := hW
  rw [hv] at hV
  obtain ⟨rfl, rfl⟩ := trodVars_none hV
  rw [List.append_nil] at hlt
  refine ⟨ds, [], p ++ [], [], p, [], hW0, ?_, ?_, ?_, hb.frame _, fun h => by cases h⟩
  · rw [hs, hrt]
    exact trodAll_mk1 ⟨1, by simp [DataW.trod, Value.cells, Tryz.underlying4]⟩
  · rw [hs]
    exact all_stays hb hp hlt hA
  · rw [hs, hv]; rfl
end Go.Proofs.YtolbceckbnifmaaGreat

namespace Go.Proofs.YtolbceckbnifmaaGreat
open Go.ChangeShapes Go.WideShapes Go.ChangeAt Go.RowKit Go.Deep

theorem cellsBool : Tryz.prog.cellsOf 4 = 1 := by kernel_rfl

set_option maxRecDepth 100000
section
variable {H : Type} {enc : TypeId × Value → H} {W : World} {held : Bool}
theorem read_bools {base : Nat} {v : Value} {d : DataW H} {p : List MemPlace} (hv : Value.okWide Tryz.prog W .any base 98 v) (h : DataW.Trod enc Tryz.prog W 0 (fun _ => true) held 98 v d p) :
    ∃ A n c bs, v = .slice A n c ∧ RBools W A n c bs := by
  obtain ⟨a, n, c, rfl⟩ := okWide_slice Tryz.underlying98 hv
  obtain ⟨fuel, hf⟩ := h
  rcases open_bools Tryz.underlying98 Tryz.underlying4 cellsBool hf with ⟨e, _⟩ | ⟨a', len, cap, B, e, _, hl, hm, _, hc⟩
  · cases e
    exact ⟨none, 0, 0, [], rfl, rfl, Nat.le_refl _, by omega, fun h => absurd h (by omega)⟩
  · cases e
    have hm' : c ≤ 9223372036854775807 := by unfold maxLen at hm; omega
    refine ⟨some a', n, c, (List.range n).map B, rfl, by simp, hl, hm', fun hn => ?_⟩
    have h0 := hc 0 (by omega)
    rw [show a'.add 0 = a' from rfl] at h0
    have ha := addr_of_cell h0
    refine ⟨a'.block, a'.off, by rw [← ha], fun i hi => ?_⟩
    have := hc i (by omega)
    rw [ha, add_plain] at this
    rw [this]
    simp [List.getD, hi]
end
end Go.Proofs.YtolbceckbnifmaaGreat

