/-
  What an argument that came in is: an assertion, a ballot.
-/
import Derived.Test.YtkmcgpaoekphmaaGreatRowK
import Derived.Test.YtkmcgpaoekphmaaGreatW41q
import Derived.Test.YtkmcgpaoekphmaaGreatW41e
import Derived.SliceStrings
namespace Go.Proofs.YtkmcgpaoekphmaaGreat
open Go.ChangeShapes Go.WideShapes Go.ChangeAt Go.RowKit Go.Deep

theorem cellsBalA : Tryz.prog.cellsOf 26 = 2 := by kernel_rfl
theorem cellsAsn : Tryz.prog.cellsOf 24 = 4 := by kernel_rfl

set_option maxRecDepth 100000
section
variable {H : Type} {enc : TypeId × Value → H} {W : World} {held : Bool}
theorem read_bal {base : Nat} {v : Value} {d : DataW H} {p : List MemPlace} (hv : Value.okWide Tryz.prog W .any base 26 v) (h : DataW.Trod enc Tryz.prog W 0 (fun _ => true) held 26 v d p) :
    ∃ k A n c xs, v = .agg #[.int .u8 k, .slice A n c] ∧ RInts W A n c xs := by
  obtain ⟨v0, v1, y0, y1, n, rfl, _, _, h0, h1⟩ := Go.Joins.open_agg2 Tryz.underlying26 (by kernel_rfl) cellsBalA hv h
  obtain ⟨k, e0, _, _⟩ := DataW.trod_int Tryz.underlying5 h0
  obtain ⟨A, n', c, xs, e1, hr⟩ := read_ints h1
  cases e0; subst e1
  exact ⟨k, A, n', c, xs, rfl, hr⟩
theorem read_asn {base : Nat} {v : Value} {d : DataW H} {p : List MemPlace} (hv : Value.okWide Tryz.prog W .any base 24 v) (h : DataW.Trod enc Tryz.prog W 0 (fun _ => true) held 24 v d p) :
    ∃ k x y A n c xs, v = .agg #[.int .u8 k, .int .i64 x, .int .i64 y, .slice A n c] ∧ RInts W A n c xs := by
  obtain ⟨v0, v1, v2, v3, y0, y1, y2, y3, n, rfl, _, _, h0, h1, h2, h3⟩ := Go.Joins.open_agg4 Tryz.underlying24 (by kernel_rfl) cellsAsn hv h
  obtain ⟨k, e0, _, _⟩ := DataW.trod_int Tryz.underlying5 h0
  obtain ⟨x, e1, _, _⟩ := DataW.trod_int Tryz.underlying3 h1
  obtain ⟨y, e2, _, _⟩ := DataW.trod_int Tryz.underlying3 h2
  obtain ⟨A, n', c, xs, e3, hr⟩ := read_ints h3
  cases e0; cases e1; cases e2; subst e3
  exact ⟨k, x, y, A, n', c, xs, rfl, hr⟩

/-- A slice of whatever. -/
theorem read_any {t e : TypeId} {fuel : Nat} {c : Value} {x : DataW H × List MemPlace} (ht : Tryz.prog.underlying t = some (.slice e)) (h : DataW.trod enc Tryz.prog W 0 (fun _ => true) held fuel t [c] = some x) : ∃ A n cp, c = .slice A n cp := by
  rcases DataW.trod_slice ht h with ⟨e, _⟩ | ⟨a, len, cap, _, _, _, _, e, _⟩
  · cases e; exact ⟨_, _, _, rfl⟩
  · cases e; exact ⟨_, _, _, rfl⟩
theorem cellsStr : Tryz.prog.cellsOf 9 = 1 := by kernel_rfl
theorem cellsRndA : Tryz.prog.cellsOf 58 = 6 := by kernel_rfl
theorem cellsOutA : Tryz.prog.cellsOf 34 = 3 := by kernel_rfl
theorem cellsConA : Tryz.prog.cellsOf 65 = 4 := by kernel_rfl
theorem read_strs {fuel : Nat} {u : Value} {x : DataW H × List MemPlace} (h : DataW.trod enc Tryz.prog W 0 (fun _ => true) held fuel 63 [u] = some x) :
    ∃ A n c ss, u = .slice A n c ∧ RStrs W A n c ss ∧ ∀ s ∈ ss, s.size ≤ 9223372036854775807 := by
  rcases open_strings Tryz.underlying63 Tryz.underlying9 cellsStr h with ⟨e, _⟩ | ⟨a, len, cap, ss, e, _, hl, hm, hz, _, hc, hw⟩
  · cases e; exact ⟨none, 0, 0, [], rfl, RStrs.nil_ W, by simp⟩
  · cases e
    simp only [if_true] at hz
    have hm' : cap ≤ 9223372036854775807 := by unfold maxLen at hm; omega
    refine ⟨some a, len, cap, ss.take len, rfl, ⟨by simp; omega, hl, hm', fun hn => ?_⟩, fun s hs => by have := hw s (List.mem_of_mem_take hs); unfold maxLen at this; omega⟩
    have h0 := hc 0 (by omega)
    rw [show a.add 0 = a from rfl] at h0
    have ha := addr_of_cell h0
    refine ⟨a.block, a.off, by rw [← ha], fun i hi => ?_⟩
    have := hc i (by omega)
    rw [ha, add_plain] at this
    have hil : i < ss.length := by omega
    exact ⟨_, by rw [List.getElem?_take_of_lt hi, List.getElem?_eq_getElem hil], by rw [this]; simp [List.getD, hil]⟩
theorem read_contest {base : Nat} {v : Value} {d : DataW H} {p : List MemPlace} (hv : Value.okWide Tryz.prog W .any base 65 v) (h : DataW.Trod enc Tryz.prog W 0 (fun _ => true) held 65 v d p) :
    ∃ name A n c cs seats, ∃ rule : Nat, v = .agg #[.string name, .slice A n c, .int .i64 seats, .int .u8 (rule : Int)] ∧ RStrs W A n c cs ∧ StrsLe name cs ∧ rule ≤ 255 := by
  obtain ⟨v0, v1, v2, v3, y0, y1, y2, y3, n, rfl, _, _, h0, h1, h2, h3⟩ := Go.Joins.open_agg4 Tryz.underlying65 (by kernel_rfl) cellsConA hv h
  obtain ⟨name, e0, _, w0⟩ := DataW.trod_string Tryz.underlying9 h0
  obtain ⟨A, n', c, cs, e1, hr, hs⟩ := read_strs h1
  obtain ⟨seats, e2, _, _⟩ := DataW.trod_int Tryz.underlying3 h2
  obtain ⟨rule, e3, _, w3⟩ := DataW.trod_int Tryz.underlying5 h3
  have hb := u8_of_wf w3
  obtain ⟨r, rfl⟩ : ∃ r : Nat, rule = r := ⟨rule.toNat, by omega⟩
  cases e0; subst e1; cases e2; cases e3
  exact ⟨name, A, n', c, cs, seats, r, rfl, hr, ⟨by unfold maxLen at w0; omega, hs⟩, by omega⟩
theorem read_round {fuel : Nat} {cs : List Value} {x : DataW H × List MemPlace} (h : DataW.trod enc Tryz.prog W 0 (fun _ => true) held fuel 58 cs = some x) : ∃ o, ERo W cs o := by
  obtain ⟨xs, n, _, _, hlen, hxl, hf⟩ := DataW.trod_struct Tryz.underlying58 h
  rw [cellsRndA] at hlen
  match cs, hlen with
  | [c0, c1, c2, c3, c4, c5], _ =>
    have g0 := hf 0 _ rfl
    have g1 := hf 1 _ rfl
    have g2 := hf 2 _ rfl
    have g3 := hf 3 _ rfl
    have hx : xs.length = 4 := by rw [hxl]; rfl
    rw [List.getElem?_eq_getElem (by omega)] at g0 g1 g2 g3
    obtain ⟨A, na, ca, rfl⟩ := read_any (c := c0) Tryz.underlying53 g0
    obtain ⟨A4, n4, k4, rfl⟩ := read_any (c := c4) Tryz.underlying22 g2
    obtain ⟨Ao, no, co, o, rfl, ho⟩ := read_ints (u := c5) g3
    obtain ⟨ys, n', _, _, hlen', hyl, hf'⟩ := DataW.trod_struct (cs := [c1, c2, c3]) Tryz.underlying56 g1
    have hy : ys.length = 3 := by rw [hyl]; rfl
    have k0 := hf' 0 _ rfl
    have k1 := hf' 1 _ rfl
    have k2 := hf' 2 _ rfl
    rw [List.getElem?_eq_getElem (by omega)] at k0 k1 k2
    obtain ⟨b, eb, _⟩ := DataW.trod_bool (cs := [c1]) Tryz.underlying4 k0
    obtain ⟨A2, n2, m2, rfl⟩ := read_any (c := c2) Tryz.underlying54 k1
    obtain ⟨A3, n3, m3, rfl⟩ := read_any (c := c3) Tryz.underlying54 k2
    cases eb
    exact ⟨o, A, na, ca, b, A2, n2, m2, A3, n3, m3, A4, n4, k4, Ao, no, co, rfl, ho⟩
theorem read_rounds {fuel : Nat} {u : Value} {x : DataW H × List MemPlace} (h : DataW.trod enc Tryz.prog W 0 (fun _ => true) held fuel 31 [u] = some x) :
    ∃ A n c outs, u = .slice A n c ∧ RAgg ERo 6 W A n c outs := by
  rcases open_slice Tryz.underlying31 h with ⟨e, _⟩ | ⟨a, len, cap, m, n0, D, Pl, e, _, hl, hm, hmm, _, hc⟩
  · cases e; exact ⟨none, 0, 0, [], rfl, RAgg.nil_ _ _ _⟩
  · cases e
    simp only [if_true] at hmm
    have hm' : cap ≤ 9223372036854775807 := by unfold maxLen at hm; omega
    have each : ∀ i, i < len → ∃ q : List Value × List Int, q.1.length = 6 ∧ (∀ j u, q.1[j]? = some u → W.cell? ((a.add (i * 6)).add j) = some u) ∧ ERo W q.1 q.2 := by
      intro i hi
      obtain ⟨cs', h1, h2⟩ := hc i (by omega)
      rw [cellsRndA] at h1
      obtain ⟨_, hlen, hcell⟩ := World.cells?_some h1
      obtain ⟨o, ho⟩ := read_round h2
      exact ⟨(cs', o), hlen, fun j u hj => by
        have hj6 : j < 6 := by rw [← hlen]; exact (List.getElem?_eq_some_iff.1 hj).1
        rw [hcell j hj6]; exact hj, ho⟩
    obtain ⟨q, hq⟩ := choose_lt each
    refine ⟨some a, len, cap, (List.range len).map fun i => (q i).2, rfl, by simp, hl, hm', fun hn => ?_⟩
    obtain ⟨h6, hc0, _⟩ := hq 0 hn
    have h00 := hc0 0 ((q 0).1[0]'(by omega)) (List.getElem?_eq_getElem _)
    rw [show (a.add (0 * 6)).add 0 = a from rfl] at h00
    have ha := addr_of_cell h00
    refine ⟨a.block, a.off, by rw [← ha], fun i hi => ?_⟩
    obtain ⟨h1, h2, h3⟩ := hq i hi
    refine ⟨(q i).1, (q i).2, by rw [List.getElem?_map, List.getElem?_range hi]; rfl, h1, fun j u hj => ?_, h3⟩
    have := h2 j u hj
    rw [ha, add_plain, add_plain] at this
    exact this
theorem read_told {base : Nat} {v : Value} {d : DataW H} {p : List MemPlace} (hv : Value.okWide Tryz.prog W .any base 34 v) (h : DataW.Trod enc Tryz.prog W 0 (fun _ => true) held 34 v d p) :
    ∃ Ae ne ce el Ar nr cr outs vt nt ct, v = .agg #[.slice Ae ne ce, .slice Ar nr cr, .slice vt nt ct] ∧ RInts W Ae ne ce el ∧ RAgg ERo 6 W Ar nr cr outs := by
  obtain ⟨v0, v1, v2, y0, y1, y2, n, rfl, _, _, h0, h1, h2⟩ := Go.Joins.open_agg3 Tryz.underlying34 (by kernel_rfl) cellsOutA hv h
  obtain ⟨Ae, ne, ce, el, e0, he⟩ := read_ints h0
  obtain ⟨Ar, nr, cr, outs, e1, ho⟩ := read_rounds h1
  obtain ⟨vt, nt, ct, e2⟩ := read_any Tryz.underlying32 h2
  subst e0 e1 e2
  exact ⟨Ae, ne, ce, el, Ar, nr, cr, outs, vt, nt, ct, rfl, he, ho⟩
end
end Go.Proofs.YtkmcgpaoekphmaaGreat
