/-
  What an argument that came in is: an assertion, a ballot.
-/
import Derived.Test.YtoeajgjpakilgaaGreatRowK
import Derived.Test.YtoeajgjpakilgaaGreatW41i
import Derived.Test.YtoeajgjpakilgaaGreatW41e
import Derived.SliceStrings
namespace Go.Proofs.YtoeajgjpakilgaaGreat
open Go.ChangeShapes Go.WideShapes Go.ChangeAt Go.RowKit Go.Deep

theorem cellsBalA : Tryz.prog.cellsOf 29 = 2 := by kernel_rfl
theorem cellsAsn : Tryz.prog.cellsOf 24 = 4 := by kernel_rfl

set_option maxRecDepth 100000
section
variable {H : Type} {enc : TypeId × Value → H} {W : World} {held : Bool}
theorem read_bal {base : Nat} {v : Value} {d : DataW H} {p : List MemPlace} (hv : Value.okWide Tryz.prog W .any base 29 v) (h : DataW.Trod enc Tryz.prog W 0 (fun _ => true) held 29 v d p) :
    ∃ k A n c xs, v = .agg #[.int .u8 k, .slice A n c] ∧ RInts W A n c xs := by
  obtain ⟨v0, v1, y0, y1, n, rfl, _, _, h0, h1⟩ := Go.Joins.open_agg2 Tryz.underlying29 (by kernel_rfl) cellsBalA hv h
  obtain ⟨k, e0, _, _⟩ := DataW.trod_int Tryz.underlying5 h0
  obtain ⟨A, n', c, xs, e1, hr⟩ := read_ints h1
  cases e0; subst e1
  exact ⟨k, A, n', c, xs, rfl, hr⟩
theorem read_asn {base : Nat} {v : Value} {d : DataW H} {p : List MemPlace} (hv : Value.okWide Tryz.prog W .any base 24 v) (h : DataW.Trod enc Tryz.prog W 0 (fun _ => true) held 24 v d p) :
    ∃ k x y A n c xs, v = .agg #[.int .u8 k, .int .i64 x, .int .i64 y, .slice A n c] ∧ RInts W A n c xs := by
  obtain ⟨v0, v1, v2, v3, y0, y1, y2, y3, n, rfl, _, _, h0, h1, h2, h3⟩ := Go.Joins.open_agg4 Tryz.underlying24 (by kernel_rfl) cellsAsn hv h
  obtain ⟨k, e0, _, _⟩ := DataW.trod_int Tryz.underlying5 h0
  obtain ⟨x, e1, _, _⟩ := DataW.trod_int Tryz.underlying3 h1
  obtain ⟨y, e2, _, _⟩ := DataW.trod_int Tryz.underlying3 h2
  obtain ⟨A, n', c, xs, e3, hr⟩ := read_ints h3
  cases e0; cases e1; cases e2; subst e3
  exact ⟨k, x, y, A, n', c, xs, rfl, hr⟩

end
end Go.Proofs.YtoeajgjpakilgaaGreat
