/-
  What an argument that came in is: a truth value.
-/
import Derived.Test.YtiebfalodelclaaRowK
namespace Go.Proofs.Ytiebfalodelclaa
open Go.ChangeShapes Go.WideShapes Go.ChangeAt Go.RowKit Go.Deep

set_option maxRecDepth 100000
section
variable {H : Type} {enc : TypeId × Value → H} {W : World} {held : Bool}
theorem read_bool {base : Nat} {v : Value} {d : DataW H} {p : List MemPlace} (hv : Value.okWide Try.prog W .any base 4 v) (_h : DataW.Trod enc Try.prog W 0 (fun _ => true) held 4 v d p) :
    ∃ b, v = .bool b := by
  obtain ⟨b, rfl⟩ := okWide_bool Try.underlying4 hv
  exact ⟨b, rfl⟩
end
end Go.Proofs.Ytiebfalodelclaa
