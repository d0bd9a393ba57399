/-
  For every input the law AssertOfMatches returns true, and its arguments read afterwards as they read before. No condition.
-/
import Derived.Test.YtkmcgpaoekphmaaRows
import Derived.Test.YtkmcgpaoekphmaaRowK
import Derived.Test.YtkmcgpaoekphmaaRowA
import Derived.Test.YtkmcgpaoekphmaaL41o
namespace Go.Proofs.Ytkmcgpaoekphmaa.assertOfMatches
open Go.ChangeShapes Go.WideShapes Go.ChangeAt Go.RowKit

set_option maxRecDepth 100000 in
theorem lifted (os : Os) (started : os.Started) (H : Type) (enc : TypeId × Value → H) :
    ReturnsInHanded {} Try.checked os 4 .any (Rows.assertOfMatchesSpec.pre6 enc Try.prog Try.f4 Rows.assertOfMatchesRow.domain false) (Rows.assertOfMatchesSpec.post enc Try.prog Try.f4 false true false false) := by
  refine returnsInHanded_of_change (C := Try.checked) ownK started (by kernel_rfl) Try.func4
    (ChangeSpec.witness6 (enc := enc) (C := Try.checked) false ⟨#[], #[.agg #[.string ⟨#[]⟩, .slice none 0 0, .int .i64 0, .int .u8 0], .agg #[.slice none 0 0, .slice none 0 0, .slice none 0 0]], []⟩ 8 (by kernel_rfl) (by kernel_rfl) (by kernel_rfl) (by kernel_rfl)) ?_
  intro W base args ds gs before hval0 hW _ _
  have hval : ∀ (j : Nat) t v, Try.f4.params[j]? = some t → args[j]? = some v → Value.okWide Try.prog W .any base t v := hval0
  have hW' := hW
  obtain ⟨p, q, hA0, hV, rfl, _, _⟩ := hW
  have hA : DataW.TrodAll enc Try.prog W 0 (fun _ => true) true Try.f4.params.toList args.toList ds p := hA0
  rw [Try.params4] at hA hval
  obtain ⟨v0, vs0, d0, ds0, p0, q0, hargs, rfl, rfl, h0, r0⟩ := trodAll_cons hA
  obtain ⟨v1, vs1, d1, ds1, p1, q1, rfl, rfl, rfl, h1, r1⟩ := trodAll_cons r0
  obtain ⟨rfl, rfl, rfl⟩ := trodAll_nil r1
  obtain rfl : args = #[v0, v1] := by cases args; simp_all
  obtain ⟨rfl, rfl⟩ := trodVars_none hV
  obtain ⟨nm0, A0, n0, cp0, cs0, seats0, rule0, rfl, hx0, hs0, hr0⟩ := read_contest (hval 0 _ _ rfl rfl) h0
  obtain ⟨Ae1, ne1, ce1, el1, Ar1, nr1, cr1, outs1, vt1, nt1, ct1, rfl, he1, ho1⟩ := read_told (hval 1 _ _ rfl rfl) h1
  refine (assertOf_any nm0 A0 n0 cp0 cs0 seats0 rule0 hr0 Ae1 ne1 ce1 el1 Ar1 nr1 cr1 outs1 vt1 nt1 ct1 _ hx0 hs0 he1 ho1).mono fun e W' ⟨he, hb⟩ => ⟨_, he, ?_⟩
  exact post_law rfl (by kernel_rfl) (by rw [Try.params4]; exact params_ok _ (by kernel_rfl)) rfl hW' hb

theorem over : Rows.assertOfMatchesRow.holds Try.pinned (OpenSpec.ofChange Rows.assertOfMatchesSpec) :=
  OpenClaim.holds_of_wide 4 Try.f4 rfl rfl rfl rfl rfl rfl rfl ⟨rfl, rfl, rfl, rfl, rfl⟩ rfl rfl rfl rfl rfl (by kernel_rfl) Try.func4 (by kernel_rfl)
    (of_decide_eq_true (by kernel_rfl)) (by unfold Func.isWrapper; first | (rw [if_pos (by decide +kernel)]; kernel_rfl) | (rw [if_neg (by decide +kernel)]; exact ⟨rfl, rfl⟩))
    (fun os started H enc _ => lifted os started H enc)

theorem proved : Rows.AssertOfMatchesSaid := over
#print axioms proved
end Go.Proofs.Ytkmcgpaoekphmaa.assertOfMatches
