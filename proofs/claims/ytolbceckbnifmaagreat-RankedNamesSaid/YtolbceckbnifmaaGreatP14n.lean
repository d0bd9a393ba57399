/-
  For every input the law RankedNames returns true, and its arguments read afterwards as they read before. No condition.
-/
import Derived.Test.YtolbceckbnifmaaGreatRows
import Derived.Test.YtolbceckbnifmaaGreatRowK
import Derived.Test.YtolbceckbnifmaaGreatL14n
namespace Go.Proofs.YtolbceckbnifmaaGreat.rankedNames
open Go.ChangeShapes Go.WideShapes Go.ChangeAt Go.RowKit

set_option maxRecDepth 100000 in
theorem lifted (os : Os) (started : os.Started) (H : Type) (enc : TypeId × Value → H) :
    ReturnsInHanded {} Tryz.checked os 8 .any (Rows.rankedNamesSpec.pre6 enc Tryz.prog Tryz.f8 Rows.rankedNamesRow.domain false) (Rows.rankedNamesSpec.post enc Tryz.prog Tryz.f8 false true false false) := by
  refine returnsInHanded_of_change (C := Tryz.checked) ownK started (by kernel_rfl) Tryz.func8
    (ChangeSpec.witness6 (enc := enc) (C := Tryz.checked) false ⟨#[], #[.agg #[.int .i64 0, .int .u8 0, .slice none 0 0], .slice none 0 0, .slice none 0 0], []⟩ 8 (by kernel_rfl) (by kernel_rfl) (by kernel_rfl) (by kernel_rfl)) ?_
  intro W base args ds gs before hval0 hW _ _
  have hval : ∀ (j : Nat) t v, Tryz.f8.params[j]? = some t → args[j]? = some v → Value.okWide Tryz.prog W .any base t v := hval0
  have hW' := hW
  obtain ⟨p, q, hA0, hV, rfl, _, _⟩ := hW
  have hA : DataW.TrodAll enc Tryz.prog W 0 (fun _ => true) true Tryz.f8.params.toList args.toList ds p := hA0
  rw [Tryz.params8] at hA hval
  obtain ⟨v0, vs0, d0, ds0, p0, q0, hargs, rfl, rfl, h0, r0⟩ := trodAll_cons hA
  obtain ⟨v1, vs1, d1, ds1, p1, q1, rfl, rfl, rfl, h1, r1⟩ := trodAll_cons r0
  obtain ⟨v2, vs2, d2, ds2, p2, q2, rfl, rfl, rfl, h2, r2⟩ := trodAll_cons r1
  obtain ⟨rfl, rfl, rfl⟩ := trodAll_nil r2
  obtain rfl : args = #[v0, v1, v2] := by cases args; simp_all
  obtain ⟨rfl, rfl⟩ := trodVars_none hV
  obtain ⟨c0, k0, A0, n0, cp0, l0, rfl, hl0, hc0, hk0⟩ := read_profile (hval 0 _ _ rfl rfl) h0
  obtain ⟨A1, n1, cp1, xs1, rfl, hx1⟩ := read_slice (hval 1 _ _ rfl rfl) h1
  obtain ⟨A2, n2, cp2, xs2, rfl, hx2⟩ := read_slice (hval 2 _ _ rfl rfl) h2
  refine (rankedNames_any c0 k0 A0 n0 cp0 l0 A1 n1 cp1 xs1 A2 n2 cp2 xs2 _ hl0 hx1 hx2).mono fun e W' ⟨he, hb⟩ => ⟨_, he, ?_⟩
  exact post_law rfl (by kernel_rfl) (by rw [Tryz.params8]; exact params_ok _ (by kernel_rfl)) rfl hW' hb

theorem over : Rows.rankedNamesRow.holds Tryz.pinned (OpenSpec.ofChange Rows.rankedNamesSpec) :=
  OpenClaim.holds_of_wide 8 Tryz.f8 rfl rfl rfl rfl rfl rfl rfl ⟨rfl, rfl, rfl, rfl, rfl⟩ rfl rfl rfl rfl rfl (by kernel_rfl) Tryz.func8 (by kernel_rfl)
    (of_decide_eq_true (by kernel_rfl)) (by unfold Func.isWrapper; first | (rw [if_pos (by decide +kernel)]; kernel_rfl) | (rw [if_neg (by decide +kernel)]; exact ⟨rfl, rfl⟩))
    (fun os started H enc _ => lifted os started H enc)

theorem proved : Rows.RankedNamesSaid := over
#print axioms proved
end Go.Proofs.YtolbceckbnifmaaGreat.rankedNames
