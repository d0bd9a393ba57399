/-
  For every input the law RankedWinner returns true, and its arguments read afterwards as they read before. No condition.
-/
import Derived.Test.YtolbceckbnifmaaGreatRows
import Derived.Test.YtolbceckbnifmaaGreatRowK
import Derived.Test.YtolbceckbnifmaaGreatL14w
namespace Go.Proofs.YtolbceckbnifmaaGreat.rankedWinner
open Go.ChangeShapes Go.WideShapes Go.ChangeAt Go.RowKit

set_option maxRecDepth 100000 in
theorem lifted (os : Os) (started : os.Started) (H : Type) (enc : TypeId × Value → H) :
    ReturnsInHanded {} Tryz.checked os 7 .any (Rows.rankedWinnerSpec.pre6 enc Tryz.prog Tryz.f7 Rows.rankedWinnerRow.domain false) (Rows.rankedWinnerSpec.post enc Tryz.prog Tryz.f7 false true false false) := by
  refine returnsInHanded_of_change (C := Tryz.checked) ownK started (by kernel_rfl) Tryz.func7
    (ChangeSpec.witness6 (enc := enc) (C := Tryz.checked) false ⟨#[], #[.agg #[.int .i64 0, .int .u8 0, .slice none 0 0], .slice none 0 0], []⟩ 8 (by kernel_rfl) (by kernel_rfl) (by kernel_rfl) (by kernel_rfl)) ?_
  intro W base args ds gs before hval0 hW _ _
  have hval : ∀ (j : Nat) t v, Tryz.f7.params[j]? = some t → args[j]? = some v → Value.okWide Tryz.prog W .any base t v := hval0
  have hW' := hW
  obtain ⟨p, q, hA0, hV, rfl, _, _⟩ := hW
  have hA : DataW.TrodAll enc Tryz.prog W 0 (fun _ => true) true Tryz.f7.params.toList args.toList ds p := hA0
  rw [Tryz.params7] at hA hval
  obtain ⟨v0, vs0, d0, ds0, p0, q0, hargs, rfl, rfl, h0, r0⟩ := trodAll_cons hA
  obtain ⟨v1, vs1, d1, ds1, p1, q1, rfl, rfl, rfl, h1, r1⟩ := trodAll_cons r0
  obtain ⟨rfl, rfl, rfl⟩ := trodAll_nil r1
  obtain rfl : args = #[v0, v1] := by cases args; simp_all
  obtain ⟨rfl, rfl⟩ := trodVars_none hV
  obtain ⟨c0, k0, A0, n0, cp0, l0, rfl, hl0, hc0, hk0⟩ := read_profile (hval 0 _ _ rfl rfl) h0
  obtain ⟨A1, n1, cp1, xs1, rfl, hx1⟩ := read_slice (hval 1 _ _ rfl rfl) h1
  refine (rankedWinner_any c0 k0 A0 n0 cp0 l0 A1 n1 cp1 xs1 _ hl0 hx1).mono fun e W' ⟨he, hb⟩ => ⟨_, he, ?_⟩
  exact post_law rfl (by kernel_rfl) (by rw [Tryz.params7]; exact params_ok _ (by kernel_rfl)) rfl hW' hb

theorem over : Rows.rankedWinnerRow.holds Tryz.pinned (OpenSpec.ofChange Rows.rankedWinnerSpec) :=
  OpenClaim.holds_of_wide 7 Tryz.f7 rfl rfl rfl rfl rfl rfl rfl ⟨rfl, rfl, rfl, rfl, rfl⟩ rfl rfl rfl rfl rfl (by kernel_rfl) Tryz.func7 (by kernel_rfl)
    (of_decide_eq_true (by kernel_rfl)) (by unfold Func.isWrapper; first | (rw [if_pos (by decide +kernel)]; kernel_rfl) | (rw [if_neg (by decide +kernel)]; exact ⟨rfl, rfl⟩))
    (fun os started H enc _ => lifted os started H enc)

theorem proved : Rows.RankedWinnerSaid := over
#print axioms proved
end Go.Proofs.YtolbceckbnifmaaGreat.rankedWinner
