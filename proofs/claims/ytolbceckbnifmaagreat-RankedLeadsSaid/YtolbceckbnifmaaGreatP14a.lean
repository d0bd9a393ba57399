/-
  For every input the law RankedLeads returns true, and its arguments read afterwards as they read before. No condition.
-/
import Derived.Test.YtolbceckbnifmaaGreatRows
import Derived.Test.YtolbceckbnifmaaGreatRowK
import Derived.Test.YtolbceckbnifmaaGreatRowL
import Derived.Test.YtolbceckbnifmaaGreatL14a
namespace Go.Proofs.YtolbceckbnifmaaGreat.rankedLeads
open Go.ChangeShapes Go.WideShapes Go.ChangeAt Go.RowKit

set_option maxRecDepth 100000 in
theorem lifted (os : Os) (started : os.Started) (H : Type) (enc : TypeId × Value → H) :
    ReturnsInHanded {} Tryz.checked os 4 .any (Rows.rankedLeadsSpec.pre6 enc Tryz.prog Tryz.f4 Rows.rankedLeadsRow.domain false) (Rows.rankedLeadsSpec.post enc Tryz.prog Tryz.f4 false true false false) := by
  refine returnsInHanded_of_change (C := Tryz.checked) ownK started (by kernel_rfl) Tryz.func4
    (ChangeSpec.witness6 (enc := enc) (C := Tryz.checked) false ⟨#[], #[.slice none 0 0, .int .i64 0, .int .i64 0, .int .i64 0, .int .i64 0], []⟩ 8 (by kernel_rfl) (by kernel_rfl) (by kernel_rfl) (by kernel_rfl)) ?_
  intro W base args ds gs before hval0 hW _ _
  have hval : ∀ (j : Nat) t v, Tryz.f4.params[j]? = some t → args[j]? = some v → Value.okWide Tryz.prog W .any base t v := hval0
  have hW' := hW
  obtain ⟨p, q, hA0, hV, rfl, _, _⟩ := hW
  have hA : DataW.TrodAll enc Tryz.prog W 0 (fun _ => true) true Tryz.f4.params.toList args.toList ds p := hA0
  rw [Tryz.params4] at hA hval
  obtain ⟨v0, vs0, d0, ds0, p0, q0, hargs, rfl, rfl, h0, r0⟩ := trodAll_cons hA
  obtain ⟨v1, vs1, d1, ds1, p1, q1, rfl, rfl, rfl, h1, r1⟩ := trodAll_cons r0
  obtain ⟨v2, vs2, d2, ds2, p2, q2, rfl, rfl, rfl, h2, r2⟩ := trodAll_cons r1
  obtain ⟨v3, vs3, d3, ds3, p3, q3, rfl, rfl, rfl, h3, r3⟩ := trodAll_cons r2
  obtain ⟨v4, vs4, d4, ds4, p4, q4, rfl, rfl, rfl, h4, r4⟩ := trodAll_cons r3
  obtain ⟨rfl, rfl, rfl⟩ := trodAll_nil r4
  obtain rfl : args = #[v0, v1, v2, v3, v4] := by cases args; simp_all
  obtain ⟨rfl, rfl⟩ := trodVars_none hV
  obtain ⟨A0, n0, cp0, l0, rfl, hx0⟩ := read_links (hval 0 _ _ rfl rfl) h0
  obtain ⟨z1, rfl, hz1⟩ := read_int (hval 1 _ _ rfl rfl) h1
  obtain ⟨z2, rfl, hz2⟩ := read_int (hval 2 _ _ rfl rfl) h2
  obtain ⟨z3, rfl, hz3⟩ := read_int (hval 3 _ _ rfl rfl) h3
  obtain ⟨z4, rfl, hz4⟩ := read_int (hval 4 _ _ rfl rfl) h4
  refine (rankedLeads_any A0 n0 cp0 l0 z1 z2 z3 z4 _ hx0).mono fun e W' ⟨he, hb⟩ => ⟨_, he, ?_⟩
  exact post_law rfl (by kernel_rfl) (by rw [Tryz.params4]; exact params_ok _ (by kernel_rfl)) rfl hW' hb

theorem over : Rows.rankedLeadsRow.holds Tryz.pinned (OpenSpec.ofChange Rows.rankedLeadsSpec) :=
  OpenClaim.holds_of_wide 4 Tryz.f4 rfl rfl rfl rfl rfl rfl rfl ⟨rfl, rfl, rfl, rfl, rfl⟩ rfl rfl rfl rfl rfl (by kernel_rfl) Tryz.func4 (by kernel_rfl)
    (of_decide_eq_true (by kernel_rfl)) (by unfold Func.isWrapper; first | (rw [if_pos (by decide +kernel)]; kernel_rfl) | (rw [if_neg (by decide +kernel)]; exact ⟨rfl, rfl⟩))
    (fun os started H enc _ => lifted os started H enc)

theorem proved : Rows.RankedLeadsSaid := over
#print axioms proved
end Go.Proofs.YtolbceckbnifmaaGreat.rankedLeads
