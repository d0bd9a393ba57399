/-
  For every input the law PathsTell returns true, and its arguments read afterwards as they read before. No condition.
-/
import Derived.Test.YtkhclcdmehjfkaaGreatRows
import Derived.Test.YtkhclcdmehjfkaaGreatRowK
import Derived.Test.YtkhclcdmehjfkaaGreatRowM
import Derived.Test.YtkhclcdmehjfkaaGreatL13t
namespace Go.Proofs.YtkhclcdmehjfkaaGreat.pathsTell
open Go.ChangeShapes Go.WideShapes Go.ChangeAt Go.RowKit

set_option maxRecDepth 100000 in
theorem lifted (os : Os) (started : os.Started) (H : Type) (enc : TypeId × Value → H) :
    ReturnsInHanded {} Tryz.checked os 3 .any (Rows.pathsTellSpec.pre6 enc Tryz.prog Tryz.f3 Rows.pathsTellRow.domain false) (Rows.pathsTellSpec.post enc Tryz.prog Tryz.f3 false true false false) := by
  refine returnsInHanded_of_change (C := Tryz.checked) ownK started (by kernel_rfl) Tryz.func3
    (ChangeSpec.witness6 (enc := enc) (C := Tryz.checked) false ⟨#[], #[.agg Tryz.zeroCells24, .int .i64 0, .slice none 0 0, .agg #[.int .i64 0, .int .u8 0, .slice none 0 0], .int .i64 0, .slice none 0 0], []⟩ 8 (by kernel_rfl) (by kernel_rfl) (by kernel_rfl) (by kernel_rfl)) ?_
  intro W base args ds gs before hval0 hW _ _
  have hval : ∀ (j : Nat) t v, Tryz.f3.params[j]? = some t → args[j]? = some v → Value.okWide Tryz.prog W .any base t v := hval0
  have hW' := hW
  obtain ⟨p, q, hA0, hV, rfl, _, _⟩ := hW
  have hA : DataW.TrodAll enc Tryz.prog W 0 (fun _ => true) true Tryz.f3.params.toList args.toList ds p := hA0
  rw [Tryz.params3] at hA hval
  obtain ⟨v0, vs0, d0, ds0, p0, q0, hargs, rfl, rfl, h0, r0⟩ := trodAll_cons hA
  obtain ⟨v1, vs1, d1, ds1, p1, q1, rfl, rfl, rfl, h1, r1⟩ := trodAll_cons r0
  obtain ⟨v2, vs2, d2, ds2, p2, q2, rfl, rfl, rfl, h2, r2⟩ := trodAll_cons r1
  obtain ⟨v3, vs3, d3, ds3, p3, q3, rfl, rfl, rfl, h3, r3⟩ := trodAll_cons r2
  obtain ⟨v4, vs4, d4, ds4, p4, q4, rfl, rfl, rfl, h4, r4⟩ := trodAll_cons r3
  obtain ⟨v5, vs5, d5, ds5, p5, q5, rfl, rfl, rfl, h5, r5⟩ := trodAll_cons r4
  obtain ⟨rfl, rfl, rfl⟩ := trodAll_nil r5
  obtain rfl : args = #[v0, v1, v2, v3, v4, v5] := by cases args; simp_all
  obtain ⟨rfl, rfl⟩ := trodVars_none hV
  obtain ⟨C0, m0, rfl, hm0⟩ := read_mat (hval 0 _ _ rfl rfl) h0
  obtain ⟨z1, rfl, hz1⟩ := read_int (hval 1 _ _ rfl rfl) h1
  obtain ⟨A2, n2, cp2, xs2, rfl, hx2⟩ := read_slice (hval 2 _ _ rfl rfl) h2
  obtain ⟨c3, k3, A3, n3, cp3, l3, rfl, hl3, hc3, hk3⟩ := read_profile (hval 3 _ _ rfl rfl) h3
  obtain ⟨z4, rfl, hz4⟩ := read_int (hval 4 _ _ rfl rfl) h4
  obtain ⟨A5, n5, cp5, xs5, rfl, hx5⟩ := read_slice (hval 5 _ _ rfl rfl) h5
  refine (pathsTell_any C0 m0 hm0 z1 A2 n2 cp2 xs2 c3 k3 A3 n3 cp3 l3 z4 A5 n5 cp5 xs5 _ hl3 hx5 hx2).mono fun e W' ⟨he, hb⟩ => ⟨_, he, ?_⟩
  exact post_law rfl (by kernel_rfl) (by rw [Tryz.params3]; exact params_ok _ (by kernel_rfl)) rfl hW' hb

theorem over : Rows.pathsTellRow.holds Tryz.pinned (OpenSpec.ofChange Rows.pathsTellSpec) :=
  OpenClaim.holds_of_wide 3 Tryz.f3 rfl rfl rfl rfl rfl rfl rfl ⟨rfl, rfl, rfl, rfl, rfl⟩ rfl rfl rfl rfl rfl (by kernel_rfl) Tryz.func3 (by kernel_rfl)
    (of_decide_eq_true (by kernel_rfl)) (by unfold Func.isWrapper; first | (rw [if_pos (by decide +kernel)]; kernel_rfl) | (rw [if_neg (by decide +kernel)]; exact ⟨rfl, rfl⟩))
    (fun os started H enc _ => lifted os started H enc)

theorem proved : Rows.PathsTellSaid := over
#print axioms proved
end Go.Proofs.YtkhclcdmehjfkaaGreat.pathsTell
