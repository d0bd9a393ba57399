/-
  For every input the law PathsStrongest returns true, and its arguments read afterwards as they read before. No condition.
-/
import Derived.Test.YtkhclcdmehjfkaaRows
import Derived.Test.YtkhclcdmehjfkaaRowK
import Derived.Test.YtkhclcdmehjfkaaRowM
import Derived.Test.YtkhclcdmehjfkaaL13s
namespace Go.Proofs.Ytkhclcdmehjfkaa.pathsStrongest
open Go.ChangeShapes Go.WideShapes Go.ChangeAt Go.RowKit

set_option maxRecDepth 100000 in
theorem lifted (os : Os) (started : os.Started) (H : Type) (enc : TypeId × Value → H) :
    ReturnsInHanded {} Try.checked os 3 .any (Rows.pathsStrongestSpec.pre6 enc Try.prog Try.f3 Rows.pathsStrongestRow.domain false) (Rows.pathsStrongestSpec.post enc Try.prog Try.f3 false true false false) := by
  refine returnsInHanded_of_change (C := Try.checked) ownK started (by kernel_rfl) Try.func3
    (ChangeSpec.witness6 (enc := enc) (C := Try.checked) false ⟨#[], #[.agg Try.zeroCells24, .int .i64 0], []⟩ 8 (by kernel_rfl) (by kernel_rfl) (by kernel_rfl) (by kernel_rfl)) ?_
  intro W base args ds gs before hval0 hW _ _
  have hval : ∀ (j : Nat) t v, Try.f3.params[j]? = some t → args[j]? = some v → Value.okWide Try.prog W .any base t v := hval0
  have hW' := hW
  obtain ⟨p, q, hA0, hV, rfl, _, _⟩ := hW
  have hA : DataW.TrodAll enc Try.prog W 0 (fun _ => true) true Try.f3.params.toList args.toList ds p := hA0
  rw [Try.params3] at hA hval
  obtain ⟨v0, vs0, d0, ds0, p0, q0, hargs, rfl, rfl, h0, r0⟩ := trodAll_cons hA
  obtain ⟨v1, vs1, d1, ds1, p1, q1, rfl, rfl, rfl, h1, r1⟩ := trodAll_cons r0
  obtain ⟨rfl, rfl, rfl⟩ := trodAll_nil r1
  obtain rfl : args = #[v0, v1] := by cases args; simp_all
  obtain ⟨rfl, rfl⟩ := trodVars_none hV
  obtain ⟨C0, m0, rfl, hm0⟩ := read_mat (hval 0 _ _ rfl rfl) h0
  obtain ⟨z1, rfl, hz1⟩ := read_int (hval 1 _ _ rfl rfl) h1
  refine (pathsStrongest_any C0 m0 hm0 z1 _).mono fun e W' ⟨he, hb⟩ => ⟨_, he, ?_⟩
  exact post_law rfl (by kernel_rfl) (by rw [Try.params3]; exact params_ok _ (by kernel_rfl)) rfl hW' hb

theorem over : Rows.pathsStrongestRow.holds Try.pinned (OpenSpec.ofChange Rows.pathsStrongestSpec) :=
  OpenClaim.holds_of_wide 3 Try.f3 rfl rfl rfl rfl rfl rfl rfl ⟨rfl, rfl, rfl, rfl, rfl⟩ rfl rfl rfl rfl rfl (by kernel_rfl) Try.func3 (by kernel_rfl)
    (of_decide_eq_true (by kernel_rfl)) (by unfold Func.isWrapper; first | (rw [if_pos (by decide +kernel)]; kernel_rfl) | (rw [if_neg (by decide +kernel)]; exact ⟨rfl, rfl⟩))
    (fun os started H enc _ => lifted os started H enc)

theorem proved : Rows.PathsStrongestSaid := over
#print axioms proved
end Go.Proofs.Ytkhclcdmehjfkaa.pathsStrongest
