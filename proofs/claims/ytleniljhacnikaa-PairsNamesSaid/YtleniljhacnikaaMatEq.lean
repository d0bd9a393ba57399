/-
  Comparison of two matrices.
-/
import Derived.Test.YtleniljhacnikaaMat
namespace Go.Proofs.Ytleniljhacnikaa
open Go.RowKit Go.Proofs

theorem run_forIn_all {P : Program} (p : Nat → Bool) (g : Nat → (Option Bool × PUnit) → Sem (ForInStep (Option Bool × PUnit))) :
    ∀ (l : List Nat), (∀ i ∈ l, ∀ w, (g i (none, ⟨⟩)).run P w = .ok (if p i then .yield (none, ⟨⟩) else .done (some false, ⟨⟩)) w) →
      ∀ w, (forIn l (none, ⟨⟩) g).run P w = .ok (if l.all p then (none, ⟨⟩) else (some false, ⟨⟩)) w
  | [], _, w => by simp
  | i :: l, h, w => by
    rw [List.forIn_cons, Sem.run_bind, h i (by simp) w]
    cases hp : p i with
    | true => simp only [Result.andThen_ok, if_true, hp, List.all_cons, Bool.true_and]; exact run_forIn_all p g l (fun j hj => h j (by simp [hj])) w
    | false => simp [Result.andThen_ok, hp]

theorem run_equal_row {R S : Array Value} {f g : Nat → Int} (hR : RowA R f) (hS : RowA S g) (d : Nat) (w : World) :
    (Op.equalIn (d + 2) 25 (.agg R) (.agg S)).run Try.prog w = .ok ((List.range 10).all fun y => decide (f y = g y)) w := by
  have hu := Try.underlying25
  have h1 := Try.sizeOf3
  have h2 := Try.isAgg3
  have hu3 := Try.underlying3
  rw [Op.equalIn]
  simp only [Sem.run_bind, run_underlying hu, Result.andThen_ok, h1]
  rw [Std.Legacy.Range.forIn_eq_forIn_range', run_forIn_all (fun y => decide (f y = g y))]
  · rw [show List.range' [:10].start [:10].size [:10].step = List.range 10 from by decide]
    cases (List.range 10).all fun y => decide (f y = g y) <;> rfl
  · intro i hi w
    have hi : i < 10 := by simpa using hi
    have r1 := hR.at_ i hi
    have r2 := hS.at_ i hi
    simp [Sem.run_bind, part, h2, r1, r2, run_equalIn_int w d 3 .i64 .i64 _ _ hu3]
    split <;> rfl

theorem run_equal_mat {C D : Array Value} {m m' : M} (hC : Mat C m) (hD : Mat D m') (d : Nat) (w : World) :
    (Op.equalIn (d + 3) 27 (.agg C) (.agg D)).run Try.prog w = .ok (matEq m m') w := by
  have hu := Try.underlying27
  have h1 := Try.sizeOf25
  have h2 := Try.isAgg25
  rw [Op.equalIn]
  simp only [Sem.run_bind, run_underlying hu, Result.andThen_ok, h1]
  rw [Std.Legacy.Range.forIn_eq_forIn_range', run_forIn_all (fun x => (List.range 10).all fun y => decide (m x y = m' x y))]
  · rw [show List.range' [:10].start [:10].size [:10].step = List.range 10 from by decide]
    unfold matEq all2
    cases (List.range 10).all fun x => (List.range 10).all fun y => decide (m x y = m' x y) <;> rfl
  · intro i hi w
    have hi : i < 10 := by simpa using hi
    have r := run_equal_row (hC.row hi) (hD.row hi) d w
    simp only [Sem.run_bind, part, h2, h1, Result.andThen_ok, Sem.run_pure, if_true, r]
    cases (List.range 10).all fun y => decide (m i y = m' i y) <;> rfl

/-- The rule for the walk. -/
theorem eqMat {C D : Array Value} {m m' : M} (hC : Mat C m) (hD : Mat D m') : ∀ w : World, (Op.equalIn 10000 27 (.agg C) (.agg D)).run Try.prog w = .ok (matEq m m') w :=
  fun w => run_equal_mat hC hD 9997 w
theorem eqGuardMat : Try.prog.eqGuardType Try.prog.depth 27 = false := by kernel_rfl
end Go.Proofs.Ytleniljhacnikaa
