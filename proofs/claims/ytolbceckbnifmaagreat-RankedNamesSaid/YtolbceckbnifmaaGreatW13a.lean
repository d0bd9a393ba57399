/-
  The layer paths: links, longer.
  The layer paths: Strengths, Strength.
-/
import Derived.Test.YtolbceckbnifmaaGreatW10f
import Derived.Test.YtolbceckbnifmaaGreatSpecPa
import Derived.Test.YtolbceckbnifmaaGreatQTail
import Derived.Test.YtolbceckbnifmaaGreatMat
import Derived.Deep.LoopGhost
namespace Go.Proofs.YtolbceckbnifmaaGreat
open Go.RowKit Go.Proofs
attribute [local go_sem] cell?_more cell?_alloc_some cell?_setCell_far frozen?_alloc_some frozen?_more
theorem upTo_skip {g : M} {X Y : Nat} (h : g X Y = 0) (a b : Nat) : upTo g X Y a b = upTo g X (Y + 1) a b := by
  unfold upTo
  by_cases e : a = X ∧ b = Y
  · obtain ⟨rfl, rfl⟩ := e
    rw [if_neg (by omega), if_pos (by omega), h]
  · by_cases e2 : a < X ∨ (a = X ∧ b < Y)
    · rw [if_pos e2, if_pos (by omega)]
    · rw [if_neg e2, if_neg (by omega)]
/-- What longer has made of s. -/
def longT (s : M) (X Y Z : Nat) : M := fun a b => if a < X then longK s 10 a b else if a = X then (if b < Z then longK s (Y + 1) a b else longK s Y a b) else s a b
theorem longT_zero (s : M) (a b : Nat) : s a b = longT s 0 0 0 a b := by
  unfold longT
  rw [if_neg (Nat.not_lt_zero a)]
  by_cases h : a = 0
  · rw [if_pos h, if_neg (Nat.not_lt_zero b)]; rfl
  · rw [if_neg h]
theorem mm_eq (r p q : Int) : (if r < if q < p then q else p then if q < p then q else p else r) = max r (min p q) := by
  split <;> split <;> omega
theorem longT_put {s : M} {X Y Z : Nat} (hne : X ≠ Z) (a b : Nat) : (if a = X ∧ b = Z then max (longK s Y X Z) (min (s X Y) (s Y Z)) else longT s X Y Z a b) = longT s X Y (Z + 1) a b := by
  unfold longT
  by_cases e : a = X ∧ b = Z
  · obtain ⟨rfl, rfl⟩ := e
    rw [if_pos ⟨rfl, rfl⟩, if_neg (by omega), if_pos rfl, if_pos (by omega), longK_succ, if_neg hne]
  · rw [if_neg e]
    by_cases h1 : a < X
    · rw [if_pos h1, if_pos h1]
    · rw [if_neg h1, if_neg h1]
      by_cases h2 : a = X
      · rw [if_pos h2, if_pos h2]
        by_cases h3 : b < Z
        · rw [if_pos h3, if_pos (by omega)]
        · rw [if_neg h3, if_neg (by omega)]
      · rw [if_neg h2, if_neg h2]
theorem longT_here (s : M) (X Y Z : Nat) : longT s X Y Z X Z = longK s Y X Z := by
  unfold longT; rw [if_neg (by omega), if_pos rfl, if_neg (by omega)]
theorem longT_skip {s : M} {X Y Z : Nat} (he : X = Z) (a b : Nat) : longT s X Y Z a b = longT s X Y (Z + 1) a b := by
  subst he
  unfold longT
  by_cases h1 : a < X
  · rw [if_pos h1, if_pos h1]
  · rw [if_neg h1, if_neg h1]
    by_cases h2 : a = X
    · rw [if_pos h2, if_pos h2]
      by_cases h3 : b < X
      · rw [if_pos h3, if_pos (by omega)]
      · rw [if_neg h3]
        by_cases h4 : b = X
        · subst h4; subst h2; rw [if_pos (by omega), longK_diag, longK_diag]
        · rw [if_neg (by omega)]
    · rw [if_neg h2, if_neg h2]
theorem longT_mid {s : M} {X Y : Nat} (a b : Nat) (hb : b < 10) : longT s X Y 10 a b = longT s X (Y + 1) 0 a b := by
  unfold longT
  by_cases h1 : a < X
  · rw [if_pos h1, if_pos h1]
  · rw [if_neg h1, if_neg h1]
    by_cases h2 : a = X
    · rw [if_pos h2, if_pos h2, if_pos hb, if_neg (by omega)]
    · rw [if_neg h2, if_neg h2]
theorem longT_row {s : M} {X : Nat} (a b : Nat) : longT s X 10 0 a b = longT s (X + 1) 0 0 a b := by
  unfold longT
  by_cases h1 : a < X
  · rw [if_pos h1, if_pos (by omega)]
  · rw [if_neg h1]
    by_cases h2 : a = X
    · rw [if_pos h2, if_neg (by omega), if_pos (by omega)]
    · rw [if_neg h2, if_neg (by omega)]
      split
      · rw [if_neg (by omega)]; rfl
      · rfl
theorem longT_end {s : M} (a b : Nat) (ha : a < 10) : longT s 10 0 0 a b = longM s a b := by unfold longT; rw [if_pos ha]; rfl
end Go.Proofs.YtolbceckbnifmaaGreat

namespace Go.Proofs.YtolbceckbnifmaaGreat
open Go.RowKit Go.Proofs
attribute [local go_sem] cell?_more cell?_alloc_some cell?_setCell_far frozen?_alloc_some frozen?_more
theorem infoRow3 : (Tryz.prog.info? 22).map (fun i => (i.zero, i.size, i.bytes)) = some (some (.agg #[.int .i64 0, .int .i64 0, .int .i64 0, .int .i64 0, .int .i64 0, .int .i64 0, .int .i64 0, .int .i64 0, .int .i64 0, .int .i64 0]), 10, 80) := by kernel_rfl
section
variable {ops : Array Oper} {rest : List Oper} {o : Oper} {a : Act} {w : World} {Q : Exit → Act → World → Prop}
/-- A copy whose run is known. -/
theorem copy_eqM (hgd : o.guard = none) (d s : Operand) (t t' : TypeId) (ho : o.op = .call { callee := .builtin .copy, args := #[d, s], argTypes := #[t, t'] }) (v u : Value) (hd : a.eval d = v) (hs : a.eval s = u) {v' : Value} {w' : World}
    (hr : (Builtin.copy_ #[t, t'] o.type #[v, u]).run Tryz.prog w = .ok v' w') (h : wpList Tryz.prog ops Q rest (a.put o.dst v') w') : wpList Tryz.prog ops Q (o :: rest) a w :=
  wpList_plain hgd fun _ hK => by
    unfold Oper.wp execOp
    simp only [ho, resolve, invoke, builtin, Sem.run_bind, Sem.run_pure, Result.andThen_ok, List.map_toArray, List.map_cons, List.map_nil, hd, hs, hr]
    exact hK _ _ h
end
theorem getD_pc {p : List Int} {k : Nat} {v : Int} (h : p[k]? = some v) : p.getD k 0 = v := by simp [List.getD, h]
theorem lnkI_nat (m : M) {x y : Nat} (hx : x < 10) (hy : y < 10) : lnkI m x y = lnkS m x y := by
  unfold lnkI; rw [if_pos ⟨by omega, by omega, by omega, by omega⟩]; rfl
end Go.Proofs.YtolbceckbnifmaaGreat
