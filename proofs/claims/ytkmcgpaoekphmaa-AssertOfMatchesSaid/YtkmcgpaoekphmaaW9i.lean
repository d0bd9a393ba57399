/-
  The program's Twin.
  The library's BinarySearchFunc over rows; the program's place.
  The library's Insert of one row.
  The program's put.
  The program's whole, both, Sum.
  The program's Sum.
-/
import Derived.Test.YtkmcgpaoekphmaaW9f
import Derived.Deep.RegionHeld3
import Derived.Test.YtkmcgpaoekphmaaSpecA
import Derived.Maps.AppendAt
import Derived.Laws.CopyOwn
import Derived.Laws.Externs
import Derived.Deep.RegionWith
namespace Go.Proofs.Ytkmcgpaoekphmaa
open Go.RowKit Go.Proofs
attribute [local go_sem] cell?_more cell?_alloc_some cell?_setCell_far frozen?_alloc_some frozen?_more
end Go.Proofs.Ytkmcgpaoekphmaa

namespace Go.Proofs.Ytkmcgpaoekphmaa
open Go.RowKit Go.Proofs
attribute [local go_sem] cell?_more cell?_alloc_some cell?_setCell_far frozen?_alloc_some frozen?_more
/-- Are there ballots of the marks m? -/
def foundS (l : List Row) (m : List Int) : Bool := match l[plS l m]? with | some r => decide (r.1 = m) | none => false

theorem ret_ib {a a' : Int} {b b' : Bool} (h1 : a = a') (h2 : b = b') : Ending.returned (.tuple #[.int .i64 a, .bool b]) = .returned (.tuple #[.int .i64 a', .bool b']) := by rw [h1, h2]

end Go.Proofs.Ytkmcgpaoekphmaa

namespace Go.Proofs.Ytkmcgpaoekphmaa
open Go.RowKit Go.Proofs
attribute [local go_sem] cell?_more cell?_alloc_some cell?_setCell_far frozen?_alloc_some frozen?_more
section
variable {ops : Array Oper} {rest : List Oper} {o : Oper} {a : Act} {w : World} {Q : Exit → Act → World → Prop}
/-- A copy whose run is known. -/
theorem wpList_copy_eq (hgd : o.guard = none) (d s : Operand) (t t' : TypeId) (ho : o.op = .call { callee := .builtin .copy, args := #[d, s], argTypes := #[t, t'] }) (v u : Value) (hd : a.eval d = v) (hs : a.eval s = u) {v' : Value} {w' : World}
    (hr : (Builtin.copy_ #[t, t'] o.type #[v, u]).run Try.prog w = .ok v' w') (h : wpList Try.prog ops Q rest (a.put o.dst v') w') : wpList Try.prog ops Q (o :: rest) a w :=
  wpList_plain hgd fun _ hK => by
    unfold Oper.wp execOp
    simp only [ho, resolve, invoke, builtin, Sem.run_bind, Sem.run_pure, Result.andThen_ok, List.map_toArray, List.map_cons, List.map_nil, hd, hs, hr]
    exact hK _ _ h
end

theorem two_cells {w : World} {gx : Nat} {u z : Value} (h0 : w.cell? ⟨gx, 0, none⟩ = some u) (h1 : w.cell? ⟨gx, 1, none⟩ = some z) : ∀ j x, ([u, z] : List Value)[j]? = some x → w.cell? ((⟨gx, 0, none⟩ : Addr).add j) = some x := by
  intro j x hj
  match j, hj with
  | 0, hj => simp at hj; subst hj; exact h0
  | 1, hj => simp at hj; subst hj; exact h1
theorem two_one {u : Value} (hu : u.oneCell' = true) (y : Int) : ∀ x ∈ ([u, .int .i64 y] : List Value), x.oneCell' = true := by
  intro x hx
  simp only [List.mem_cons, List.not_mem_nil, or_false] at hx
  rcases hx with rfl | rfl
  · exact hu
  · rfl

theorem splice_ins (xs ys rest : List Value) (k m : Nat) (hk : k + 2 ≤ m) (hx : xs.length = m) (hy : ys.length = 2) (_hr : 2 ≤ rest.length) :
    (splice (splice (xs ++ rest) (k + 2) (xs.drop k)) k ys).take (m + 2) = xs.take k ++ (ys ++ xs.drop k) := by
  unfold splice
  have hd : (xs.drop k).length = m - k := by simp [hx]
  have h1 : (xs ++ rest).take (k + 2) = xs.take (k + 2) := by rw [List.take_append_of_le_length (by omega)]
  rw [h1, hy, hd]
  have h2 : (xs.take (k + 2) ++ (xs.drop k ++ (xs ++ rest).drop (k + 2 + (m - k)))).take k = xs.take k := by
    rw [List.take_append_of_le_length (by simp; omega), List.take_take, Nat.min_eq_left (by omega)]
  have h3 : (xs.take (k + 2) ++ (xs.drop k ++ (xs ++ rest).drop (k + 2 + (m - k)))).drop (k + 2) = xs.drop k ++ (xs ++ rest).drop (k + 2 + (m - k)) := by
    rw [List.drop_append_of_le_length (by simp; omega), List.drop_eq_nil_of_le (by simp; omega)]; rfl
  rw [h2, h3]
  rw [← List.append_assoc ys, ← List.append_assoc (xs.take k), List.take_append_of_le_length (by simp; omega), List.take_of_length_le (by simp; omega)]

theorem splice_new (Z xs ys : List Value) (k m : Nat) (hx : xs.length = m) (hk : k ≤ m) (hy : ys.length = 2) (hZ : Z.take k = xs.take k) (_hl : m + 2 ≤ Z.length) :
    (splice (splice Z k ys) (k + 2) (xs.drop k)).take (m + 2) = xs.take k ++ (ys ++ xs.drop k) := by
  unfold splice
  have hd : (xs.drop k).length = m - k := by simp [hx]
  rw [hy, hd, hZ]
  have hkl : (xs.take k).length = k := by simp; omega
  have h2 : (xs.take k ++ (ys ++ Z.drop (k + 2))).take (k + 2) = xs.take k ++ ys := by
    rw [← List.append_assoc, List.take_append_of_le_length (by simp; omega), List.take_of_length_le (by simp; omega)]
  rw [h2, ← List.append_assoc (xs.take k ++ ys), List.take_append_of_le_length (by simp; omega), List.take_of_length_le (by simp; omega), List.append_assoc]
theorem grown_setRow {w w1 : World} {g : Nat} (h : w.grownBy w1 (some g)) (D : Array Value) : w.grownBy (w1.setRow g D) (some g) :=
  ⟨h.os, h.tape, h.output, by simpa using h.size, fun k hk hn => (setRow_other w1 g k D (fun e => hn (by rw [e]))).trans (h.block k hk hn)⟩
theorem grown_newRow {w w1 : World} {r : Option Nat} {g : Nat} (h : w.grownBy w1 r) (hg : w.heap.size ≤ g) (D : Array Value) : w.grownBy (w1.setRow g D) r :=
  ⟨h.os, h.tape, h.output, by simpa using h.size, fun k hk hn => (setRow_other w1 g k D (by omega)).trans (h.block k hk hn)⟩

end Go.Proofs.Ytkmcgpaoekphmaa

namespace Go.Proofs.Ytkmcgpaoekphmaa
open Go.RowKit Go.Proofs
attribute [local go_sem] cell?_more cell?_alloc_some cell?_setCell_far frozen?_alloc_some frozen?_more
theorem foundS_true {l : List Row} {m : List Int} (h : foundS l m = true) : ∃ z, l[plS l m]? = some (m, z) := by
  unfold foundS at h
  split at h
  · rename_i r e
    have := of_decide_eq_true h
    exact ⟨r.2, by rw [e, ← this]⟩
  · cases h
theorem foundS_false {l : List Row} {m : List Int} (h : foundS l m = false) : ∀ z, l[plS l m]? ≠ some (m, z) := by
  intro z hz
  unfold foundS at h
  rw [hz] at h
  simp at h

theorem flat_set2 (cs : List (Value × Row)) : ∀ (t : Nat) (x : Value × Row) (y : Int), cs[t]? = some x → (cs.flatMap cell2).set (t * 2 + 1) (.int .i64 y) = (cs.set t (x.1, (x.2.1, y))).flatMap cell2 := by
  induction cs with
  | nil => intro t x u h; simp at h
  | cons a r ih =>
    intro t x u h
    cases t with
    | zero => simp at h; subst h; simp [List.flatMap_cons, cell2]
    | succ t =>
      have := ih t x u (by simpa using h)
      rw [List.flatMap_cons, List.set_cons_succ, List.flatMap_cons, ← this, show (t + 1) * 2 + 1 = t * 2 + 1 + 1 + 1 by omega]
      simp [cell2]
theorem owns_slice {w : World} {B n : Nat} {v : Value} {t : TypeId} {s : Nat} {xs : List Value} (h : w.ownsRow B t s v n xs) : ∃ A n' c, v = .slice A n' c := by
  rcases h.2 with ⟨e, _⟩ | ⟨g, cap, cur, e, _⟩
  · exact ⟨_, _, _, e⟩
  · exact ⟨_, _, _, e⟩
theorem cells_ins (cs : List (Value × Row)) (p : Nat) (u : Value) (m : List Int) (y : Int) :
    (cs.flatMap cell2).take (p * 2) ++ ([u, .int .i64 y] ++ (cs.flatMap cell2).drop (p * 2)) = (cs.take p ++ (u, (m, y)) :: cs.drop p).flatMap cell2 := by
  rw [take_cell2, drop_cell2, List.flatMap_append, List.flatMap_cons]
  rfl
end Go.Proofs.Ytkmcgpaoekphmaa

namespace Go.Proofs.Ytkmcgpaoekphmaa
open Go.RowKit Go.Proofs
attribute [local go_sem] cell?_more cell?_alloc_some cell?_setCell_far frozen?_alloc_some frozen?_more
/-- A profile and an error are handed back. -/
def PPost (w : World) (r : PR) (e : Ending) (w' : World) : Prop :=
  ∃ A n cp, e = .returned (.tuple #[.agg #[.int .i64 r.c, .int .u8 r.k, .slice A n cp], .int .i64 r.err]) ∧ RRows w' A n cp r.l ∧ Below w.heap.size w w'


/-- What whole hands back: its argument, or an error. -/
def WholePost (w : World) (c k : Int) (A : Option Addr) (n cp : Nat) (l : List Row) (e : Ending) (w' : World) : Prop :=
  (if checkS c k l = 0 then e = .returned (.tuple #[.agg #[.int .i64 c, .int .u8 k, .slice A n cp], .int .i64 0]) else e = .returned (.tuple #[.agg #[.int .i64 0, .int .u8 0, .slice none 0 0], .int .i64 (checkS c k l)])) ∧ Below w.heap.size w w'

end Go.Proofs.Ytkmcgpaoekphmaa

namespace Go.Proofs.Ytkmcgpaoekphmaa
open Go.RowKit Go.Proofs
attribute [local go_sem] cell?_more cell?_alloc_some cell?_setCell_far frozen?_alloc_some frozen?_more
theorem row_small {c k : Int} {l : List Row} (h : checkS c k l = 0) {x : Row} (hx : x ∈ l) : x.1.length ≤ 10 ∧ 0 < x.2 ∧ x.2 ≤ 1000000 := by
  obtain ⟨h1, h2, h3, h4, h5, h6, h7, h8, h9⟩ := check_iff.1 h
  have hb := h9 x hx
  refine ⟨?_, h8 x hx, Int.le_trans (le_tot h8 hx) h6⟩
  unfold bcheckS at hb
  split at hb
  · cases hb
  split at hb
  · rename_i hf
    unfold fineS at hf
    split at hf
    · simp only [Bool.and_eq_true, decide_eq_true_eq] at hf; omega
    split at hf
    · simp only [Bool.and_eq_true, List.all_eq_true] at hf
      have hn : x.1.Nodup := of_decide_eq_true hf.2
      have := hn.length_le_of_subset (fun z hz => mem_rangeI.2 (show 0 ≤ z ∧ z < ((10 : Nat) : Int) from by have := inR_iff.1 (hf.1.1 z hz); omega))
      rwa [length_rangeI] at this
    split at hf
    · simp only [Bool.and_eq_true, List.all_eq_true] at hf
      have hn : x.1.Nodup := of_decide_eq_true hf.2
      have := hn.length_le_of_subset (fun z hz => mem_rangeI.2 (show 0 ≤ z ∧ z < ((10 : Nat) : Int) from by have := inR_iff.1 (hf.1 z hz); omega))
      rwa [length_rangeI] at this
    · cases hf
  · cases hb

end Go.Proofs.Ytkmcgpaoekphmaa
