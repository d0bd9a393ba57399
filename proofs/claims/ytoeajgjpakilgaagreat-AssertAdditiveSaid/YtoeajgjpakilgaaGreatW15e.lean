/-
  First preferences: runoff.firsts at any closure, the reference's Had.
  Firsts, of both.
-/
import Derived.Test.YtoeajgjpakilgaaGreatW11g
import Derived.Test.YtoeajgjpakilgaaGreatApp2
import Derived.Deep.CutRange
import Derived.Deep.LoopGhost
namespace Go.Proofs.YtoeajgjpakilgaaGreat
open Go.RowKit Go.Proofs Go.Shelf
attribute [local go_sem] cell?_more cell?_alloc_some cell?_setCell_far frozen?_alloc_some frozen?_more
/-- What a valid ranked profile gives. -/
structure RankOK (l : List Row) (C : Nat) : Prop where
  len : l.length ≤ 64
  c1 : 1 ≤ C
  c10 : C ≤ 10
  tot : totS l ≤ 1000000
  pos : Pos l
  marks : ∀ r ∈ l, ∀ x ∈ r.1, 0 ≤ x ∧ x < C
end Go.Proofs.YtoeajgjpakilgaaGreat

namespace Go.Proofs.YtoeajgjpakilgaaGreat
open Go.RowKit Go.Proofs Go.Shelf
attribute [local go_sem] cell?_more cell?_alloc_some cell?_setCell_far frozen?_alloc_some frozen?_more
theorem RBools.at {w : World} {A : Option Addr} {n c k : Nat} {bs : List Bool} (h : RBools w A n c bs) (hk : k < n) : ∃ b off, A = some ⟨b, off, none⟩ ∧ w.cell? ⟨b, off + k, none⟩ = some (.bool (bs.getD k false)) := by
  obtain ⟨b, off, e, hc⟩ := h.2.2.2 (by omega)
  exact ⟨b, off, e, hc k hk⟩
end Go.Proofs.YtoeajgjpakilgaaGreat

/-
  A round of the program's runoff: the state of a count; the round up to its test.
  A round of the program's runoff.
-/
namespace Go.Proofs.YtoeajgjpakilgaaGreat
open Go.RowKit Go.Proofs Go.Shelf
attribute [local go_sem] cell?_more cell?_alloc_some cell?_setCell_far frozen?_alloc_some frozen?_more
theorem RankOK.had {l : List Row} {C : Nat} (h : RankOK l C) (φ : Int → Bool) (x : Int) : 0 ≤ hadS φ l x ∧ hadS φ l x ≤ 1000000 := by
  have h1 := hadS_bd (φ := φ) h.pos x
  have h2 := h.tot
  omega
theorem RankOK.lost {l : List Row} {C : Nat} (h : RankOK l C) (φ : Int → Bool) : 0 ≤ lostS φ l ∧ lostS φ l ≤ 1000000 := by
  have h1 := lostS_bd (φ := φ) h.pos
  have h2 := h.tot
  omega
theorem RankOK.sum {l : List Row} {C : Nat} (h : RankOK l C) (φ : Int → Bool) : (hadL φ l C).sum ≤ 1000000 := by
  have h1 := had_all (φ := φ) h.marks
  have h2 := h.lost φ
  have h3 := h.tot
  omega
end Go.Proofs.YtoeajgjpakilgaaGreat

namespace Go.Proofs.YtoeajgjpakilgaaGreat
open Go.RowKit Go.Proofs Go.Shelf
attribute [local go_sem] cell?_alt cell?_more cell?_alloc_some cell?_setCell_far frozen?_alloc_some frozen?_more
theorem lit_ints {w : World} {g : Nat} {t : TypeId} {x : Int} (h : Has w g t #[.int .i64 x]) (hx : I64 x) : RInts w (some ⟨g, 0, none⟩) 1 1 [x] := by
  refine ⟨rfl, Nat.le_refl _, by omega, fun y hy => by simp at hy; subst hy; exact hx, fun _ => ⟨g, 0, rfl, fun i hi => ?_⟩⟩
  obtain rfl : i = 0 := by omega
  rw [h.cell]; rfl
end Go.Proofs.YtoeajgjpakilgaaGreat

/-
  Count, of the program's runoff.
  Literals of the chapters' examples: rounds, ties, rows.
-/
namespace Go.Proofs.YtoeajgjpakilgaaGreat
open Go.RowKit Go.Proofs Go.Shelf
attribute [local go_sem] cell?_alt cell?_more cell?_alloc_some cell?_setCell_far frozen?_alloc_some frozen?_more
/-- A state of the rounds: who is left, what has been. -/
structure CtInv (l : List Row) (C : Nat) (lot left : List Int) (rs : List Rnd) (ts : List Row) : Prop where
  sub : left.Sublist (rangeI C)
  ne : left ≠ []
  nrs : rs.length + left.length ≤ C
  nts : ts.length + left.length ≤ C
  out : countS l C lot left.length left rs ts = countS l C lot C (rangeI C) [] []
theorem CtInv.start (l : List Row) {C : Nat} (lot : List Int) (h : 1 ≤ C) : CtInv l C lot (rangeI C) [] [] :=
  ⟨List.Sublist.refl _, fun e => by have := congrArg List.length e; rw [length_rangeI] at this; simp at this; omega, by simp [length_rangeI], by simp [length_rangeI], by rw [length_rangeI]⟩
end Go.Proofs.YtoeajgjpakilgaaGreat

namespace Go.Proofs.YtoeajgjpakilgaaGreat
open Go.RowKit Go.Proofs Go.Shelf
attribute [local go_sem] cell?_more cell?_alloc_some cell?_setCell_far frozen?_alloc_some frozen?_more
theorem ints_lit {w : World} {g t : Nat} (xs : List Int) (h : Has w g t (icells xs)) (hn : xs.length ≤ 9223372036854775807) (hx : ∀ x ∈ xs, I64 x) : RInts w (some ⟨g, 0, none⟩) xs.length xs.length xs := by
  refine ⟨rfl, Nat.le_refl _, hn, hx, fun _ => ⟨g, 0, rfl, fun i hi => ?_⟩⟩
  rw [Nat.zero_add, h.cell]
  simp [icells, List.getD, hi]
theorem lit2 {w : World} {g t : Nat} {x y : Int} (h : Has w g t #[.int .i64 x, .int .i64 y]) (hx : I64 x) (hy : I64 y) : RInts w (some ⟨g, 0, none⟩) 2 2 [x, y] :=
  ints_lit [x, y] h (by simp) (by intro z hz; simp at hz; rcases hz with rfl | rfl; exact hx; exact hy)
theorem lit3 {w : World} {g t : Nat} {x y z : Int} (h : Has w g t #[.int .i64 x, .int .i64 y, .int .i64 z]) (hx : I64 x) (hy : I64 y) (hz : I64 z) : RInts w (some ⟨g, 0, none⟩) 3 3 [x, y, z] :=
  ints_lit [x, y, z] h (by simp) (by intro u hu; simp at hu; rcases hu with rfl | rfl | rfl; exact hx; exact hy; exact hz)
theorem ragg2 {α : Type} {E : World → List Value → α → Prop} {size : Nat} {w : World} {g t : Nat} {us vs : List Value} {x y : α} (hg : Has w g t (us ++ vs).toArray) (hu : us.length = size) (hv : vs.length = size) (h1 : E w us x) (h2 : E w vs y) : RAgg E size w (some ⟨g, 0, none⟩) 2 2 [x, y] := by
  refine ⟨rfl, Nat.le_refl _, by omega, fun _ => ⟨g, 0, rfl, fun i hi => ?_⟩⟩
  have : i = 0 ∨ i = 1 := by omega
  rcases this with rfl | rfl
  · refine ⟨us, x, rfl, hu, fun j u hj => ?_, h1⟩
    have hjl := (List.getElem?_eq_some_iff.1 hj).1
    rw [hg.cell, ← Array.getElem?_toList]
    simp only [Nat.zero_mul, Nat.zero_add]
    rw [List.getElem?_append_left hjl]; exact hj
  · refine ⟨vs, y, rfl, hv, fun j u hj => ?_, h2⟩
    rw [hg.cell, ← Array.getElem?_toList]
    simp only [Nat.one_mul, Nat.zero_add]
    rw [List.getElem?_append_right (by omega), hu, show size + j - size = j by omega]; exact hj
end Go.Proofs.YtoeajgjpakilgaaGreat
