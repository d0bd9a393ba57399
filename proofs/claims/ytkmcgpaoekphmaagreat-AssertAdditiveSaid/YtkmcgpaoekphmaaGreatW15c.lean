/-
  First preferences: runoff.firsts at any closure, the reference's Had.
  Firsts, of both.
-/
import Derived.Test.YtkmcgpaoekphmaaGreatW9e
import Derived.Test.YtkmcgpaoekphmaaGreatApp2
import Derived.Deep.CutRange
namespace Go.Proofs.YtkmcgpaoekphmaaGreat
open Go.RowKit Go.Proofs Go.Shelf
attribute [local go_sem] cell?_more cell?_alloc_some cell?_setCell_far frozen?_alloc_some frozen?_more
/-- What a valid ranked profile gives. -/
structure RankOK (l : List Row) (C : Nat) : Prop where
  len : l.length ≤ 64
  c1 : 1 ≤ C
  c10 : C ≤ 10
  tot : totS l ≤ 1000000
  pos : Pos l
  marks : ∀ r ∈ l, ∀ x ∈ r.1, 0 ≤ x ∧ x < C
end Go.Proofs.YtkmcgpaoekphmaaGreat

namespace Go.Proofs.YtkmcgpaoekphmaaGreat
open Go.RowKit Go.Proofs Go.Shelf
attribute [local go_sem] cell?_more cell?_alloc_some cell?_setCell_far frozen?_alloc_some frozen?_more
theorem RBools.at {w : World} {A : Option Addr} {n c k : Nat} {bs : List Bool} (h : RBools w A n c bs) (hk : k < n) : ∃ b off, A = some ⟨b, off, none⟩ ∧ w.cell? ⟨b, off + k, none⟩ = some (.bool (bs.getD k false)) := by
  obtain ⟨b, off, e, hc⟩ := h.2.2.2 (by omega)
  exact ⟨b, off, e, hc k hk⟩
end Go.Proofs.YtkmcgpaoekphmaaGreat

/-
  A round of the program's runoff: the state of a count; the round up to its test.
  A round of the program's runoff.
-/
namespace Go.Proofs.YtkmcgpaoekphmaaGreat
open Go.RowKit Go.Proofs Go.Shelf
attribute [local go_sem] cell?_more cell?_alloc_some cell?_setCell_far frozen?_alloc_some frozen?_more
theorem RankOK.had {l : List Row} {C : Nat} (h : RankOK l C) (φ : Int → Bool) (x : Int) : 0 ≤ hadS φ l x ∧ hadS φ l x ≤ 1000000 := by
  have h1 := hadS_bd (φ := φ) h.pos x
  have h2 := h.tot
  omega
theorem RankOK.lost {l : List Row} {C : Nat} (h : RankOK l C) (φ : Int → Bool) : 0 ≤ lostS φ l ∧ lostS φ l ≤ 1000000 := by
  have h1 := lostS_bd (φ := φ) h.pos
  have h2 := h.tot
  omega
theorem RankOK.sum {l : List Row} {C : Nat} (h : RankOK l C) (φ : Int → Bool) : (hadL φ l C).sum ≤ 1000000 := by
  have h1 := had_all (φ := φ) h.marks
  have h2 := h.lost φ
  have h3 := h.tot
  omega
end Go.Proofs.YtkmcgpaoekphmaaGreat

namespace Go.Proofs.YtkmcgpaoekphmaaGreat
open Go.RowKit Go.Proofs Go.Shelf
attribute [local go_sem] cell?_alt cell?_more cell?_alloc_some cell?_setCell_far frozen?_alloc_some frozen?_more
theorem lit_ints {w : World} {g : Nat} {t : TypeId} {x : Int} (h : Has w g t #[.int .i64 x]) (hx : I64 x) : RInts w (some ⟨g, 0, none⟩) 1 1 [x] := by
  refine ⟨rfl, Nat.le_refl _, by omega, fun y hy => by simp at hy; subst hy; exact hx, fun _ => ⟨g, 0, rfl, fun i hi => ?_⟩⟩
  obtain rfl : i = 0 := by omega
  rw [h.cell]; rfl
end Go.Proofs.YtkmcgpaoekphmaaGreat
