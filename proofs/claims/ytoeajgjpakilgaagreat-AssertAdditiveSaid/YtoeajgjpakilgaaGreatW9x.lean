/-
  Slices of ballots; the program's Make.
-/
import Derived.Test.YtoeajgjpakilgaaGreatW9p
namespace Go.Proofs.YtoeajgjpakilgaaGreat
open Go.RowKit Go.Proofs
attribute [local go_sem] cell?_more cell?_alloc_some cell?_setCell_far frozen?_alloc_some frozen?_more
/-- A ballot: its kind and its marks. -/
abbrev Bal := Int × List Int
/-- The slice value (A, n, c) reads as the ballots bl in the world w (an element takes two cells). -/
def RBals (w : World) (A : Option Addr) (n c : Nat) (bl : List Bal) : Prop :=
  bl.length = n ∧ n ≤ c ∧ c ≤ 9223372036854775807 ∧
    (0 < n → ∃ b off, A = some ⟨b, off, none⟩ ∧ ∀ i, i < n → ∃ Am nm cm, w.cell? ⟨b, off + i * 2, none⟩ = some (.int .u8 (bl.getD i (0, [])).1) ∧
      w.cell? ⟨b, off + i * 2 + 1, none⟩ = some (.slice Am nm cm) ∧ RInts w Am nm cm (bl.getD i (0, [])).2)
namespace RBals
variable {w w' : World} {A : Option Addr} {n c k : Nat} {bl : List Bal}
theorem nil_ (w : World) : RBals w none 0 0 [] := ⟨rfl, Nat.le_refl _, by omega, fun h => absurd h (by omega)⟩
theorem len (h : RBals w A n c bl) : bl.length = n := h.1
theorem le (h : RBals w A n c bl) : n ≤ 9223372036854775807 := Nat.le_trans h.2.1 h.2.2.1
theorem step (h : RBals w A n c bl) (hk : k < n) : ∃ b off Am nm cm kb ms, A = some ⟨b, off, none⟩ ∧ w.cell? ⟨b, off + k * 2, none⟩ = some (.int .u8 kb) ∧ w.cell? ⟨b, off + k * 2 + 1, none⟩ = some (.slice Am nm cm) ∧ RInts w Am nm cm ms ∧ Hid (bl[k]? = some (kb, ms)) := by
  have hl : k < bl.length := by have := h.1; omega
  obtain ⟨b, off, e, hc⟩ := h.2.2.2 (by omega)
  obtain ⟨Am, nm, cm, h1, h2, h3⟩ := hc k hk
  have hg : bl.getD k (0, []) = bl[k] := by simp [List.getD, hl]
  refine ⟨b, off, Am, nm, cm, (bl.getD k (0, [])).1, (bl.getD k (0, [])).2, e, h1, h2, h3, ?_⟩
  rw [hg]; exact List.getElem?_eq_getElem hl
theorem below (h : RBals w A n c bl) (hb : Below w.heap.size w w') : RBals w' A n c bl :=
  ⟨h.1, h.2.1, h.2.2.1, fun hn => let ⟨b, off, e, hc⟩ := h.2.2.2 hn; ⟨b, off, e, fun i hi => let ⟨Am, nm, cm, h1, h2, h3⟩ := hc i hi; ⟨Am, nm, cm, keep_cell hb h1, keep_cell hb h2, h3.below hb⟩⟩⟩
end RBals

/-- Ballots added one by one, until an error. -/
def addS (r : PR) (b : Bal) : PR := if r.err = 0 then addP r.c r.k r.l b.1 b.2 1 else r
def makeP (c k : Int) (bl : List Bal) : PR := bl.foldl addS (if newErr c k = 0 then ⟨0, c, k, []⟩ else badP 2)
theorem makeP_take {c k : Int} {bl : List Bal} {t : Nat} {b : Bal} (h : bl[t]? = some b) : makeP c k (bl.take (t + 1)) = addS (makeP c k (bl.take t)) b := by
  unfold makeP
  rw [List.take_add_one, h]
  simp
theorem foldl_stuck {r : PR} (h : r.err ≠ 0) (bl : List Bal) : bl.foldl addS r = r := by
  induction bl with
  | nil => rfl
  | cons a s ih => rw [List.foldl_cons]; unfold addS; rw [if_neg h]; exact ih
theorem makeP_stuck {c k : Int} {bl : List Bal} {t : Nat} (h : (makeP c k (bl.take t)).err ≠ 0) : makeP c k bl = makeP c k (bl.take t) := by
  have : bl = bl.take t ++ bl.drop t := (List.take_append_drop t bl).symm
  rw [this]
  conv => lhs; unfold makeP; rw [List.foldl_append]
  rw [show (bl.take t).foldl addS (if newErr c k = 0 then ⟨0, c, k, []⟩ else badP 2) = makeP c k (bl.take t) from rfl, foldl_stuck h, ← this]

/-- The variable of a profile, and what it holds. -/
def PVar (w : World) (B g : Nat) (r : PR) : Prop := ∃ A n cp, Has w g 27 #[.int .i64 r.c, .int .u8 r.k, .slice A n cp] ∧ ORows w B (.slice A n cp) r.l
theorem PVar.mk' {w : World} {B g : Nat} {r : PR} {A : Option Addr} {n cp : Nat} (h1 : Has w g 27 #[.int .i64 r.c, .int .u8 r.k, .slice A n cp]) (h2 : ORows w B (.slice A n cp) r.l) : PVar w B g r := ⟨A, n, cp, h1, h2⟩


end Go.Proofs.YtoeajgjpakilgaaGreat
