/-
  The reference's Great.
  Slices of profiles; right, great, and the reference's Great of a ballot.
  law09.great: one of the profiles is too great.
  Laws for the steps of a region that draws: a new profile variable; a profile stored.
-/
import Derived.Test.YtkmcgpaoekphmaaGreatGrt
import Derived.Test.YtkmcgpaoekphmaaGreatEx09
namespace Go.Proofs.YtkmcgpaoekphmaaGreat
open Go.RowKit Go.Proofs
attribute [local go_sem] cell?_more cell?_alloc_some cell?_setCell_far frozen?_alloc_some frozen?_more
/-- A profile: its candidates, its kind, its rows. -/
abbrev Prof := Int × Int × List Row
/-- The slice value (A, n, c) reads as the profiles L in the world w (an element takes three cells). -/
def RProfs (w : World) (A : Option Addr) (n c : Nat) (L : List Prof) : Prop :=
  L.length = n ∧ n ≤ c ∧ c ≤ 9223372036854775807 ∧
    (0 < n → ∃ b off, A = some ⟨b, off, none⟩ ∧ ∀ i, i < n → ∃ Ap np cp, w.cell? ⟨b, off + i * 3, none⟩ = some (.int .i64 (L.getD i (0, 0, [])).1) ∧
      w.cell? ⟨b, off + i * 3 + 1, none⟩ = some (.int .u8 (L.getD i (0, 0, [])).2.1) ∧ w.cell? ⟨b, off + i * 3 + 2, none⟩ = some (.slice Ap np cp) ∧ RRows w Ap np cp (L.getD i (0, 0, [])).2.2)
namespace RProfs
variable {w w' : World} {A : Option Addr} {n c k : Nat} {L : List Prof}
theorem len (h : RProfs w A n c L) : L.length = n := h.1
theorem le (h : RProfs w A n c L) : n ≤ 9223372036854775807 := Nat.le_trans h.2.1 h.2.2.1
theorem step (h : RProfs w A n c L) (hk : k < n) : ∃ b off Ap np cp c1 k1 l1, A = some ⟨b, off, none⟩ ∧ w.cell? ⟨b, off + k * 3, none⟩ = some (.int .i64 c1) ∧ w.cell? ⟨b, off + k * 3 + 1, none⟩ = some (.int .u8 k1) ∧ w.cell? ⟨b, off + k * 3 + 2, none⟩ = some (.slice Ap np cp) ∧ RRows w Ap np cp l1 ∧
    Hid (L[k]? = some (c1, k1, l1)) ∧ Hid (L.drop k = (c1, k1, l1) :: L.drop (k + 1)) := by
  have hl : k < L.length := by have := h.1; omega
  obtain ⟨b, off, e, hc⟩ := h.2.2.2 (by omega)
  obtain ⟨Ap, np, cp, h1, h2, h3, h4⟩ := hc k hk
  have hg : L.getD k (0, 0, []) = L[k] := by simp [List.getD, hl]
  refine ⟨b, off, Ap, np, cp, (L.getD k (0, 0, [])).1, (L.getD k (0, 0, [])).2.1, (L.getD k (0, 0, [])).2.2, e, h1, h2, h3, h4, ?_, ?_⟩
  · rw [hg]; exact List.getElem?_eq_getElem hl
  · exact drop_step hl (0, 0, [])
theorem below (h : RProfs w A n c L) (hb : Below w.heap.size w w') : RProfs w' A n c L :=
  ⟨h.1, h.2.1, h.2.2.1, fun hn => let ⟨b, off, e, hc⟩ := h.2.2.2 hn; ⟨b, off, e, fun i hi => let ⟨Am, nm, cm, h1, h2, h3, h4⟩ := hc i hi; ⟨Am, nm, cm, keep_cell hb h1, keep_cell hb h2, keep_cell hb h3, h4.below hb⟩⟩⟩
end RProfs
theorem rcheck_val {E : Int} (c k : Int) (A : Option Addr) (n cp : Nat) (l : List Row) (w : World) (h : RRows w A n cp l) (hE : checkS c k l = E) :
    Calls Tryz.prog 32 #[.agg #[.int .i64 c, .int .u8 k, .slice A n cp]] w fun e w' => e = .returned (.int .i64 E) ∧ Below w.heap.size w w' := hE ▸ rcheck_any c k A n cp l w h

end Go.Proofs.YtkmcgpaoekphmaaGreat

namespace Go.Proofs.YtkmcgpaoekphmaaGreat
open Go.RowKit Go.Proofs
attribute [local go_sem] cell?_more cell?_alloc_some cell?_setCell_far frozen?_alloc_some frozen?_more
end Go.Proofs.YtkmcgpaoekphmaaGreat

namespace Go.Proofs.YtkmcgpaoekphmaaGreat
open Go.RowKit Go.Proofs
attribute [local go_sem] cell?_more cell?_alloc_some cell?_setCell_far frozen?_alloc_some frozen?_more
section
variable {ops : Array Oper} {o : Oper} {a : Act} {w : World} {Q : Exit → Act → World → Prop} {K : Act → World → Prop} {E : Prop}
end
section
variable {o : Oper} {a : Act} {w : World} {Q : Exit → Act → World → Prop} {K : Act → World → Prop}
end
/-- From T on, only blocks below B or made after T have changed. -/
abbrev Kept (T : World) (B : Nat) (w : World) : Prop := Frame' (fun b => b < B ∨ T.heap.size ≤ b) T w
theorem Kept.put {T w w' : World} {B g : Nat} (k : Kept T B w) (f : Frame' (fun b => b = g) w w') (hg : g < B ∨ T.heap.size ≤ g) : Kept T B w' :=
  k.trans (f.mono fun b _ e => by rw [e]; exact hg)
end Go.Proofs.YtkmcgpaoekphmaaGreat
