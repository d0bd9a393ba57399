/-
  The program's turned, with any closure.
  The program's Keep, of a profile.
-/
import Derived.Test.YtoeajgjpakilgaaGreatW9i
import Derived.Test.YtoeajgjpakilgaaGreatW8f
import Derived.Shelf.Abstract
namespace Go.Proofs.YtoeajgjpakilgaaGreat
open Go.RowKit Go.Proofs Go.Shelf
attribute [local go_sem] cell?_more cell?_alloc_some cell?_setCell_far frozen?_alloc_some frozen?_more
/-- Each row's marks turned, and put anew. -/
def eachS (f : List Int → List Int) (l : List Row) : List Row := sumRows [] (l.map fun r => (f r.1, r.2))
def turnP (f : List Int → List Int) (c k : Int) (l : List Row) : PR := if checkS c k l = 0 then ⟨0, c, k, eachS f l⟩ else badP (checkS c k l)

/-- What the closure hands back: a ballot, and no error. -/
def TurnPost (W : World) (k : Int) (ms : List Int) (e : Ending) (w' : World) : Prop :=
  ∃ A n c, e = .returned (.tuple #[.agg #[.int .u8 k, .slice A n c], .int .i64 0]) ∧ RInts w' A n c ms ∧ Below W.heap.size W w'

theorem asc_nil : Asc [] := List.Pairwise.nil
theorem pos_nil : Pos [] := by intro x hx; simp at hx
theorem pos_map {l : List Row} (h : Pos l) (f : List Int → List Int) : Pos (l.map fun r => (f r.1, r.2)) := by
  intro x hx
  obtain ⟨r, hr, rfl⟩ := List.mem_map.1 hx
  exact h r hr
theorem tot_map (l : List Row) (f : List Int → List Int) : totS (l.map fun r => (f r.1, r.2)) = totS l := by
  unfold totS; rw [List.map_map]; rfl

end Go.Proofs.YtoeajgjpakilgaaGreat

namespace Go.Proofs.YtoeajgjpakilgaaGreat
open Go.RowKit Go.Proofs Go.Shelf
attribute [local go_sem] cell?_more cell?_alloc_some cell?_setCell_far frozen?_alloc_some frozen?_more
/-- A function hands back a ballot and a value beside it. -/
theorem retBal2 {fn : Func} {R : Ending → World → Prop} {a : Act} {w : World} {p q g : Nat} {C : Array Value} {v : Value} (hr : fn.results = #[.cell p 29, .tmp q]) (hp : a.tmps.getD p undef = .pointer (some ⟨g, 0, none⟩))
    (hq : a.tmps.getD q undef = v) (hg : Has w g 29 C) (hs : C.size = 2) (hd : a.defers = []) (hR : R (.returned (.tuple #[.agg C, v])) w) : bodyPost Tryz.prog fn R .ret a w := by
  have hl := run_loadVar_row (P := Tryz.prog) w g _ 29 C (0, 0) _ hg Tryz.underlying29 rfl (infoBal.trans (by rw [hs]))
  refine bodyPost_ret (v := .tuple #[.agg C, v]) ?_ hd hR
  have hp' : a.tmps[p]?.getD undef = .pointer (some ⟨g, 0, none⟩) := by simpa using hp
  have hq' : a.tmps[q]?.getD undef = v := by simpa using hq
  simp [results, hr, hp', hq', asAddr, hl]

theorem length_keptS (k : Int) (ms : List Int) (bs : List Bool) : (keptS k ms bs).length ≤ ms.length := by
  unfold keptS
  split
  · exact List.length_filter_le ..
  · split
    · simp
    · exact Nat.le_refl _

end Go.Proofs.YtoeajgjpakilgaaGreat
