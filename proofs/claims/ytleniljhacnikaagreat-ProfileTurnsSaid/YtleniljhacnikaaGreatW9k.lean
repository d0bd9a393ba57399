/-
  The program's whole, both, Sum.
-/
import Derived.Test.YtleniljhacnikaaGreatW9j
import Derived.Test.YtleniljhacnikaaGreatSpecA
namespace Go.Proofs.YtleniljhacnikaaGreat
open Go.RowKit Go.Proofs
attribute [local go_sem] cell?_more cell?_alloc_some cell?_setCell_far frozen?_alloc_some frozen?_more

/-- A profile and an error are handed back. -/
def PPost (w : World) (r : PR) (e : Ending) (w' : World) : Prop :=
  ∃ A n cp, e = .returned (.tuple #[.agg #[.int .i64 r.c, .int .u8 r.k, .slice A n cp], .int .i64 r.err]) ∧ RRows w' A n cp r.l ∧ Below w.heap.size w w'


/-- What whole hands back: its argument, or an error. -/
def WholePost (w : World) (c k : Int) (A : Option Addr) (n cp : Nat) (l : List Row) (e : Ending) (w' : World) : Prop :=
  (if checkS c k l = 0 then e = .returned (.tuple #[.agg #[.int .i64 c, .int .u8 k, .slice A n cp], .int .i64 0]) else e = .returned (.tuple #[.agg #[.int .i64 0, .int .u8 0, .slice none 0 0], .int .i64 (checkS c k l)])) ∧ Below w.heap.size w w'

set_option maxHeartbeats 1000000 in
theorem whole_val (c k : Int) (A : Option Addr) (n cp : Nat) (l : List Row) (w : World) (h : RRows w A n cp l) :
    Calls Tryz.prog 39 #[.agg #[.int .i64 c, .int .u8 k, .slice A n cp]] w (WholePost w c k A n cp l) := by
  have hS0 := ((Hs.nil w).alloc 24 #[.int .i64 c, .int .u8 k, .slice A n cp]).alloc 24 #[.int .i64 0, .int .u8 0, .slice none 0 0]
  have hb0 : Below w.heap.size w ((w.alloc (.cells #[.int .i64 c, .int .u8 k, .slice A n cp] 24)).alloc (.cells #[.int .i64 0, .int .u8 0, .slice none 0 0] 24)) := ((Below.refl _ _).alloc (Nat.le_refl _) _).alloc (by simp) _
  simp only [World.size_alloc] at hS0
  go_enter Tryz.func39, Tryz.ntmps39
  go_wp2_with fail
  refine (pcheck_any _ _ _ _ _ l _ (h.below hb0)).mono ?_
  rintro e w1 ⟨rfl, hbw⟩
  obtain ⟨hR, hP, -⟩ := hS0.below hbw
  have hb1 := Below_trans' hb0 hb0.size hbw
  clear hS0 hb0 hbw
  have z0 : w1.cell? ⟨w.heap.size + 1, 0, none⟩ = some (.int .i64 0) := hR.cell 0
  have z1 : w1.cell? ⟨w.heap.size + 1, 1, none⟩ = some (.int .u8 0) := hR.cell 1
  have z2 : w1.cell? ⟨w.heap.size + 1, 2, none⟩ = some (.slice none 0 0) := hR.cell 2
  have y0 := hR.free 0
  have y1 := hR.free 1
  have y2 := hR.free 2
  by_cases herr : checkS c k l = 0
  · have hr := hide herr
    rw [herr]
    clear herr
    have p0 : w1.cell? ⟨w.heap.size, 0, none⟩ = some (.int .i64 c) := hP.cell 0
    have p1 : w1.cell? ⟨w.heap.size, 1, none⟩ = some (.int .u8 k) := hP.cell 1
    have p2 : w1.cell? ⟨w.heap.size, 2, none⟩ = some (.slice A n cp) := hP.cell 2
    go_wp2
    exact retProf2 rfl rfl rfl (put3 hR) rfl rfl ⟨by rw [if_pos hr.out]; rfl, below3 hb1 (by omega) _ _ _⟩
  · have hr := hide herr
    have hne : (checkS c k l != 0) = true := by rw [bne_iff_ne]; exact herr
    clear herr
    go_wp2
    exact retProf2 rfl rfl rfl (put3 hR) rfl rfl ⟨by rw [if_neg hr.out]; rfl, below3 hb1 (by omega) _ _ _⟩

end Go.Proofs.YtleniljhacnikaaGreat
