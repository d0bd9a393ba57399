/-
  The reference's whole and both.
-/
import Derived.Test.YtoeajgjpakilgaaGreatW9u
import Derived.Test.YtoeajgjpakilgaaGreatW9y
import Derived.Test.YtoeajgjpakilgaaGreatGr9
namespace Go.Proofs.YtoeajgjpakilgaaGreat
open Go.RowKit Go.Proofs
attribute [local go_sem] cell?_more cell?_alloc_some cell?_setCell_far frozen?_alloc_some frozen?_more
set_option maxHeartbeats 1000000 in
theorem rwholeR_any (c k : Int) (A : Option Addr) (n cp : Nat) (l : List Row) (w : World) (h : RRows w A n cp l) :
    Calls Tryz.prog 25 #[.agg #[.int .i64 c, .int .u8 k, .slice A n cp]] w (PPostO w (wholeP c k l)) := by
  have hl := h.len
  have hS0 := ((Hs.nil w).alloc 27 #[.int .i64 c, .int .u8 k, .slice A n cp]).alloc 27 #[.int .i64 0, .int .u8 0, .slice none 0 0]
  have hb0 : Below w.heap.size w ((w.alloc (.cells #[.int .i64 c, .int .u8 k, .slice A n cp] 27)).alloc (.cells #[.int .i64 0, .int .u8 0, .slice none 0 0] 27)) := ((Below.refl _ _).alloc (Nat.le_refl _) _).alloc (by simp) _
  have hz0 : w.heap.size + 2 ≤ ((w.alloc (.cells #[.int .i64 c, .int .u8 k, .slice A n cp] 27)).alloc (.cells #[.int .i64 0, .int .u8 0, .slice none 0 0] 27)).heap.size := by simp
  simp only [World.size_alloc] at hS0
  go_enter Tryz.func25, Tryz.ntmps25
  go_wp2_with fail
  by_cases herr : checkS c k l = 0
  · have H1 := hide herr
    refine (rcheck_val _ _ _ _ _ l _ (h.below hb0) herr).mono ?_
    clear herr
    rintro e w1 ⟨rfl, hbw⟩
    obtain ⟨hR, hP, -⟩ := hS0.below hbw
    have hb1 := Below_trans' hb0 hb0.size hbw
    have hz1 := Nat.le_trans hz0 hbw.size
    clear hS0 hb0 hbw hz0
    have p0 : w1.cell? ⟨w.heap.size, 0, none⟩ = some (.int .i64 c) := hP.cell 0
    have p1 : w1.cell? ⟨w.heap.size, 1, none⟩ = some (.int .u8 k) := hP.cell 1
    have p2 : w1.cell? ⟨w.heap.size, 2, none⟩ = some (.slice A n cp) := hP.cell 2
    go_wp2_with fail
    refine (rtwin_any c k A n cp l w1 (h.below hb1) (by have := (check_iff.1 H1.out).1; omega) (fun r hr => by have := (row_small H1.out hr).1; omega)).mono ?_
    rintro e w2 ⟨v, rfl, hO, hbw⟩
    replace hO := hO.mono hz1
    have hR2 := hR.below hbw hR.lt
    have hb2 := Below_trans' hb1 hb1.size hbw
    clear hR hP hb1 hbw p0 p1 p2 hz1
    obtain ⟨Av, nv, cv, rfl⟩ : ∃ Av nv cv, v = .slice Av nv cv := by
      rcases hO.slice with ⟨e, _⟩ | ⟨g', cap, cur, e, _⟩
      · exact ⟨none, 0, 0, e⟩
      · exact ⟨_, _, _, e⟩
    have z0 : w2.cell? ⟨w.heap.size + 1, 0, none⟩ = some (.int .i64 0) := hR2.cell 0
    have z1 : w2.cell? ⟨w.heap.size + 1, 1, none⟩ = some (.int .u8 0) := hR2.cell 1
    have z2 : w2.cell? ⟨w.heap.size + 1, 2, none⟩ = some (.slice none 0 0) := hR2.cell 2
    have y0 := hR2.free 0
    have y1 := hR2.free 1
    have y2 := hR2.free 2
    have hr : Hid (wholeP c k l = ⟨0, c, k, l⟩) := by unfold Hid wholeP; rw [if_pos H1.out]
    go_wp2
    refine retProf2 rfl rfl rfl (put3 hR2) rfl rfl ⟨Av, nv, cv, ?_, ?_, below3 hb2 (by omega) _ _ _⟩
    · rw [hr.out]; rfl
    · rw [hr.out]
      exact (hO.frame (frame3 w2 (w.heap.size + 1) _ _ _) (fun b hb _ e => by omega)).mono (by omega)
  · refine (rcheck_any _ _ _ _ _ l _ (h.below hb0)).mono ?_
    rintro e w1 ⟨rfl, hbw⟩
    obtain ⟨hR, hP, -⟩ := hS0.below hbw
    have hb1 := Below_trans' hb0 hb0.size hbw
    clear hS0 hb0 hbw hz0
    have z0 : w1.cell? ⟨w.heap.size + 1, 0, none⟩ = some (.int .i64 0) := hR.cell 0
    have z1 : w1.cell? ⟨w.heap.size + 1, 1, none⟩ = some (.int .u8 0) := hR.cell 1
    have z2 : w1.cell? ⟨w.heap.size + 1, 2, none⟩ = some (.slice none 0 0) := hR.cell 2
    have y0 := hR.free 0
    have y1 := hR.free 1
    have y2 := hR.free 2
    have hne : (checkS c k l != 0) = true := by rw [bne_iff_ne]; exact herr
    have hr : Hid (wholeP c k l = badP (checkS c k l)) := by unfold Hid wholeP; rw [if_neg herr]
    clear herr
    go_wp2
    refine retProf2 rfl rfl rfl (put3 hR) rfl rfl ⟨none, 0, 0, ?_, ?_, below3 hb1 (by omega) _ _ _⟩
    · rw [hr.out]; rfl
    · rw [hr.out]; exact ORows.nil_ _ _

end Go.Proofs.YtoeajgjpakilgaaGreat
