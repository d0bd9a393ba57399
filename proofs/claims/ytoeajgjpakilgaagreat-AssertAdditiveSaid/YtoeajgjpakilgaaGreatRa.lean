/-
  The reference's Add and Take.
-/
import Derived.Test.YtoeajgjpakilgaaGreatRw
import Derived.Test.YtoeajgjpakilgaaGreatW9p
import Derived.Test.YtoeajgjpakilgaaGreatW9e
import Derived.Test.YtoeajgjpakilgaaGreatW9t
import Derived.Test.YtoeajgjpakilgaaGreatSpecW
import Derived.Test.YtoeajgjpakilgaaGreatQTail
namespace Go.Proofs.YtoeajgjpakilgaaGreat
open Go.RowKit Go.Proofs
attribute [local go_sem] cell?_more cell?_alloc_some cell?_setCell_far frozen?_alloc_some frozen?_more
/-- Numbers outlive a store to a cell that held a slice. -/
theorem RInts.setOdd {w : World} {A : Option Addr} {n c : Nat} {xs : List Int} (h : RInts w A n c xs) {p : Addr} {Ap : Option Addr} {np cp : Nat} (hp : w.cell? p = some (.slice Ap np cp)) (v : Value) : RInts (w.setCell p v) A n c xs := by
  refine ⟨h.1, h.2.1, h.2.2.1, h.2.2.2.1, fun hn => ?_⟩
  obtain ⟨b, off, e, hc⟩ := h.2.2.2.2 hn
  refine ⟨b, off, e, fun i hi => ?_⟩
  rw [World.cell?_setCell_other w p _ v (fun e2 => by have := hc i hi; rw [← e2, hp] at this; cases this)]
  exact hc i hi
/-- Rows outlive a store to a profile's slice. -/
theorem RRows.setBox {w : World} {A : Option Addr} {n c : Nat} {l : List Row} (h : RRows w A n c l) {g : Nat} {x y : Value} {Ap : Option Addr} {np cp : Nat} (hg : Has w g 27 #[x, y, .slice Ap np cp]) (v : Value) : RRows (w.setCell ⟨g, 2, none⟩ v) A n c l := by
  refine ⟨h.1, h.2.1, h.2.2.1, fun hn => ?_⟩
  obtain ⟨b, off, e, hc⟩ := h.2.2.2 hn
  refine ⟨b, off, e, fun i hi => ?_⟩
  obtain ⟨Am, nm, cm, h0, hm, h1, hy⟩ := hc i hi
  have hp : w.cell? ⟨g, 2, none⟩ = some (.slice Ap np cp) := hg.cell 2
  have h3 : w.cell? ⟨g, 3, none⟩ = none := hg.cell 3
  refine ⟨Am, nm, cm, ?_, hm.setOdd hp v, ?_, hy⟩
  · rw [World.cell?_setCell_other w _ _ v (fun e2 => by
      have e3 : g = b := congrArg Addr.block e2
      have e4 : (2 : Nat) = off + i * 2 := congrArg Addr.off e2
      rw [← e3, show off + i * 2 + 1 = 3 by omega, h3] at h1
      cases h1)]
    exact h0
  · rw [World.cell?_setCell_other w _ _ v (fun e2 => by rw [← e2, hp] at h1; cases h1)]
    exact h1

theorem cnt_bd {l : List Row} (h : Pos l) (m : List Int) : 0 ≤ cntR l m ∧ cntR l m ≤ totS l := by
  induction l with
  | nil => exact ⟨by simp [cntR], by simp [cntR, totS]⟩
  | cons a r ih =>
    have h1 := ih fun x hx => h x (List.mem_cons_of_mem _ hx)
    have h2 := h a (List.mem_cons_self ..)
    have h3 : totS (a :: r) = a.2 + totS r := by simp [totS]
    rw [cntR, h3]
    split <;> omega

set_option maxRecDepth 100000 in
set_option maxHeartbeats 2000000 in
theorem radd_any (c k : Int) (A : Option Addr) (n cp : Nat) (l : List Row) (kb : Int) (Ab : Option Addr) (nb cb : Nat) (mb : List Int) (y : Int) (w : World) (h : RRows w A n cp l) (hm : RInts w Ab nb cb mb) :
    Calls Tryz.prog 9 #[.agg #[.int .i64 c, .int .u8 k, .slice A n cp], .agg #[.int .u8 kb, .slice Ab nb cb], .int .i64 y] w (PPostO w (addP c k l kb mb y)) := by
  have hl := h.len
  have hml := hide hm.len
  have hS0 := (((Hs.nil w).alloc 27 #[.int .i64 c, .int .u8 k, .slice A n cp]).alloc 29 #[.int .u8 kb, .slice Ab nb cb]).alloc 27 #[.int .i64 0, .int .u8 0, .slice none 0 0]
  have hb0 : Below w.heap.size w (((w.alloc (.cells #[.int .i64 c, .int .u8 k, .slice A n cp] 27)).alloc (.cells #[.int .u8 kb, .slice Ab nb cb] 29)).alloc (.cells #[.int .i64 0, .int .u8 0, .slice none 0 0] 27)) := (((Below.refl _ _).alloc (Nat.le_refl _) _).alloc (by simp) _).alloc (by simp; omega) _
  have hz0 : (((w.alloc (.cells #[.int .i64 c, .int .u8 k, .slice A n cp] 27)).alloc (.cells #[.int .u8 kb, .slice Ab nb cb] 29)).alloc (.cells #[.int .i64 0, .int .u8 0, .slice none 0 0] 27)).heap.size = w.heap.size + 3 := by simp
  simp only [World.size_alloc] at hS0
  go_enter Tryz.func9, Tryz.ntmps9
  go_wp2_with fail
  generalize hW : World.alloc (World.alloc (World.alloc _ _) _) _ = W0 at hS0 hb0 hz0
  try rw [hW]
  clear hW
  refine (rmay_any c k A n cp l kb Ab nb cb mb y _ (h.below hb0) (hm.below hb0)).mono ?_
  rintro e w1 ⟨rfl, hbw⟩
  obtain ⟨hR, hQ, hP, -⟩ := hS0.below hbw
  have hb1 := Below_trans' hb0 hb0.size hbw
  have hz1 : w.heap.size + 3 ≤ w1.heap.size := by have := hbw.size; omega
  have hm1 := hm.below hb1
  clear hS0 hb0 hbw hz0
  by_cases herr : mayR c k l kb mb y = 0
  · by_cases hy9 : 1000001 < y
    · obtain ⟨hc1, hk1, hc2, hy1⟩ := mayR_ok herr
      have hasc := (check_iff.1 hc1).2.2.2.2.2.2.1
      have hpos := (check_iff.1 hc1).2.2.2.2.2.2.2.1
      have htot := (check_iff.1 hc1).2.2.2.2.2.1
      have h64 := (check_iff.1 hc1).1
      obtain ⟨hcn, hct⟩ := cnt_bd hpos mb
      have hwith : Hid (withS l mb (cntR l mb + 1000001) = putS l mb (1000001)) := with_put hasc hpos (by omega)
      have hr : Hid (addP c k l kb mb y = wholeP c k (putS l mb (1000001))) := by unfold Hid addP cutS; rw [if_pos herr, if_pos hy9]
      have hml10 := marks_small hc2
      have hmll := hml.out
      rw [herr]
      clear herr hc1 hk1 hc2 hasc hpos
      have p0 : w1.cell? ⟨w.heap.size, 0, none⟩ = some (.int .i64 c) := hP.cell 0
      have p1 : w1.cell? ⟨w.heap.size, 1, none⟩ = some (.int .u8 k) := hP.cell 1
      have p2 : w1.cell? ⟨w.heap.size, 2, none⟩ = some (.slice A n cp) := hP.cell 2
      have q1 : w1.cell? ⟨w.heap.size + 1, 1, none⟩ = some (.slice Ab nb cb) := hQ.cell 1
      have f2 := hP.free 2
      have hL1 := h.below hb1
      have hsum : IntKind.i64.wrap (cntR l mb + 1000001) = cntR l mb + 1000001 := IntWalk.i64_in _ ⟨by omega, by omega⟩
      have hI : I64 (cntR l mb + 1000001) := ⟨by omega, by omega⟩
      have hn1 : n ≤ 1000 := by omega
      clear htot hcn hct
      go_upto_region 4 with fail
      refine wp_region_more_pick [0, 1, 2, 3, 4, 5, 6, 7, 8, 9, 10, 11] [12, 13, 14] (by kernel_rfl) (by kernel_rfl) ?_
      simp only [pickOps, List.getElem?_cons_zero, List.getElem?_cons_succ]
      repeat (go_big_quiet_step (with_reducible exact more_of (rof_any A n cp l Ab nb cb mb _ (hL1.more _) (hm1.more _))))
      refine wpQuiet_nil ?_
      rintro w2 ⟨q2, hw2⟩
      have hb2 := below_of_eq hw2
      clear hw2 q2
      have hL2 := hL1.below hb2
      have hm2 := hm1.below hb2
      have hP2 := hP.below hb2 hP.lt
      have hR2 := hR.below hb2 hR.lt
      have hb02 := Below_trans' hb1 hb1.size hb2
      have hz2 := Nat.le_trans hz1 hb2.size
      clear p0 p1 p2 q1 f2 hL1 hb2 hb1 hP hR hQ hz1 hm1 hsum
      go_wp2_with fail
      refine (with_any A n cp l Ab nb cb mb (cntR l mb + 1000001) w2 hL2 hm2 hn1 (by omega) hI).mono ?_
      rintro e w3 ⟨v, rfl, hO, hbw⟩
      rw [hwith.out] at hO
      obtain ⟨Aw, cw, rfl⟩ := hO.slice
      have hP3 := hP2.below hbw hP2.lt
      have hR3 := hR2.below hbw hR2.lt
      have hb03 := Below_trans' hb02 hb02.size hbw
      have hz3 := Nat.le_trans hz2 hbw.size
      clear hP2 hR2 hb02 hz2 hL2 hm2 hbw
      have hP4 : Has (w3.setCell ⟨w.heap.size, 2, none⟩ (.slice Aw (putS l mb (1000001)).length cw)) w.heap.size 27 #[.int .i64 c, .int .u8 k, .slice Aw (putS l mb (1000001)).length cw] := hP3.put 2 (.slice Aw (putS l mb (1000001)).length cw)
      have hL4 := hO.rows.setBox hP3 (.slice Aw (putS l mb (1000001)).length cw)
      have k4 : Frame' (fun b => b = w.heap.size) w3 (w3.setCell ⟨w.heap.size, 2, none⟩ (.slice Aw (putS l mb (1000001)).length cw)) := Frame'.setCell (p := ⟨w.heap.size, 2, none⟩) (Frame'.refl (fun b => b = w.heap.size) w3) (.inl rfl) _
      have hR4 := k4.has hR3 (by show ¬ (w.heap.size + 2 = w.heap.size); omega)
      have hb4 := hb03.setCell (p := ⟨w.heap.size, 2, none⟩) (Nat.le_refl _) (.slice Aw (putS l mb (1000001)).length cw)
      have hz4 := Nat.le_trans hz3 k4.size
      have p2 : w3.cell? ⟨w.heap.size, 2, none⟩ = some (.slice A n cp) := hP3.cell 2
      have f2 := hP3.free 2
      go_upto_region 5 with fail
      generalize World.setCell w3 _ _ = W4 at hP4 hL4 hR4 hb4 hz4 ⊢
      generalize (putS l mb (1000001)).length = nw at *
      clear k4 p2 f2 hP3 hR3 hb03 hz3 hO
      have p0 : W4.cell? ⟨w.heap.size, 0, none⟩ = some (.int .i64 c) := hP4.cell 0
      have p1 : W4.cell? ⟨w.heap.size, 1, none⟩ = some (.int .u8 k) := hP4.cell 1
      have p2 : W4.cell? ⟨w.heap.size, 2, none⟩ = some (.slice Aw nw cw) := hP4.cell 2
      go_wp2_with fail
      refine (rwholeR_any c k Aw nw cw (putS l mb (1000001)) W4 hL4).mono ?_
      rintro e w5 ⟨A5, n5, c5, rfl, hO5, hbw⟩
      replace hO5 := hO5.mono hz4
      have hR5 := hR4.below hbw hR4.lt
      have hb5 := Below_trans' hb4 hb4.size hbw
      have z0 : w5.cell? ⟨w.heap.size + 2, 0, none⟩ = some (.int .i64 0) := hR5.cell 0
      have z1 : w5.cell? ⟨w.heap.size + 2, 1, none⟩ = some (.int .u8 0) := hR5.cell 1
      have z2 : w5.cell? ⟨w.heap.size + 2, 2, none⟩ = some (.slice none 0 0) := hR5.cell 2
      have y0 := hR5.free 0
      have y1 := hR5.free 1
      have y2 := hR5.free 2
      clear hP4 hL4 hR4 hb4 p0 p1 p2 hbw hz4
      go_wp2
      refine retProf2 rfl rfl rfl (put3 hR5) rfl rfl ⟨A5, n5, c5, ?_, ?_, below3 hb5 (by omega) _ _ _⟩
      · rw [hr.out]; rfl
      · rw [hr.out]
        exact (hO5.frame (frame3 w5 (w.heap.size + 2) _ _ _) (fun b hb _ e => by omega)).mono (by omega)
    · obtain ⟨hc1, hk1, hc2, hy1⟩ := mayR_ok herr
      have hasc := (check_iff.1 hc1).2.2.2.2.2.2.1
      have hpos := (check_iff.1 hc1).2.2.2.2.2.2.2.1
      have htot := (check_iff.1 hc1).2.2.2.2.2.1
      have h64 := (check_iff.1 hc1).1
      obtain ⟨hcn, hct⟩ := cnt_bd hpos mb
      have hwith : Hid (withS l mb (cntR l mb + y) = putS l mb (y)) := with_put hasc hpos (by omega)
      have hr : Hid (addP c k l kb mb y = wholeP c k (putS l mb (y))) := by unfold Hid addP cutS; rw [if_pos herr, if_neg hy9]
      have hml10 := marks_small hc2
      have hmll := hml.out
      rw [herr]
      clear herr hc1 hk1 hc2 hasc hpos
      have p0 : w1.cell? ⟨w.heap.size, 0, none⟩ = some (.int .i64 c) := hP.cell 0
      have p1 : w1.cell? ⟨w.heap.size, 1, none⟩ = some (.int .u8 k) := hP.cell 1
      have p2 : w1.cell? ⟨w.heap.size, 2, none⟩ = some (.slice A n cp) := hP.cell 2
      have q1 : w1.cell? ⟨w.heap.size + 1, 1, none⟩ = some (.slice Ab nb cb) := hQ.cell 1
      have f2 := hP.free 2
      have hL1 := h.below hb1
      have hsum : IntKind.i64.wrap (cntR l mb + y) = cntR l mb + y := IntWalk.i64_in _ ⟨by omega, by omega⟩
      have hI : I64 (cntR l mb + y) := ⟨by omega, by omega⟩
      have hn1 : n ≤ 1000 := by omega
      clear htot hcn hct
      go_upto_region 4 with fail
      refine wp_region_more_pick [0, 1, 2, 3, 4, 5, 6, 7, 8, 9, 10, 11] [12, 13, 14] (by kernel_rfl) (by kernel_rfl) ?_
      simp only [pickOps, List.getElem?_cons_zero, List.getElem?_cons_succ]
      repeat (go_big_quiet_step (with_reducible exact more_of (rof_any A n cp l Ab nb cb mb _ (hL1.more _) (hm1.more _))))
      refine wpQuiet_nil ?_
      rintro w2 ⟨q2, hw2⟩
      have hb2 := below_of_eq hw2
      clear hw2 q2
      have hL2 := hL1.below hb2
      have hm2 := hm1.below hb2
      have hP2 := hP.below hb2 hP.lt
      have hR2 := hR.below hb2 hR.lt
      have hb02 := Below_trans' hb1 hb1.size hb2
      have hz2 := Nat.le_trans hz1 hb2.size
      clear p0 p1 p2 q1 f2 hL1 hb2 hb1 hP hR hQ hz1 hm1 hsum
      go_wp2_with fail
      refine (with_any A n cp l Ab nb cb mb (cntR l mb + y) w2 hL2 hm2 hn1 (by omega) hI).mono ?_
      rintro e w3 ⟨v, rfl, hO, hbw⟩
      rw [hwith.out] at hO
      obtain ⟨Aw, cw, rfl⟩ := hO.slice
      have hP3 := hP2.below hbw hP2.lt
      have hR3 := hR2.below hbw hR2.lt
      have hb03 := Below_trans' hb02 hb02.size hbw
      have hz3 := Nat.le_trans hz2 hbw.size
      clear hP2 hR2 hb02 hz2 hL2 hm2 hbw
      have hP4 : Has (w3.setCell ⟨w.heap.size, 2, none⟩ (.slice Aw (putS l mb (y)).length cw)) w.heap.size 27 #[.int .i64 c, .int .u8 k, .slice Aw (putS l mb (y)).length cw] := hP3.put 2 (.slice Aw (putS l mb (y)).length cw)
      have hL4 := hO.rows.setBox hP3 (.slice Aw (putS l mb (y)).length cw)
      have k4 : Frame' (fun b => b = w.heap.size) w3 (w3.setCell ⟨w.heap.size, 2, none⟩ (.slice Aw (putS l mb (y)).length cw)) := Frame'.setCell (p := ⟨w.heap.size, 2, none⟩) (Frame'.refl (fun b => b = w.heap.size) w3) (.inl rfl) _
      have hR4 := k4.has hR3 (by show ¬ (w.heap.size + 2 = w.heap.size); omega)
      have hb4 := hb03.setCell (p := ⟨w.heap.size, 2, none⟩) (Nat.le_refl _) (.slice Aw (putS l mb (y)).length cw)
      have hz4 := Nat.le_trans hz3 k4.size
      have p2 : w3.cell? ⟨w.heap.size, 2, none⟩ = some (.slice A n cp) := hP3.cell 2
      have f2 := hP3.free 2
      go_upto_region 5 with fail
      generalize World.setCell w3 _ _ = W4 at hP4 hL4 hR4 hb4 hz4 ⊢
      generalize (putS l mb (y)).length = nw at *
      clear k4 p2 f2 hP3 hR3 hb03 hz3 hO
      have p0 : W4.cell? ⟨w.heap.size, 0, none⟩ = some (.int .i64 c) := hP4.cell 0
      have p1 : W4.cell? ⟨w.heap.size, 1, none⟩ = some (.int .u8 k) := hP4.cell 1
      have p2 : W4.cell? ⟨w.heap.size, 2, none⟩ = some (.slice Aw nw cw) := hP4.cell 2
      go_wp2_with fail
      refine (rwholeR_any c k Aw nw cw (putS l mb (y)) W4 hL4).mono ?_
      rintro e w5 ⟨A5, n5, c5, rfl, hO5, hbw⟩
      replace hO5 := hO5.mono hz4
      have hR5 := hR4.below hbw hR4.lt
      have hb5 := Below_trans' hb4 hb4.size hbw
      have z0 : w5.cell? ⟨w.heap.size + 2, 0, none⟩ = some (.int .i64 0) := hR5.cell 0
      have z1 : w5.cell? ⟨w.heap.size + 2, 1, none⟩ = some (.int .u8 0) := hR5.cell 1
      have z2 : w5.cell? ⟨w.heap.size + 2, 2, none⟩ = some (.slice none 0 0) := hR5.cell 2
      have y0 := hR5.free 0
      have y1 := hR5.free 1
      have y2 := hR5.free 2
      clear hP4 hL4 hR4 hb4 p0 p1 p2 hbw hz4
      go_wp2
      refine retProf2 rfl rfl rfl (put3 hR5) rfl rfl ⟨A5, n5, c5, ?_, ?_, below3 hb5 (by omega) _ _ _⟩
      · rw [hr.out]; rfl
      · rw [hr.out]
        exact (hO5.frame (frame3 w5 (w.heap.size + 2) _ _ _) (fun b hb _ e => by omega)).mono (by omega)
  · have hr : Hid (addP c k l kb mb y = badP (mayR c k l kb mb y)) := by unfold Hid addP; rw [if_neg herr]
    have hne : (mayR c k l kb mb y != 0) = true := by rw [bne_iff_ne]; exact herr
    clear herr
    have z0 : w1.cell? ⟨w.heap.size + 2, 0, none⟩ = some (.int .i64 0) := hR.cell 0
    have z1 : w1.cell? ⟨w.heap.size + 2, 1, none⟩ = some (.int .u8 0) := hR.cell 1
    have z2 : w1.cell? ⟨w.heap.size + 2, 2, none⟩ = some (.slice none 0 0) := hR.cell 2
    have y0 := hR.free 0
    have y1 := hR.free 1
    have y2 := hR.free 2
    go_wp2
    refine retProf2 rfl rfl rfl (put3 hR) rfl rfl ⟨none, 0, 0, ?_, ?_, below3 hb1 (by omega) _ _ _⟩
    · rw [hr.out]; rfl
    · rw [hr.out]; exact ORows.nil_ _ _

/-- What is left of a valid profile is valid. -/
theorem check_dropS {c k : Int} {l l' : List Row} {m : List Int} {y : Int} (h : checkS c k l = 0) (hy : 0 < y) (hd : dropS l m y = some l') : checkS c k l' = 0 := by
  obtain ⟨h1, h2, h3, h4, h5, h6, h7, h8, h9⟩ := check_iff.1 h
  have e1 := length_dropS hd
  have e2 := tot_dropS hd
  refine check_iff.2 ⟨by omega, h2, h3, h4, h5, by omega, asc_dropS h7 hd, pos_dropS h8 hd, fun x hx => ?_⟩
  obtain ⟨z, hz, e⟩ := List.mem_map.1 ((keys_dropS hd).subset (List.mem_map_of_mem (f := (·.1)) hx))
  rw [← e]
  exact h9 z hz
end Go.Proofs.YtoeajgjpakilgaaGreat
