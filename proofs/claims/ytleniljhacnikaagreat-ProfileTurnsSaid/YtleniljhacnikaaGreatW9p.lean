/-
  The program's Add.
-/
import Derived.Test.YtleniljhacnikaaGreatW9y
namespace Go.Proofs.YtleniljhacnikaaGreat
open Go.RowKit Go.Proofs
attribute [local go_sem] cell?_more cell?_alloc_some cell?_setCell_far frozen?_alloc_some frozen?_more

def cutS (y : Int) : Int := if 1000001 < y then 1000001 else y
theorem cutS_bd {y : Int} (h : 1 ≤ y) : 1 ≤ cutS y ∧ cutS y ≤ 1000001 := by unfold cutS; split <;> omega
/-- y ballots more, of one kind of marks. -/
def addP (c k : Int) (l : List Row) (kb : Int) (mb : List Int) (y : Int) : PR :=
  if mayS c k l kb mb y = 0 then wholeP c k (putS l mb (cutS y)) else badP (mayS c k l kb mb y)

/-- A ballot's marks are ten at most. -/
theorem marks_small {c k : Int} {ms : List Int} (h : bcheckS k ms c = 0) : ms.length ≤ 10 := by
  by_cases hc : 1 ≤ c ∧ c ≤ 10
  · by_cases hk : 1 ≤ k ∧ k ≤ 3
    · exact (row_small (c := c) (k := k) (l := [(ms, 1)]) (check_iff.2 ⟨by simp, hc.1, hc.2, hk.1, hk.2, by simp [totS], List.pairwise_singleton _ _, by intro x hx; simp at hx; subst hx; show (0 : Int) < 1; omega, by intro x hx; simp at hx; subst hx; exact h⟩) (List.mem_singleton.2 rfl)).1
    · exfalso
      have hf : fineS k ms c = false := by unfold fineS; rw [if_neg (by omega), if_neg (by omega), if_neg (by omega)]
      unfold bcheckS at h
      rw [if_neg (by omega), hf] at h
      simp at h
  · unfold bcheckS at h
    rw [if_pos (by omega)] at h
    cases h



set_option maxRecDepth 100000 in
set_option maxHeartbeats 2000000 in
theorem padd_any (c k : Int) (A : Option Addr) (n cp : Nat) (l : List Row) (kb : Int) (Ab : Option Addr) (nb cb : Nat) (mb : List Int) (y : Int) (w : World) (h : RRows w A n cp l) (hm : RInts w Ab nb cb mb) :
    Calls Tryz.prog 17 #[.agg #[.int .i64 c, .int .u8 k, .slice A n cp], .agg #[.int .u8 kb, .slice Ab nb cb], .int .i64 y] w (PPostO w (addP c k l kb mb y)) := by
  have hl := h.len
  have hml := hide hm.len
  have hS0 := (((Hs.nil w).alloc 24 #[.int .i64 c, .int .u8 k, .slice A n cp]).alloc 32 #[.int .u8 kb, .slice Ab nb cb]).alloc 24 #[.int .i64 0, .int .u8 0, .slice none 0 0]
  have hb0 : Below w.heap.size w (((w.alloc (.cells #[.int .i64 c, .int .u8 k, .slice A n cp] 24)).alloc (.cells #[.int .u8 kb, .slice Ab nb cb] 32)).alloc (.cells #[.int .i64 0, .int .u8 0, .slice none 0 0] 24)) := (((Below.refl _ _).alloc (Nat.le_refl _) _).alloc (by simp) _).alloc (by simp; omega) _
  have hz0 : (((w.alloc (.cells #[.int .i64 c, .int .u8 k, .slice A n cp] 24)).alloc (.cells #[.int .u8 kb, .slice Ab nb cb] 32)).alloc (.cells #[.int .i64 0, .int .u8 0, .slice none 0 0] 24)).heap.size = w.heap.size + 3 := by simp
  simp only [World.size_alloc] at hS0
  go_enter Tryz.func17, Tryz.ntmps17
  go_wp2_with fail
  generalize hW : World.alloc (World.alloc (World.alloc _ _) _) _ = W0 at hS0 hb0 hz0
  try rw [hW]
  clear hW
  refine (pmay_any c k A n cp l kb Ab nb cb mb y _ (h.below hb0) (hm.below hb0)).mono ?_
  rintro e w1 ⟨rfl, hbw⟩
  obtain ⟨hR, hQ, hP, -⟩ := hS0.below hbw
  have hb1 := Below_trans' hb0 hb0.size hbw
  have hz1 : w.heap.size + 3 ≤ w1.heap.size := by have := hbw.size; omega
  have hm1 := hm.below hb1
  clear hS0 hb0 hbw hz0
  by_cases herr : mayS c k l kb mb y = 0
  · by_cases hy9 : 1000001 < y
    · obtain ⟨hc1, hk1, hc2, hy1⟩ := may_ok herr
      have hr : Hid (addP c k l kb mb y = wholeP c k (putS l mb (1000001))) := by unfold Hid addP cutS; rw [if_pos herr, if_pos hy9]
      rw [herr]
      have H1 := hide hc1
      have H2 := hide hc2
      have h64 := (check_iff.1 hc1).1
      clear herr hc1 hk1 hc2
      have p0 : w1.cell? ⟨w.heap.size, 0, none⟩ = some (.int .i64 c) := hP.cell 0
      have p1 : w1.cell? ⟨w.heap.size, 1, none⟩ = some (.int .u8 k) := hP.cell 1
      have p2 : w1.cell? ⟨w.heap.size, 2, none⟩ = some (.slice A n cp) := hP.cell 2
      go_wp2_with fail
      refine (twin_any c k A n cp l w1 (h.below hb1) (by omega) (fun r hr => by have := (row_small H1.out hr).1; omega)).mono ?_
      rintro e w2 ⟨v, rfl, hO, hbw⟩
      replace hO := hO.mono hz1
      have hR2 := hR.below hbw hR.lt
      have hQ2 := hQ.below hbw hQ.lt
      have hP2 := hP.below hbw hP.lt
      have hm2 := hm1.below hbw
      have hb2 := Below_trans' hb1 hb1.size hbw
      have hz2 : w.heap.size + 3 ≤ w2.heap.size := Nat.le_trans hz1 hbw.size
      clear hR hQ hP hb1 hbw p0 p1 p2 hz1 hm1
      have p0 : w2.cell? ⟨w.heap.size, 0, none⟩ = some (.int .i64 c) := hP2.cell 0
      have p1 : w2.cell? ⟨w.heap.size, 1, none⟩ = some (.int .u8 k) := hP2.cell 1
      have p2 : w2.cell? ⟨w.heap.size, 2, none⟩ = some (.slice A n cp) := hP2.cell 2
      have f0 := hP2.free 0
      have f1 := hP2.free 1
      have f2 := hP2.free 2
      have q1 : w2.cell? ⟨w.heap.size + 1, 1, none⟩ = some (.slice Ab nb cb) := hQ2.cell 1
      obtain ⟨Av, nv, cv, rfl⟩ : ∃ Av nv cv, v = .slice Av nv cv := by
        rcases hO.slice with ⟨e, _⟩ | ⟨g', cap, cur, e, _⟩
        · exact ⟨none, 0, 0, e⟩
        · exact ⟨_, _, _, e⟩
      have hP3 := put3 (x' := .int .i64 c) (y' := .int .u8 k) (z' := .slice Av nv cv) hP2
      have k3 := frame3 w2 w.heap.size (.int .i64 c) (.int .u8 k) (.slice Av nv cv)
      have hO3 := hO.frame k3 (fun b hb _ e => by omega)
      have hR3 := k3.has hR2 (by show ¬ (w.heap.size + 2 = w.heap.size); omega)
      have hQ3 := k3.has hQ2 (by show ¬ (w.heap.size + 1 = w.heap.size); omega)
      have hb3 := below3 hb2 (Nat.le_refl _) (.int .i64 c) (.int .u8 k) (.slice Av nv cv)
      have hm3 := hm.below hb3
      have hz3 := Nat.le_trans hz2 k3.size
      go_upto_region 5 with fail
      generalize hW : World.setCell _ _ _ = W3 at hP3 hO3 hR3 hb3 hz3 hm3 hQ3
      try rw [hW]
      clear hW k3 hO hP2 hQ2 hR2 hb2 hz2 p0 p1 p2 f0 f1 f2 q1 hm2
      have q1 : W3.cell? ⟨w.heap.size + 1, 1, none⟩ = some (.slice Ab nb cb) := hQ3.cell 1
      have hasc : Hid (Asc l) := (check_iff.1 H1.out).2.2.2.2.2.2.1
      have hpos : Hid (Pos l) := (check_iff.1 H1.out).2.2.2.2.2.2.2.1
      have htot : Hid (totS l ≤ 1000000) := (check_iff.1 H1.out).2.2.2.2.2.1
      go_wp2_with fail
      refine (put_any c k (.slice Av nv cv) l w.heap.size (w.heap.size + 3) Ab nb cb mb (1000001) W3 hP3 hO3 (by omega) hz3 hasc.out (by omega) hm3 (by have := marks_small H2.out; have := hml.out; omega) ⟨by omega, by omega⟩ (fun z hz => by
        have h1 := hpos.out _ (List.mem_of_getElem? hz)
        have h2 := le_tot hpos.out (List.mem_of_getElem? hz)
        have h3 := htot.out
        simp only at h1 h2
        exact ⟨by omega, by omega⟩)).mono ?_
      rintro e w4 ⟨rfl, v4, hP4, hO4, hF⟩
      have hol := fun k hk => hO3.own_lt (k := k) hk
      have hR4 := hF.has hR3 (by
        rintro (e | e)
        · omega
        · have := (hol _ e.symm).1; omega)
      have hb4 : Below w.heap.size w w4 := Frame'.below hb3 hF (by
        rintro b (e | e)
        · omega
        · have := (hol _ e.symm).1; omega) hb3.size
      have hz4 : w.heap.size + 3 ≤ w4.heap.size := Nat.le_trans hz3 hF.size
      clear hP3 hO3 hR3 hQ3 hb3 hz3 hm3 hF hol q1
      obtain ⟨Aw, nw, cw, rfl⟩ : ∃ Av nv cv, v4 = .slice Av nv cv := by
        rcases hO4.slice with ⟨e, _⟩ | ⟨g', cap, cur, e, _⟩
        · exact ⟨none, 0, 0, e⟩
        · exact ⟨_, _, _, e⟩
      have p0 : w4.cell? ⟨w.heap.size, 0, none⟩ = some (.int .i64 c) := hP4.cell 0
      have p1 : w4.cell? ⟨w.heap.size, 1, none⟩ = some (.int .u8 k) := hP4.cell 1
      have p2 : w4.cell? ⟨w.heap.size, 2, none⟩ = some (.slice Aw nw cw) := hP4.cell 2
      go_wp2_with fail
      refine (whole_val c k Aw nw cw (putS l mb (1000001)) w4 hO4.rows).mono ?_
      rintro e w5 ⟨he, hbw⟩
      have hR5 := hR4.below hbw hR4.lt
      have hb5 := Below_trans' hb4 hb4.size hbw
      have hO5 := hO4.below hbw
      have z0 : w5.cell? ⟨w.heap.size + 2, 0, none⟩ = some (.int .i64 0) := hR5.cell 0
      have z1 : w5.cell? ⟨w.heap.size + 2, 1, none⟩ = some (.int .u8 0) := hR5.cell 1
      have z2 : w5.cell? ⟨w.heap.size + 2, 2, none⟩ = some (.slice none 0 0) := hR5.cell 2
      have y0 := hR5.free 0
      have y1 := hR5.free 1
      have y2 := hR5.free 2
      clear hP4 hO4 hR4 hb4 p0 p1 p2
      by_cases hw : checkS c k (putS l mb (1000001)) = 0
      · rw [if_pos hw] at he
        subst he
        have hr2 : Hid (wholeP c k (putS l mb (1000001)) = ⟨0, c, k, putS l mb (1000001)⟩) := by unfold Hid wholeP; rw [if_pos hw]
        clear hw
        go_wp2
        refine retProf2 rfl rfl rfl (put3 hR5) rfl rfl ⟨Aw, nw, cw, ?_, ?_, below3 hb5 (by omega) _ _ _⟩
        · rw [hr.out, hr2.out]; rfl
        · rw [hr.out, hr2.out]
          exact (hO5.frame (frame3 w5 (w.heap.size + 2) _ _ _) (fun b hb _ e => by omega)).mono (by omega)
      · rw [if_neg hw] at he
        subst he
        have hr2 : Hid (wholeP c k (putS l mb (1000001)) = badP (checkS c k (putS l mb (1000001)))) := by unfold Hid wholeP; rw [if_neg hw]
        clear hw
        go_wp2
        refine retProf2 rfl rfl rfl (put3 hR5) rfl rfl ⟨none, 0, 0, ?_, ?_, below3 hb5 (by omega) _ _ _⟩
        · rw [hr.out, hr2.out]; rfl
        · rw [hr.out, hr2.out]; exact ORows.nil_ _ _
    · obtain ⟨hc1, hk1, hc2, hy1⟩ := may_ok herr
      have hr : Hid (addP c k l kb mb y = wholeP c k (putS l mb (y))) := by unfold Hid addP cutS; rw [if_pos herr, if_neg hy9]
      rw [herr]
      have H1 := hide hc1
      have H2 := hide hc2
      have h64 := (check_iff.1 hc1).1
      clear herr hc1 hk1 hc2
      have p0 : w1.cell? ⟨w.heap.size, 0, none⟩ = some (.int .i64 c) := hP.cell 0
      have p1 : w1.cell? ⟨w.heap.size, 1, none⟩ = some (.int .u8 k) := hP.cell 1
      have p2 : w1.cell? ⟨w.heap.size, 2, none⟩ = some (.slice A n cp) := hP.cell 2
      go_wp2_with fail
      refine (twin_any c k A n cp l w1 (h.below hb1) (by omega) (fun r hr => by have := (row_small H1.out hr).1; omega)).mono ?_
      rintro e w2 ⟨v, rfl, hO, hbw⟩
      replace hO := hO.mono hz1
      have hR2 := hR.below hbw hR.lt
      have hQ2 := hQ.below hbw hQ.lt
      have hP2 := hP.below hbw hP.lt
      have hm2 := hm1.below hbw
      have hb2 := Below_trans' hb1 hb1.size hbw
      have hz2 : w.heap.size + 3 ≤ w2.heap.size := Nat.le_trans hz1 hbw.size
      clear hR hQ hP hb1 hbw p0 p1 p2 hz1 hm1
      have p0 : w2.cell? ⟨w.heap.size, 0, none⟩ = some (.int .i64 c) := hP2.cell 0
      have p1 : w2.cell? ⟨w.heap.size, 1, none⟩ = some (.int .u8 k) := hP2.cell 1
      have p2 : w2.cell? ⟨w.heap.size, 2, none⟩ = some (.slice A n cp) := hP2.cell 2
      have f0 := hP2.free 0
      have f1 := hP2.free 1
      have f2 := hP2.free 2
      have q1 : w2.cell? ⟨w.heap.size + 1, 1, none⟩ = some (.slice Ab nb cb) := hQ2.cell 1
      obtain ⟨Av, nv, cv, rfl⟩ : ∃ Av nv cv, v = .slice Av nv cv := by
        rcases hO.slice with ⟨e, _⟩ | ⟨g', cap, cur, e, _⟩
        · exact ⟨none, 0, 0, e⟩
        · exact ⟨_, _, _, e⟩
      have hP3 := put3 (x' := .int .i64 c) (y' := .int .u8 k) (z' := .slice Av nv cv) hP2
      have k3 := frame3 w2 w.heap.size (.int .i64 c) (.int .u8 k) (.slice Av nv cv)
      have hO3 := hO.frame k3 (fun b hb _ e => by omega)
      have hR3 := k3.has hR2 (by show ¬ (w.heap.size + 2 = w.heap.size); omega)
      have hQ3 := k3.has hQ2 (by show ¬ (w.heap.size + 1 = w.heap.size); omega)
      have hb3 := below3 hb2 (Nat.le_refl _) (.int .i64 c) (.int .u8 k) (.slice Av nv cv)
      have hm3 := hm.below hb3
      have hz3 := Nat.le_trans hz2 k3.size
      go_upto_region 5 with fail
      generalize hW : World.setCell _ _ _ = W3 at hP3 hO3 hR3 hb3 hz3 hm3 hQ3
      try rw [hW]
      clear hW k3 hO hP2 hQ2 hR2 hb2 hz2 p0 p1 p2 f0 f1 f2 q1 hm2
      have q1 : W3.cell? ⟨w.heap.size + 1, 1, none⟩ = some (.slice Ab nb cb) := hQ3.cell 1
      have hasc : Hid (Asc l) := (check_iff.1 H1.out).2.2.2.2.2.2.1
      have hpos : Hid (Pos l) := (check_iff.1 H1.out).2.2.2.2.2.2.2.1
      have htot : Hid (totS l ≤ 1000000) := (check_iff.1 H1.out).2.2.2.2.2.1
      go_wp2_with fail
      refine (put_any c k (.slice Av nv cv) l w.heap.size (w.heap.size + 3) Ab nb cb mb (y) W3 hP3 hO3 (by omega) hz3 hasc.out (by omega) hm3 (by have := marks_small H2.out; have := hml.out; omega) ⟨by omega, by omega⟩ (fun z hz => by
        have h1 := hpos.out _ (List.mem_of_getElem? hz)
        have h2 := le_tot hpos.out (List.mem_of_getElem? hz)
        have h3 := htot.out
        simp only at h1 h2
        exact ⟨by omega, by omega⟩)).mono ?_
      rintro e w4 ⟨rfl, v4, hP4, hO4, hF⟩
      have hol := fun k hk => hO3.own_lt (k := k) hk
      have hR4 := hF.has hR3 (by
        rintro (e | e)
        · omega
        · have := (hol _ e.symm).1; omega)
      have hb4 : Below w.heap.size w w4 := Frame'.below hb3 hF (by
        rintro b (e | e)
        · omega
        · have := (hol _ e.symm).1; omega) hb3.size
      have hz4 : w.heap.size + 3 ≤ w4.heap.size := Nat.le_trans hz3 hF.size
      clear hP3 hO3 hR3 hQ3 hb3 hz3 hm3 hF hol q1
      obtain ⟨Aw, nw, cw, rfl⟩ : ∃ Av nv cv, v4 = .slice Av nv cv := by
        rcases hO4.slice with ⟨e, _⟩ | ⟨g', cap, cur, e, _⟩
        · exact ⟨none, 0, 0, e⟩
        · exact ⟨_, _, _, e⟩
      have p0 : w4.cell? ⟨w.heap.size, 0, none⟩ = some (.int .i64 c) := hP4.cell 0
      have p1 : w4.cell? ⟨w.heap.size, 1, none⟩ = some (.int .u8 k) := hP4.cell 1
      have p2 : w4.cell? ⟨w.heap.size, 2, none⟩ = some (.slice Aw nw cw) := hP4.cell 2
      go_wp2_with fail
      refine (whole_val c k Aw nw cw (putS l mb (y)) w4 hO4.rows).mono ?_
      rintro e w5 ⟨he, hbw⟩
      have hR5 := hR4.below hbw hR4.lt
      have hb5 := Below_trans' hb4 hb4.size hbw
      have hO5 := hO4.below hbw
      have z0 : w5.cell? ⟨w.heap.size + 2, 0, none⟩ = some (.int .i64 0) := hR5.cell 0
      have z1 : w5.cell? ⟨w.heap.size + 2, 1, none⟩ = some (.int .u8 0) := hR5.cell 1
      have z2 : w5.cell? ⟨w.heap.size + 2, 2, none⟩ = some (.slice none 0 0) := hR5.cell 2
      have y0 := hR5.free 0
      have y1 := hR5.free 1
      have y2 := hR5.free 2
      clear hP4 hO4 hR4 hb4 p0 p1 p2
      by_cases hw : checkS c k (putS l mb (y)) = 0
      · rw [if_pos hw] at he
        subst he
        have hr2 : Hid (wholeP c k (putS l mb (y)) = ⟨0, c, k, putS l mb (y)⟩) := by unfold Hid wholeP; rw [if_pos hw]
        clear hw
        go_wp2
        refine retProf2 rfl rfl rfl (put3 hR5) rfl rfl ⟨Aw, nw, cw, ?_, ?_, below3 hb5 (by omega) _ _ _⟩
        · rw [hr.out, hr2.out]; rfl
        · rw [hr.out, hr2.out]
          exact (hO5.frame (frame3 w5 (w.heap.size + 2) _ _ _) (fun b hb _ e => by omega)).mono (by omega)
      · rw [if_neg hw] at he
        subst he
        have hr2 : Hid (wholeP c k (putS l mb (y)) = badP (checkS c k (putS l mb (y)))) := by unfold Hid wholeP; rw [if_neg hw]
        clear hw
        go_wp2
        refine retProf2 rfl rfl rfl (put3 hR5) rfl rfl ⟨none, 0, 0, ?_, ?_, below3 hb5 (by omega) _ _ _⟩
        · rw [hr.out, hr2.out]; rfl
        · rw [hr.out, hr2.out]; exact ORows.nil_ _ _
  · have hr : Hid (addP c k l kb mb y = badP (mayS c k l kb mb y)) := by unfold Hid addP; rw [if_neg herr]
    have hne : (mayS c k l kb mb y != 0) = true := by rw [bne_iff_ne]; exact herr
    clear herr
    have z0 : w1.cell? ⟨w.heap.size + 2, 0, none⟩ = some (.int .i64 0) := hR.cell 0
    have z1 : w1.cell? ⟨w.heap.size + 2, 1, none⟩ = some (.int .u8 0) := hR.cell 1
    have z2 : w1.cell? ⟨w.heap.size + 2, 2, none⟩ = some (.slice none 0 0) := hR.cell 2
    have y0 := hR.free 0
    have y1 := hR.free 1
    have y2 := hR.free 2
    go_wp2
    refine retProf2 rfl rfl rfl (put3 hR) rfl rfl ⟨none, 0, 0, ?_, ?_, below3 hb1 (by omega) _ _ _⟩
    · rw [hr.out]; rfl
    · rw [hr.out]; exact ORows.nil_ _ _
end Go.Proofs.YtleniljhacnikaaGreat
