/-
  The program's Sum.
-/
import Derived.Test.YtleniljhacnikaaW9k
namespace Go.Proofs.Ytleniljhacnikaa
open Go.RowKit Go.Proofs
attribute [local go_sem] cell?_more cell?_alloc_some cell?_setCell_far frozen?_alloc_some frozen?_more

theorem row_small {c k : Int} {l : List Row} (h : checkS c k l = 0) {x : Row} (hx : x ∈ l) : x.1.length ≤ 10 ∧ 0 < x.2 ∧ x.2 ≤ 1000000 := by
  obtain ⟨h1, h2, h3, h4, h5, h6, h7, h8, h9⟩ := check_iff.1 h
  have hb := h9 x hx
  refine ⟨?_, h8 x hx, Int.le_trans (le_tot h8 hx) h6⟩
  unfold bcheckS at hb
  split at hb
  · cases hb
  split at hb
  · rename_i hf
    unfold fineS at hf
    split at hf
    · simp only [Bool.and_eq_true, decide_eq_true_eq] at hf; omega
    split at hf
    · simp only [Bool.and_eq_true, List.all_eq_true] at hf
      have hn : x.1.Nodup := of_decide_eq_true hf.2
      have := hn.length_le_of_subset (fun z hz => mem_rangeI.2 (show 0 ≤ z ∧ z < ((10 : Nat) : Int) from by have := inR_iff.1 (hf.1.1 z hz); omega))
      rwa [length_rangeI] at this
    split at hf
    · simp only [Bool.and_eq_true, List.all_eq_true] at hf
      have hn : x.1.Nodup := of_decide_eq_true hf.2
      have := hn.length_le_of_subset (fun z hz => mem_rangeI.2 (show 0 ≤ z ∧ z < ((10 : Nat) : Int) from by have := inR_iff.1 (hf.1 z hz); omega))
      rwa [length_rangeI] at this
    · cases hf
  · cases hb

/-- A profile of its own and an error are handed back. -/
def PPostO (w : World) (r : PR) (e : Ending) (w' : World) : Prop :=
  ∃ A n cp, e = .returned (.tuple #[.agg #[.int .i64 r.c, .int .u8 r.k, .slice A n cp], .int .i64 r.err]) ∧ ORows w' w.heap.size (.slice A n cp) r.l ∧ Below w.heap.size w w'

set_option maxRecDepth 100000 in
set_option maxHeartbeats 2000000 in
theorem psumO_any (c k : Int) (A : Option Addr) (n cp : Nat) (l : List Row) (c' k' : Int) (A' : Option Addr) (n' cp' : Nat) (l' : List Row) (w : World) (h : RRows w A n cp l) (h' : RRows w A' n' cp' l') :
    Calls Try.prog 34 #[.agg #[.int .i64 c, .int .u8 k, .slice A n cp], .agg #[.int .i64 c', .int .u8 k', .slice A' n' cp']] w (PPostO w (sumP c k l c' k' l')) := by
  have hl := h.len
  have hl' := h'.len
  have hS0 := (((Hs.nil w).alloc 24 #[.int .i64 c, .int .u8 k, .slice A n cp]).alloc 24 #[.int .i64 c', .int .u8 k', .slice A' n' cp']).alloc 24 #[.int .i64 0, .int .u8 0, .slice none 0 0]
  have hb0 : Below w.heap.size w (((w.alloc (.cells #[.int .i64 c, .int .u8 k, .slice A n cp] 24)).alloc (.cells #[.int .i64 c', .int .u8 k', .slice A' n' cp'] 24)).alloc (.cells #[.int .i64 0, .int .u8 0, .slice none 0 0] 24)) := (((Below.refl _ _).alloc (Nat.le_refl _) _).alloc (by simp) _).alloc (by simp; omega) _
  have hz0 : (((w.alloc (.cells #[.int .i64 c, .int .u8 k, .slice A n cp] 24)).alloc (.cells #[.int .i64 c', .int .u8 k', .slice A' n' cp'] 24)).alloc (.cells #[.int .i64 0, .int .u8 0, .slice none 0 0] 24)).heap.size = w.heap.size + 3 := by simp
  simp only [World.size_alloc] at hS0
  go_enter Try.func34, Try.ntmps34
  go_wp2_with fail
  generalize hW : World.alloc (World.alloc (World.alloc _ _) _) _ = W0 at hS0 hb0 hz0
  try rw [hW]
  clear hW
  refine (both_any c k A n cp l c' k' A' n' cp' l' _ (h.below hb0) (h'.below hb0)).mono ?_
  rintro e w1 ⟨rfl, hbw⟩
  obtain ⟨hR, hQ, hP, -⟩ := hS0.below hbw
  have hb1 := Below_trans' hb0 hb0.size hbw
  have hz1 : w.heap.size + 3 ≤ w1.heap.size := by have := hbw.size; omega
  clear hS0 hb0 hbw hz0
  by_cases herr : bothS c k l c' k' l' = 0
  · obtain ⟨hc1, hc2, hkk, hcc⟩ := both_ok herr
    have hr : Hid (sumP c k l c' k' l' = wholeP c k (sumRows l l')) := by unfold Hid sumP; rw [if_pos herr]
    rw [herr]
    have H1 := hide hc1
    have H2 := hide hc2
    have h64 := (check_iff.1 hc1).1
    have h64' := (check_iff.1 hc2).1
    clear herr hkk hcc hc1 hc2
    have p0 : w1.cell? ⟨w.heap.size, 0, none⟩ = some (.int .i64 c) := hP.cell 0
    have p1 : w1.cell? ⟨w.heap.size, 1, none⟩ = some (.int .u8 k) := hP.cell 1
    have p2 : w1.cell? ⟨w.heap.size, 2, none⟩ = some (.slice A n cp) := hP.cell 2
    go_wp2_with fail
    refine (twin_any c k A n cp l w1 (h.below hb1) (by omega) (fun r hr => by have := (row_small H1.out hr).1; omega)).mono ?_
    rintro e w2 ⟨v, rfl, hO, hbw⟩
    have hO := hO.mono hz1
    have hR2 := hR.below hbw hR.lt
    have hQ2 := hQ.below hbw hQ.lt
    have hP2 := hP.below hbw hP.lt
    have hb2 := Below_trans' hb1 hb1.size hbw
    have hz2 : w.heap.size + 3 ≤ w2.heap.size := Nat.le_trans hz1 hbw.size
    clear hR hQ hP hb1 hbw p0 p1 p2 hz1
    have p0 : w2.cell? ⟨w.heap.size, 0, none⟩ = some (.int .i64 c) := hP2.cell 0
    have p1 : w2.cell? ⟨w.heap.size, 1, none⟩ = some (.int .u8 k) := hP2.cell 1
    have p2 : w2.cell? ⟨w.heap.size, 2, none⟩ = some (.slice A n cp) := hP2.cell 2
    have f0 := hP2.free 0
    have f1 := hP2.free 1
    have f2 := hP2.free 2
    have q2 : w2.cell? ⟨w.heap.size + 1, 2, none⟩ = some (.slice A' n' cp') := hQ2.cell 2
    obtain ⟨Av, nv, cv, rfl⟩ : ∃ Av nv cv, v = .slice Av nv cv := by
      rcases hO.slice with ⟨e, _⟩ | ⟨g', cap, cur, e, _⟩
      · exact ⟨none, 0, 0, e⟩
      · exact ⟨_, _, _, e⟩
    have hP3 := put3 (x' := .int .i64 c) (y' := .int .u8 k) (z' := .slice Av nv cv) hP2
    have k3 := frame3 w2 w.heap.size (.int .i64 c) (.int .u8 k) (.slice Av nv cv)
    have hO3 := hO.frame k3 (fun b hb _ e => by omega)
    have hR3 := k3.has hR2 (by show ¬ (w.heap.size + 2 = w.heap.size); omega)
    have hb3 := below3 hb2 (Nat.le_refl _) (.int .i64 c) (.int .u8 k) (.slice Av nv cv)
    have hz3 := Nat.le_trans hz2 k3.size
    go_wp2_with fail
    generalize hW : World.setCell _ _ _ = W3 at hP3 hO3 hR3 hb3 hz3
    try rw [hW]
    clear hW k3 hO hP2 hQ2 hR2 hb2 hz2 p0 p1 p2 f0 f1 f2 q2
    go_loopw [21] (fun i wr => ∃ (t : Nat) (v : Value), t ≤ n' ∧ i = .int .i64 t ∧ Has wr w.heap.size 24 #[.int .i64 c, .int .u8 k, v] ∧ ORows wr (w.heap.size + 3) v (sumRows l (l'.take t)) ∧ Has wr (w.heap.size + 2) 24 #[.int .i64 0, .int .u8 0, .slice none 0 0] ∧ Below w.heap.size w wr ∧ w.heap.size + 3 ≤ wr.heap.size) (fun i _ => n' - (intOf i).toNat)
    case atStart => exact ⟨0, _, Nat.zero_le _, rfl, hP3, hO3, hR3, hb3, hz3⟩
    case round =>
      clear hP3 hO3 hR3 hb3 hz3
      obtain ⟨t, v, ht, rfl, hP, hO, hR, hb, hz⟩ := hrel
      by_cases hlt : t < n'
      · obtain ⟨b, off, Am, nm, cm, ms, y, rfl, hc0, hm0, hc1, hd, hat, hy⟩ := (h'.below hb).step hlt
        have hsmall := row_small H2.out (List.mem_of_getElem? hat.out)
        have hml := hm0.len
        simp only at hsmall
        have hasc : Hid (Asc (sumRows l (l'.take t))) := asc_sumRows (check_iff.1 H1.out).2.2.2.2.2.2.1
        have hpos : Hid (Pos (sumRows l (l'.take t))) := pos_sumRows (check_iff.1 H1.out).2.2.2.2.2.2.2.1 (fun x hx => (check_iff.1 H2.out).2.2.2.2.2.2.2.1 x (List.mem_of_mem_take hx))
        have htot : totS (sumRows l (l'.take t)) ≤ 2000000 := by
          rw [tot_sumRows]
          have h1 := (check_iff.1 H1.out).2.2.2.2.2.1
          have h2 := (check_iff.1 H2.out).2.2.2.2.2.1
          have h3 := totS_mono (l := l') (fun i hi => rowOK_many (rowOK_of H2.out hi)) (a := t) (b := l'.length) (by omega) (Nat.le_refl _)
          rw [List.take_length] at h3
          omega
        have Htot := hide htot
        have hlen := length_sumRows l (l'.take t)
        rw [List.length_take] at hlen
        have hnext := hide (sumRows_take (l := l) hat.out)
        clear htot
        go_wp2_with fail
        have hbR : Below wr.heap.size wr (wr.alloc (.cells #[.slice Am nm cm, .int .i64 y] 48)) := (Below.refl _ _).alloc (Nat.le_refl _) _
        refine (put_any c k v (sumRows l (l'.take t)) w.heap.size (w.heap.size + 3) Am nm cm ms y _ (hP.below hbR hP.lt) (hO.below hbR) (by omega) (by simp; omega) hasc.out (by omega) (hm0.below hbR) (by omega) ⟨by omega, by omega⟩ (fun z hz => by
          have h1 := hpos.out _ (List.mem_of_getElem? hz)
          have h2 := le_tot hpos.out (List.mem_of_getElem? hz)
          have h3 := Htot.out
          simp only at h1 h2
          exact ⟨by omega, by omega⟩)).mono ?_
        rintro e w4 ⟨rfl, v4, hP4, hO4, hF⟩
        have hol := fun k hk => hO.own_lt (k := k) hk
        have hR4 := hF.has (hR.below hbR hR.lt) (by
          rintro (e | e)
          · omega
          · have := (hol _ e.symm).1; omega)
        have hb4 : Below w.heap.size w w4 := Frame'.below (hb.alloc hb.size (.cells #[.slice Am nm cm, .int .i64 y] 48)) hF (by
          rintro b (e | e)
          · omega
          · have := (hol _ e.symm).1; omega) (by simp; omega)
        have hz4 : w.heap.size + 3 ≤ w4.heap.size := Nat.le_trans (Nat.le_trans hz hbR.size) hF.size
        have hO5 : ORows w4 (w.heap.size + 3) v4 (sumRows l (l'.take (t + 1))) := by rw [hnext.out]; exact hO4
        clear hP hO hR hb hz hbR hF hO4 hasc hpos Htot hnext hc0 hc1 hm0
        go_wp2
        go_roundw
        case rel => exact ⟨t + 1, v4, by omega, by go_num, hP4, hO5, hR4, hb4, hz4⟩
        case measure => simp [intOf] <;> omega
      · have htn : Hid (l'.take t = l') := List.take_of_length_le (by omega)
        rw [htn.out] at hO
        have b2 : ¬ (t : Int) < n' := by omega
        clear hlt ht
        obtain ⟨Aw, nw, cw, rfl⟩ : ∃ Av nv cv, v = .slice Av nv cv := by
          rcases hO.slice with ⟨e, _⟩ | ⟨g', cap, cur, e, _⟩
          · exact ⟨none, 0, 0, e⟩
          · exact ⟨_, _, _, e⟩
        have p0 : wr.cell? ⟨w.heap.size, 0, none⟩ = some (.int .i64 c) := hP.cell 0
        have p1 : wr.cell? ⟨w.heap.size, 1, none⟩ = some (.int .u8 k) := hP.cell 1
        have p2 : wr.cell? ⟨w.heap.size, 2, none⟩ = some (.slice Aw nw cw) := hP.cell 2
        go_wp2_with fail
        refine (whole_val c k Aw nw cw (sumRows l l') wr hO.rows).mono ?_
        rintro e w5 ⟨he, hbw⟩
        have hR5 := hR.below hbw hR.lt
        have hb5 := Below_trans' hb hb.size hbw
        have hO5 := hO.below hbw
        have z0 : w5.cell? ⟨w.heap.size + 2, 0, none⟩ = some (.int .i64 0) := hR5.cell 0
        have z1 : w5.cell? ⟨w.heap.size + 2, 1, none⟩ = some (.int .u8 0) := hR5.cell 1
        have z2 : w5.cell? ⟨w.heap.size + 2, 2, none⟩ = some (.slice none 0 0) := hR5.cell 2
        have y0 := hR5.free 0
        have y1 := hR5.free 1
        have y2 := hR5.free 2
        clear hP hO hR hb p0 p1 p2
        by_cases hw : checkS c k (sumRows l l') = 0
        · rw [if_pos hw] at he
          subst he
          have hr2 : Hid (wholeP c k (sumRows l l') = ⟨0, c, k, sumRows l l'⟩) := by unfold Hid wholeP; rw [if_pos hw]
          clear hw
          go_wp2
          refine retProf2 rfl rfl rfl (put3 hR5) rfl rfl ⟨Aw, nw, cw, ?_, ?_, below3 hb5 (by omega) _ _ _⟩
          · rw [hr.out, hr2.out]; rfl
          · rw [hr.out, hr2.out]
            exact (hO5.frame (frame3 w5 (w.heap.size + 2) _ _ _) (fun b hb _ e => by omega)).mono (by omega)
        · rw [if_neg hw] at he
          subst he
          have hr2 : Hid (wholeP c k (sumRows l l') = badP (checkS c k (sumRows l l'))) := by unfold Hid wholeP; rw [if_neg hw]
          clear hw
          go_wp2
          refine retProf2 rfl rfl rfl (put3 hR5) rfl rfl ⟨none, 0, 0, ?_, ?_, below3 hb5 (by omega) _ _ _⟩
          · rw [hr.out, hr2.out]; rfl
          · rw [hr.out, hr2.out]; exact ORows.nil_ _ _
  · have hr : Hid (sumP c k l c' k' l' = badP (bothS c k l c' k' l')) := by unfold Hid sumP; rw [if_neg herr]
    have hne : (bothS c k l c' k' l' != 0) = true := by rw [bne_iff_ne]; exact herr
    clear herr
    have z0 : w1.cell? ⟨w.heap.size + 2, 0, none⟩ = some (.int .i64 0) := hR.cell 0
    have z1 : w1.cell? ⟨w.heap.size + 2, 1, none⟩ = some (.int .u8 0) := hR.cell 1
    have z2 : w1.cell? ⟨w.heap.size + 2, 2, none⟩ = some (.slice none 0 0) := hR.cell 2
    have y0 := hR.free 0
    have y1 := hR.free 1
    have y2 := hR.free 2
    go_wp2
    refine retProf2 rfl rfl rfl (put3 hR) rfl rfl ⟨none, 0, 0, ?_, ?_, below3 hb1 (by omega) _ _ _⟩
    · rw [hr.out]; rfl
    · rw [hr.out]; exact ORows.nil_ _ _

theorem psum_any (c k : Int) (A : Option Addr) (n cp : Nat) (l : List Row) (c' k' : Int) (A' : Option Addr) (n' cp' : Nat) (l' : List Row) (w : World) (h : RRows w A n cp l) (h' : RRows w A' n' cp' l') :
    Calls Try.prog 34 #[.agg #[.int .i64 c, .int .u8 k, .slice A n cp], .agg #[.int .i64 c', .int .u8 k', .slice A' n' cp']] w (PPost w (sumP c k l c' k' l')) :=
  (psumO_any c k A n cp l c' k' A' n' cp' l' w h h').mono fun _ _ ⟨A1, n1, c1, he, ho, hb⟩ => ⟨A1, n1, c1, he, ho.rows, hb⟩
end Go.Proofs.Ytleniljhacnikaa
