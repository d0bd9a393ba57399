/-
  The reference's Sum and Minus.
-/
import Derived.Test.YtleniljhacnikaaRa
import Derived.Test.YtleniljhacnikaaW9w
namespace Go.Proofs.Ytleniljhacnikaa
open Go.RowKit Go.Proofs
attribute [local go_sem] cell?_more cell?_alloc_some cell?_setCell_far frozen?_alloc_some frozen?_more


set_option maxRecDepth 100000 in
set_option maxHeartbeats 4000000 in
theorem rsum_any (c k : Int) (A : Option Addr) (n cp : Nat) (l : List Row) (c' k' : Int) (A' : Option Addr) (n' cp' : Nat) (l' : List Row) (w : World) (h : RRows w A n cp l) (h' : RRows w A' n' cp' l') :
    Calls Try.prog 55 #[.agg #[.int .i64 c, .int .u8 k, .slice A n cp], .agg #[.int .i64 c', .int .u8 k', .slice A' n' cp']] w (PPostO w (sumP c k l c' k' l')) := by
  have hl := h.len
  have hl' := h'.len
  have hS0 := (((Hs.nil w).alloc 24 #[.int .i64 c, .int .u8 k, .slice A n cp]).alloc 24 #[.int .i64 c', .int .u8 k', .slice A' n' cp']).alloc 24 #[.int .i64 0, .int .u8 0, .slice none 0 0]
  have hb0 : Below w.heap.size w (((w.alloc (.cells #[.int .i64 c, .int .u8 k, .slice A n cp] 24)).alloc (.cells #[.int .i64 c', .int .u8 k', .slice A' n' cp'] 24)).alloc (.cells #[.int .i64 0, .int .u8 0, .slice none 0 0] 24)) := (((Below.refl _ _).alloc (Nat.le_refl _) _).alloc (by simp) _).alloc (by simp; omega) _
  have hz0 : (((w.alloc (.cells #[.int .i64 c, .int .u8 k, .slice A n cp] 24)).alloc (.cells #[.int .i64 c', .int .u8 k', .slice A' n' cp'] 24)).alloc (.cells #[.int .i64 0, .int .u8 0, .slice none 0 0] 24)).heap.size = w.heap.size + 3 := by simp
  simp only [World.size_alloc] at hS0
  go_enter Try.func55, Try.ntmps55
  go_wp2_with fail
  generalize hW : World.alloc (World.alloc (World.alloc _ _) _) _ = W0 at hS0 hb0 hz0
  try rw [hW]
  clear hW
  refine (rboth_any c k A n cp l c' k' A' n' cp' l' _ (h.below hb0) (h'.below hb0)).mono ?_
  rintro e w1 ⟨rfl, hbw⟩
  obtain ⟨hR, hQ, hP, -⟩ := hS0.below hbw
  have hb1 := Below_trans' hb0 hb0.size hbw
  have hz1 : w.heap.size + 3 ≤ w1.heap.size := by have := hbw.size; omega
  clear hS0 hb0 hbw hz0
  by_cases herr : bothS c k l c' k' l' = 0
  · obtain ⟨hc1, hc2, hkk, hcc⟩ := both_ok herr
    have hr : Hid (sumP c k l c' k' l' = wholeP c k (sumRows l l')) := by unfold Hid sumP; rw [if_pos herr]
    rw [herr]
    have H1 := hide hc1
    have H2 := hide hc2
    have h64 := (check_iff.1 hc1).1
    have h64' := (check_iff.1 hc2).1
    clear herr hkk hcc hc1 hc2
    have hL1 := h.below hb1
    go_wp2_with fail
    go_loopw [7, 8] (fun i m wr => ∃ (t : Nat) (At : Option Addr) (nt ct : Nat), t ≤ n' ∧ i = .int .i64 t ∧ RRows wr At nt ct (sumRows l (l'.take t)) ∧ Has wr w.heap.size 24 #[.int .i64 c, .int .u8 k, .slice At nt ct] ∧ Has wr (w.heap.size + 1) 24 #[.int .i64 c', .int .u8 k', .slice A' n' cp'] ∧ Has wr (w.heap.size + 2) 24 #[.int .i64 0, .int .u8 0, .slice none 0 0] ∧ Below w.heap.size w wr ∧ w.heap.size + 3 ≤ wr.heap.size) (fun i _ _ => n' - (intOf i).toNat)
    case atStart => exact ⟨0, A, n, cp, Nat.zero_le _, rfl, by rw [List.take_zero]; exact hL1, hP, hQ, hR, hb1, hz1⟩
    case round =>
      clear hL1 hP hQ hR hb1 hz1
      obtain ⟨t, At, nt, ct, ht, rfl, hL, hP, hQ, hR, hb, hz⟩ := hrel
      have q2 : wr.cell? ⟨w.heap.size + 1, 2, none⟩ = some (.slice A' n' cp') := hQ.cell 2
      by_cases hlt : t < n'
      · obtain ⟨b, off, Am, nm, cm, ms, y, rfl, hc0w, hm0, hc1w, hd, hat, hy⟩ := h'.step hlt
        have hc0 := keep_cell hb hc0w
        have hc1 := keep_cell hb hc1w
        have hm1 := hm0.below hb
        have p2 : wr.cell? ⟨w.heap.size, 2, none⟩ = some (.slice At nt ct) := hP.cell 2
        have f2 := hP.free 2
        obtain ⟨_, _, _, _, _, d6, d7, d8, _⟩ := check_iff.1 H1.out
        obtain ⟨_, _, _, _, _, e6, e7, e8, _⟩ := check_iff.1 H2.out
        have hyp := e8 _ (List.mem_of_getElem? hat.out)
        have hyt := le_tot e8 (List.mem_of_getElem? hat.out)
        simp only at hyp hyt
        have e8t : Pos (l'.take t) := fun x hx => e8 x (List.mem_of_mem_take hx)
        have s1 := asc_sumRows (l' := l'.take t) d7
        have s2 := pos_sumRows d8 e8t
        obtain ⟨s3, s4⟩ := cnt_bd s2 ms
        have s5 := tot_sumRows l (l'.take t)
        have s6 := length_sumRows l (l'.take t)
        have s7 : totS (l'.take t) ≤ totS l' := by
          have := totS_mono (l := l') (a := t) (b := l'.length) (fun i hi => by
            rw [List.getD_eq_getElem?_getD, List.getElem?_eq_getElem hi]
            exact e8 _ (List.getElem_mem hi)) (by omega) (Nat.le_refl _)
          rwa [List.take_length] at this
        have s8 : (l'.take t).length ≤ 64 := by rw [List.length_take]; omega
        have hln := hL.len
        have hnt : nt ≤ 1000 := by omega
        have hml10 := marks_small (marks_check H2.out (List.mem_of_getElem? hat.out))
        simp only at hml10
        have hmn := hm0.len
        have hwith : Hid (withS (sumRows l (l'.take t)) ms (cntR (sumRows l (l'.take t)) ms + y) = sumRows l (l'.take (t + 1))) := by unfold Hid; rw [sumRows_take hat.out]; exact with_put s1 s2 (by omega)
        have hI : I64 (cntR (sumRows l (l'.take t)) ms + y) := ⟨by omega, by omega⟩
        have hnm : nm ≤ 1000 := by omega
        have b1 : (0 : Int) ≤ (t : Int) := by omega
        have b2 : (t : Int) < (n' : Int) := by omega
        clear d6 d7 d8 e6 e7 e8 e8t s1 s2 s5 s6 s7 s8 hyp hyt hln hml10 hmn hd
        have hsum : IntKind.i64.wrap (cntR (sumRows l (l'.take t)) ms + y) = cntR (sumRows l (l'.take t)) ms + y := IntWalk.i64_in _ ⟨by have := hI.1; omega, by have := hI.2; omega⟩
        clear s3 s4
        go_upto_region 8 with fail
        refine wp_region_more_pick [0, 1, 2, 3, 4, 5, 6, 7, 8, 9, 10, 11, 12, 13] [14, 15, 16] (by kernel_rfl) (by kernel_rfl) ?_
        simp only [pickOps, List.getElem?_cons_zero, List.getElem?_cons_succ]
        repeat (go_big_quiet_step (with_reducible exact more_of (rof_any At nt ct (sumRows l (l'.take t)) Am nm cm ms _ (hL.more _) (hm1.more _))))
        refine wpQuiet_nil ?_
        rintro w2 ⟨qq, hw2⟩
        have hb2 := below_of_eq hw2
        clear hw2 qq
        have hL2 := hL.below hb2
        have hm2 := hm1.below hb2
        have hP2 := hP.below hb2 hP.lt
        have hQ2 := hQ.below hb2 hQ.lt
        have hR2 := hR.below hb2 hR.lt
        have hb02 := Below_trans' hb hb.size hb2
        have hz2 := Nat.le_trans hz hb2.size
        clear p2 q2 f2 hL hb2 hb hP hR hQ hz hm1 hsum hc0 hc1 hc0w hc1w
        go_wp2_with fail
        refine (with_any At nt ct (sumRows l (l'.take t)) Am nm cm ms (cntR (sumRows l (l'.take t)) ms + y) w2 hL2 hm2 (by omega) (by omega) hI).mono ?_
        rintro e w3 ⟨v, rfl, hO, hbw⟩
        rw [hwith.out] at hO
        obtain ⟨Aw, cw, rfl⟩ := hO.slice
        have hP3 := hP2.below hbw hP2.lt
        have hQ3 := hQ2.below hbw hQ2.lt
        have hR3 := hR2.below hbw hR2.lt
        have hb03 := Below_trans' hb02 hb02.size hbw
        have hz3 := Nat.le_trans hz2 hbw.size
        clear hP2 hR2 hQ2 hb02 hz2 hL2 hm2 hbw
        have hL3 := hO.rows
        generalize hnw : (sumRows l (l'.take (t + 1))).length = nw at hO hL3
        clear hnw
        have hP4 : Has (w3.setCell ⟨w.heap.size, 2, none⟩ (.slice Aw nw cw)) w.heap.size 24 #[.int .i64 c, .int .u8 k, .slice Aw nw cw] := hP3.put 2 (.slice Aw nw cw)
        have hL4 := hL3.setBox hP3 (.slice Aw nw cw)
        have k4 : Frame' (fun b => b = w.heap.size) w3 (w3.setCell ⟨w.heap.size, 2, none⟩ (.slice Aw nw cw)) := Frame'.setCell (p := ⟨w.heap.size, 2, none⟩) (Frame'.refl (fun b => b = w.heap.size) w3) (.inl rfl) _
        have hQ4 := k4.has hQ3 (by show ¬ (w.heap.size + 1 = w.heap.size); omega)
        have hR4 := k4.has hR3 (by show ¬ (w.heap.size + 2 = w.heap.size); omega)
        have hb4 := hb03.setCell (p := ⟨w.heap.size, 2, none⟩) (Nat.le_refl _) (.slice Aw nw cw)
        have hz4 := Nat.le_trans hz3 k4.size
        have p2 : w3.cell? ⟨w.heap.size, 2, none⟩ = some (.slice At nt ct) := hP3.cell 2
        have f2 := hP3.free 2
        go_upto_region 6 with fail
        generalize World.setCell w3 _ _ = W4 at hP4 hL4 hQ4 hR4 hb4 hz4 ⊢
        clear k4 p2 f2 hP3 hR3 hQ3 hb03 hz3 hO hL3
        go_wp2
        go_roundw
        case rel => exact ⟨t + 1, Aw, nw, cw, by omega, by go_num, hL4, hP4, hQ4, hR4, hb4, hz4⟩
        case measure => simp [intOf] <;> omega
      · have htn : Hid (l'.take t = l') := List.take_of_length_le (by omega)
        rw [htn.out] at hL
        have b2 : ¬ (t : Int) < n' := by omega
        have p0 : wr.cell? ⟨w.heap.size, 0, none⟩ = some (.int .i64 c) := hP.cell 0
        have p1 : wr.cell? ⟨w.heap.size, 1, none⟩ = some (.int .u8 k) := hP.cell 1
        have p2 : wr.cell? ⟨w.heap.size, 2, none⟩ = some (.slice At nt ct) := hP.cell 2
        go_wp2_with fail
        refine (rwhole_any c k At nt ct (sumRows l l') wr hL).mono ?_
        rintro e w5 ⟨A5, n5, c5, rfl, hO5, hbw⟩
        replace hO5 := hO5.mono hz
        have hR5 := hR.below hbw hR.lt
        have hb5 := Below_trans' hb hb.size hbw
        have z0 : w5.cell? ⟨w.heap.size + 2, 0, none⟩ = some (.int .i64 0) := hR5.cell 0
        have z1 : w5.cell? ⟨w.heap.size + 2, 1, none⟩ = some (.int .u8 0) := hR5.cell 1
        have z2 : w5.cell? ⟨w.heap.size + 2, 2, none⟩ = some (.slice none 0 0) := hR5.cell 2
        have y0 := hR5.free 0
        have y1 := hR5.free 1
        have y2 := hR5.free 2
        clear hP hL hR hQ hb p0 p1 p2 hbw hz q2
        go_wp2
        refine retProf2 rfl rfl rfl (put3 hR5) rfl rfl ⟨A5, n5, c5, ?_, ?_, below3 hb5 (by omega) _ _ _⟩
        · rw [hr.out]; rfl
        · rw [hr.out]
          exact (hO5.frame (frame3 w5 (w.heap.size + 2) _ _ _) (fun b hb _ e => by omega)).mono (by omega)
  · have hr : Hid (sumP c k l c' k' l' = badP (bothS c k l c' k' l')) := by unfold Hid sumP; rw [if_neg herr]
    have hne : (bothS c k l c' k' l' != 0) = true := by rw [bne_iff_ne]; exact herr
    clear herr
    have z0 : w1.cell? ⟨w.heap.size + 2, 0, none⟩ = some (.int .i64 0) := hR.cell 0
    have z1 : w1.cell? ⟨w.heap.size + 2, 1, none⟩ = some (.int .u8 0) := hR.cell 1
    have z2 : w1.cell? ⟨w.heap.size + 2, 2, none⟩ = some (.slice none 0 0) := hR.cell 2
    have y0 := hR.free 0
    have y1 := hR.free 1
    have y2 := hR.free 2
    go_wp2
    refine retProf2 rfl rfl rfl (put3 hR) rfl rfl ⟨none, 0, 0, ?_, ?_, below3 hb1 (by omega) _ _ _⟩
    · rw [hr.out]; rfl
    · rw [hr.out]; exact ORows.nil_ _ _

theorem check_minS {c k : Int} {l l' : List Row} (h : checkS c k l = 0) (hp : Pos l') (i : Nat) : checkS c k (minS l l' i) = 0 := by
  unfold minS
  have hp2 : Pos (l'.take i) := fun x hx => hp x (List.mem_of_mem_take hx)
  generalize l'.take i = t at hp2
  clear hp
  induction t generalizing l with
  | nil => exact h
  | cons a r ih =>
    have ha := hp2 a (List.mem_cons_self ..)
    have hr : Pos r := fun x hx => hp2 x (List.mem_cons_of_mem _ hx)
    rw [List.foldl_cons]
    cases hd : dropS l a.1 a.2 with
    | none => exact ih h hr
    | some l2 => exact ih (check_dropS h ha hd) hr

set_option maxRecDepth 100000 in
set_option maxHeartbeats 4000000 in
theorem rminus_any (c k : Int) (A : Option Addr) (n cp : Nat) (l : List Row) (c' k' : Int) (A' : Option Addr) (n' cp' : Nat) (l' : List Row) (w : World) (h : RRows w A n cp l) (h' : RRows w A' n' cp' l') :
    Calls Try.prog 57 #[.agg #[.int .i64 c, .int .u8 k, .slice A n cp], .agg #[.int .i64 c', .int .u8 k', .slice A' n' cp']] w (PPostO w (minusP c k l c' k' l')) := by
  have hl := h.len
  have hl' := h'.len
  have hS0 := (((Hs.nil w).alloc 24 #[.int .i64 c, .int .u8 k, .slice A n cp]).alloc 24 #[.int .i64 c', .int .u8 k', .slice A' n' cp']).alloc 24 #[.int .i64 0, .int .u8 0, .slice none 0 0]
  have hb0 : Below w.heap.size w (((w.alloc (.cells #[.int .i64 c, .int .u8 k, .slice A n cp] 24)).alloc (.cells #[.int .i64 c', .int .u8 k', .slice A' n' cp'] 24)).alloc (.cells #[.int .i64 0, .int .u8 0, .slice none 0 0] 24)) := (((Below.refl _ _).alloc (Nat.le_refl _) _).alloc (by simp) _).alloc (by simp; omega) _
  have hz0 : (((w.alloc (.cells #[.int .i64 c, .int .u8 k, .slice A n cp] 24)).alloc (.cells #[.int .i64 c', .int .u8 k', .slice A' n' cp'] 24)).alloc (.cells #[.int .i64 0, .int .u8 0, .slice none 0 0] 24)).heap.size = w.heap.size + 3 := by simp
  simp only [World.size_alloc] at hS0
  go_enter Try.func57, Try.ntmps57
  go_wp2_with fail
  generalize hW : World.alloc (World.alloc (World.alloc _ _) _) _ = W0 at hS0 hb0 hz0
  try rw [hW]
  clear hW
  refine (rboth_any c k A n cp l c' k' A' n' cp' l' _ (h.below hb0) (h'.below hb0)).mono ?_
  rintro e w1 ⟨rfl, hbw⟩
  obtain ⟨hR, hQ, hP, -⟩ := hS0.below hbw
  have hb1 := Below_trans' hb0 hb0.size hbw
  have hz1 : w.heap.size + 3 ≤ w1.heap.size := by have := hbw.size; omega
  clear hS0 hb0 hbw hz0
  by_cases herr : bothS c k l c' k' l' = 0
  · obtain ⟨hc1, hc2, hkk, hcc⟩ := both_ok herr
    have hr0 : Hid (minusP c k l c' k' l' = if allN l'.length (mayMin l l') = true then ⟨0, c, k, minS l l' l'.length⟩ else badP 6) := by unfold Hid minusP; rw [if_pos herr]
    rw [herr]
    have H1 := hide hc1
    have H2 := hide hc2
    have h64 := (check_iff.1 hc1).1
    have h64' := (check_iff.1 hc2).1
    clear herr hkk hcc hc1 hc2
    have hL1 := h.below hb1
    go_wp2_with fail
    go_loopw [7, 8, 9] (fun i m z wr => ∃ (t : Nat) (At : Option Addr) (nt ct : Nat), t ≤ n' ∧ i = .int .i64 t ∧ Hid (∀ j, j < t → mayMin l l' j = true) ∧ RRows wr At nt ct (minS l l' t) ∧ Has wr w.heap.size 24 #[.int .i64 c, .int .u8 k, .slice At nt ct] ∧ Has wr (w.heap.size + 1) 24 #[.int .i64 c', .int .u8 k', .slice A' n' cp'] ∧ Has wr (w.heap.size + 2) 24 #[.int .i64 0, .int .u8 0, .slice none 0 0] ∧ Below w.heap.size w wr ∧ w.heap.size + 3 ≤ wr.heap.size) (fun i _ _ _ => n' - (intOf i).toNat)
    case atStart => exact ⟨0, A, n, cp, Nat.zero_le _, rfl, hide (fun j hj => absurd hj (Nat.not_lt_zero j)), hL1, hP, hQ, hR, hb1, hz1⟩
    case round =>
      clear hL1 hP hQ hR hb1 hz1
      obtain ⟨t, At, nt, ct, ht, rfl, hall, hL, hP, hQ, hR, hb, hz⟩ := hrel
      have q2 : wr.cell? ⟨w.heap.size + 1, 2, none⟩ = some (.slice A' n' cp') := hQ.cell 2
      by_cases hlt : t < n'
      · obtain ⟨b, off, Am, nm, cm, ms, y, rfl, hc0w, hm0, hc1w, hd, hat, hy⟩ := h'.step hlt
        have hc0 := keep_cell hb hc0w
        have hc1 := keep_cell hb hc1w
        have hm1 := hm0.below hb
        have p2 : wr.cell? ⟨w.heap.size, 2, none⟩ = some (.slice At nt ct) := hP.cell 2
        obtain ⟨_, _, _, _, _, d6, d7, d8, _⟩ := check_iff.1 H1.out
        obtain ⟨_, _, _, _, _, e6, e7, e8, _⟩ := check_iff.1 H2.out
        have hyp := e8 _ (List.mem_of_getElem? hat.out)
        have hyt := le_tot e8 (List.mem_of_getElem? hat.out)
        simp only at hyp hyt
        obtain ⟨s1, s2, s6, s5⟩ := minS_inv d7 d8 e8 t
        obtain ⟨s3, s4⟩ := cnt_bd s2 ms
        have hln := hL.len
        have hnt : nt ≤ 1000 := by omega
        have hml10 := marks_small (marks_check H2.out (List.mem_of_getElem? hat.out))
        simp only at hml10
        have hmn := hm0.len
        have hmm := mayMin_at (l := l) hat.out
        have hms := minS_succ (l := l) hat.out
        simp only at hmm hms
        have hnm : nm ≤ 1000 := by omega
        have b1 : (0 : Int) ≤ (t : Int) := by omega
        have b2 : (t : Int) < (n' : Int) := by omega
        by_cases hfew : cntR (minS l l' t) ms < y
        · have hno : mayMin l l' t = false := by rw [hmm, dropS_few s1 (by omega) hfew]; rfl
          have hr : Hid (minusP c k l c' k' l' = badP 6) := by unfold Hid; rw [hr0.out, if_neg (by rw [allN_false (i := t) (by omega) hno]; simp)]
          clear d6 d7 d8 e6 e7 e8 s1 s2 s3 s4 s5 s6 hyp hyt hln hml10 hmn hd hmm hms hno hr0 hall
          go_wp2_with fail
          refine (rof_any At nt ct (minS l l' t) Am nm cm ms _ hL hm1).mono ?_
          rintro e w2 ⟨rfl, hbw⟩
          have hR2 := hR.below hbw hR.lt
          have hQ2 := hQ.below hbw hQ.lt
          have hb2 := Below_trans' hb hb.size hbw
          have hc1 := keep_cell hb2 hc1w
          clear hR hP hQ hb hz hm1 p2 q2 hL hbw hc0
          have q2 : w2.cell? ⟨w.heap.size + 1, 2, none⟩ = some (.slice (some ⟨b, off, none⟩) n' cp') := hQ2.cell 2
          have z0 : w2.cell? ⟨w.heap.size + 2, 0, none⟩ = some (.int .i64 0) := hR2.cell 0
          have z1 : w2.cell? ⟨w.heap.size + 2, 1, none⟩ = some (.int .u8 0) := hR2.cell 1
          have z2 : w2.cell? ⟨w.heap.size + 2, 2, none⟩ = some (.slice none 0 0) := hR2.cell 2
          have y0 := hR2.free 0
          have y1 := hR2.free 1
          have y2 := hR2.free 2
          go_wp2
          refine retProf2 rfl rfl rfl (put3 hR2) rfl rfl ⟨none, 0, 0, ?_, ?_, below3 hb2 (by omega) _ _ _⟩
          · rw [hr.out]; rfl
          · rw [hr.out]; exact ORows.nil_ _ _
        · have hdr : dropS (minS l l' t) ms y = some (withS (minS l l' t) ms (cntR (minS l l' t) ms - y)) := with_drop s1 (by omega) (by omega)
          have hwith : Hid (withS (minS l l' t) ms (cntR (minS l l' t) ms - y) = minS l l' (t + 1)) := by unfold Hid; rw [hms, hdr]; rfl
          have hall2 : Hid (∀ j, j < t + 1 → mayMin l l' j = true) := hide (fun j hj => by
            by_cases e : j = t
            · rw [e, hmm, hdr]; rfl
            · exact hall.out j (by omega))
          have hI : I64 (cntR (minS l l' t) ms - y) := ⟨by omega, by omega⟩
          have hfew2 : y ≤ cntR (minS l l' t) ms := by omega
          clear d6 d7 d8 e6 e7 e8 s1 s2 s5 s6 hyt hln hml10 hmn hd hmm hms hdr hall
          go_wp2_with fail
          refine (rof_any At nt ct (minS l l' t) Am nm cm ms _ hL hm1).mono ?_
          rintro e w1 ⟨rfl, hbw⟩
          have hL1 := hL.below hbw
          have hm3 := hm1.below hbw
          have hP1 := hP.below hbw hP.lt
          have hQ1 := hQ.below hbw hQ.lt
          have hR1 := hR.below hbw hR.lt
          have hb1 := Below_trans' hb hb.size hbw
          have hz1 := Nat.le_trans hz hbw.size
          clear hR hP hQ hb hz hm1 p2 q2 hL hc0 hc1 hbw
          have hc1 := keep_cell hb1 hc1w
          have p2 : w1.cell? ⟨w.heap.size, 2, none⟩ = some (.slice At nt ct) := hP1.cell 2
          have q2 : w1.cell? ⟨w.heap.size + 1, 2, none⟩ = some (.slice (some ⟨b, off, none⟩) n' cp') := hQ1.cell 2
          have hsum : IntKind.i64.wrap (cntR (minS l l' t) ms - y) = cntR (minS l l' t) ms - y := IntWalk.i64_in _ ⟨by have := hI.1; omega, by have := hI.2; omega⟩
          go_upto_region 11 with fail
          refine wp_region_more_pick [0, 1, 2, 3, 4, 5, 6, 7, 8, 9, 10] [11, 12, 13] (by kernel_rfl) (by kernel_rfl) ?_
          simp only [pickOps, List.getElem?_cons_zero, List.getElem?_cons_succ]
          repeat (go_big_quiet_step (fail))
          refine wpQuiet_nil ?_
          rintro w2 ⟨qq, hw2⟩
          have hb2 := below_of_eq hw2
          clear hw2 qq
          have hL2 := hL1.below hb2
          have hm2 := hm3.below hb2
          have hP2 := hP1.below hb2 hP1.lt
          have hQ2 := hQ1.below hb2 hQ1.lt
          have hR2 := hR1.below hb2 hR1.lt
          have hb02 := Below_trans' hb1 hb1.size hb2
          have hz2 := Nat.le_trans hz1 hb2.size
          clear p2 q2 hL1 hb2 hb1 hP1 hR1 hQ1 hz1 hm3 hsum hc1 hc0w hc1w
          go_wp2_with fail
          refine (with_any At nt ct (minS l l' t) Am nm cm ms (cntR (minS l l' t) ms - y) w2 hL2 hm2 (by omega) (by omega) hI).mono ?_
          rintro e w3 ⟨v, rfl, hO, hbw⟩
          rw [hwith.out] at hO
          obtain ⟨Aw, cw, rfl⟩ := hO.slice
          have hP3 := hP2.below hbw hP2.lt
          have hQ3 := hQ2.below hbw hQ2.lt
          have hR3 := hR2.below hbw hR2.lt
          have hb03 := Below_trans' hb02 hb02.size hbw
          have hz3 := Nat.le_trans hz2 hbw.size
          clear hP2 hR2 hQ2 hb02 hz2 hL2 hm2 hbw
          have hL3 := hO.rows
          generalize hnw : (minS l l' (t + 1)).length = nw at hO hL3
          clear hnw
          have hP4 : Has (w3.setCell ⟨w.heap.size, 2, none⟩ (.slice Aw nw cw)) w.heap.size 24 #[.int .i64 c, .int .u8 k, .slice Aw nw cw] := hP3.put 2 (.slice Aw nw cw)
          have hL4 := hL3.setBox hP3 (.slice Aw nw cw)
          have k4 : Frame' (fun b => b = w.heap.size) w3 (w3.setCell ⟨w.heap.size, 2, none⟩ (.slice Aw nw cw)) := Frame'.setCell (p := ⟨w.heap.size, 2, none⟩) (Frame'.refl (fun b => b = w.heap.size) w3) (.inl rfl) _
          have hQ4 := k4.has hQ3 (by show ¬ (w.heap.size + 1 = w.heap.size); omega)
          have hR4 := k4.has hR3 (by show ¬ (w.heap.size + 2 = w.heap.size); omega)
          have hb4 := hb03.setCell (p := ⟨w.heap.size, 2, none⟩) (Nat.le_refl _) (.slice Aw nw cw)
          have hz4 := Nat.le_trans hz3 k4.size
          have p2 : w3.cell? ⟨w.heap.size, 2, none⟩ = some (.slice At nt ct) := hP3.cell 2
          have f2 := hP3.free 2
          go_upto_region 6 with fail
          generalize World.setCell w3 _ _ = W4 at hP4 hL4 hQ4 hR4 hb4 hz4 ⊢
          clear k4 p2 f2 hP3 hR3 hQ3 hb03 hz3 hO hL3
          go_wp2
          go_roundw
          case rel => exact ⟨t + 1, Aw, nw, cw, by omega, by go_num, hall2, hL4, hP4, hQ4, hR4, hb4, hz4⟩
          case measure => simp [intOf] <;> omega
      · obtain rfl : t = n' := by omega
        have hr : Hid (minusP c k l c' k' l' = wholeP c k (minS l l' t)) := by
          unfold Hid wholeP
          rw [hr0.out, hl', if_pos (allN_true.2 fun i hi => hall.out i (by omega)), if_pos (check_minS H1.out (check_iff.1 H2.out).2.2.2.2.2.2.2.1 _)]
        clear hr0 hall
        have b2 : ¬ (t : Int) < t := by omega
        have p0 : wr.cell? ⟨w.heap.size, 0, none⟩ = some (.int .i64 c) := hP.cell 0
        have p1 : wr.cell? ⟨w.heap.size, 1, none⟩ = some (.int .u8 k) := hP.cell 1
        have p2 : wr.cell? ⟨w.heap.size, 2, none⟩ = some (.slice At nt ct) := hP.cell 2
        go_wp2_with fail
        refine (rwhole_any c k At nt ct (minS l l' t) wr hL).mono ?_
        rintro e w5 ⟨A5, n5, c5, rfl, hO5, hbw⟩
        replace hO5 := hO5.mono hz
        have hR5 := hR.below hbw hR.lt
        have hb5 := Below_trans' hb hb.size hbw
        have z0 : w5.cell? ⟨w.heap.size + 2, 0, none⟩ = some (.int .i64 0) := hR5.cell 0
        have z1 : w5.cell? ⟨w.heap.size + 2, 1, none⟩ = some (.int .u8 0) := hR5.cell 1
        have z2 : w5.cell? ⟨w.heap.size + 2, 2, none⟩ = some (.slice none 0 0) := hR5.cell 2
        have y0 := hR5.free 0
        have y1 := hR5.free 1
        have y2 := hR5.free 2
        clear hP hL hR hQ hb p0 p1 p2 hbw hz q2
        go_wp2
        refine retProf2 rfl rfl rfl (put3 hR5) rfl rfl ⟨A5, n5, c5, ?_, ?_, below3 hb5 (by omega) _ _ _⟩
        · rw [hr.out]; rfl
        · rw [hr.out]
          exact (hO5.frame (frame3 w5 (w.heap.size + 2) _ _ _) (fun b hb _ e => by omega)).mono (by omega)
  · have hr : Hid (minusP c k l c' k' l' = badP (bothS c k l c' k' l')) := by unfold Hid minusP; rw [if_neg herr]
    have hne : (bothS c k l c' k' l' != 0) = true := by rw [bne_iff_ne]; exact herr
    clear herr
    have z0 : w1.cell? ⟨w.heap.size + 2, 0, none⟩ = some (.int .i64 0) := hR.cell 0
    have z1 : w1.cell? ⟨w.heap.size + 2, 1, none⟩ = some (.int .u8 0) := hR.cell 1
    have z2 : w1.cell? ⟨w.heap.size + 2, 2, none⟩ = some (.slice none 0 0) := hR.cell 2
    have y0 := hR.free 0
    have y1 := hR.free 1
    have y2 := hR.free 2
    go_wp2
    refine retProf2 rfl rfl rfl (put3 hR) rfl rfl ⟨none, 0, 0, ?_, ?_, below3 hb1 (by omega) _ _ _⟩
    · rw [hr.out]; rfl
    · rw [hr.out]; exact ORows.nil_ _ _
end Go.Proofs.Ytleniljhacnikaa
