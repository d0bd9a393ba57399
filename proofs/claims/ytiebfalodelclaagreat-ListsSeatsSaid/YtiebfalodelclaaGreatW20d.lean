/-
  Seats for lists: a count by a method; D'Hondt, Sainte-Lague, largest remainders.
-/
import Derived.Test.YtiebfalodelclaaGreatW20c
import Derived.Test.YtiebfalodelclaaGreatFlow2
namespace Go.Proofs.YtiebfalodelclaaGreat
open Go.RowKit Go.Proofs Go.Shelf
attribute [local go_sem] cell?_more cell?_alloc_some cell?_setCell_far frozen?_alloc_some frozen?_more
/-- The outcome of a method, errors included. -/
def listR (rule c k : Int) (l : List Row) (seats : Int) (lot : List Int) : Outc := if mayS c k l 2 seats 10 lot = 0 then listO rule l c.toNat lot seats.toNat else ([], [], [])
theorem listR_ok {rule c k : Int} {l : List Row} {seats : Int} {lot : List Int} (h : mayS c k l 2 seats 10 lot = 0) : listR rule c k l seats lot = listO rule l c.toNat lot seats.toNat := if_pos h
theorem listR_bad {rule c k : Int} {l : List Row} {seats : Int} {lot : List Int} (h : mayS c k l 2 seats 10 lot ≠ 0) : listR rule c k l seats lot = ([], [], []) := if_neg h
theorem votV_bd {l : List Row} {C : Nat} (hm : MarkOK l C) : (∀ y ∈ votV l C, 0 ≤ y ∧ y ≤ 1000000) ∧ (∀ x, 0 ≤ getI (votV l C) x ∧ getI (votV l C) x ≤ 1000000) ∧ (votV l C).sum ≤ 1000000 ∧ 0 ≤ losV l ∧ losV l ≤ 1000000 := by
  have hr := fun z => vot_room hm l.length z
  simp only [List.take_length] at hr
  have h1 : ∀ y ∈ votV l C, 0 ≤ y ∧ y ≤ 1000000 := fun y hy => by
    obtain ⟨i, _, rfl⟩ := List.mem_map.1 hy
    have := hr (i : Int); omega
  refine ⟨h1, fun x => ?_, ?_, (hr 0).2.2.1, (hr 0).2.2.2⟩
  · unfold getI
    rw [List.getD_eq_getElem?_getD]
    rcases h : (votV l C)[x.toNat]? with _ | y
    · simp
    · exact h1 y (List.mem_of_getElem? h)
  · have h2 := vot_all hm.one
    have h3 := hm.tot
    have := (hr 0).2.2.1
    omega
set_option maxRecDepth 100000 in
set_option maxHeartbeats 2000000 in
theorem countD_any (rule : Int) (r : Nat) (hrule : ∀ had C lot n, seatS rule had C lot n = divS had r C lot n) (D : FuncId) (hD : DivFn D r) (c k : Int) (A : Option Addr) (n cp : Nat) (l : List Row) (seats : Int) (At : Option Addr) (nt ct : Nat) (lot : List Int) (w : World) (h : RRows w A n cp l) (h' : RInts w At nt ct lot) (hn : nt ≤ 1000) :
    Calls Tryz.prog 53 #[.agg #[.int .i64 c, .int .u8 k, .slice A n cp], .int .i64 seats, .slice At nt ct, .func (.func 55) #[.agg #[.func (.func D) #[] #[]]] #[]] w (OutPost w (listR rule c k l seats lot) (mayS c k l 2 seats 10 lot)) := by
  have egA : ∀ args w, (callFunc 55 args).run Tryz.prog w = .ok (.enter 55 args) w := enters_of Tryz.func55 (by kernel_rfl) rfl
  have Hrule := hide hrule
  have HD := hide hD
  clear hrule hD
  have hP0 : Has ((w.alloc (.cells #[.int .i64 c, .int .u8 k, .slice A n cp] 24)).alloc (.cells #[.slice none 0 0, .slice none 0 0, .slice none 0 0] 32)) w.heap.size 24 #[.int .i64 c, .int .u8 k, .slice A n cp] := (Has.new _ _ _).alloc _
  have hR0 : Has ((w.alloc (.cells #[.int .i64 c, .int .u8 k, .slice A n cp] 24)).alloc (.cells #[.slice none 0 0, .slice none 0 0, .slice none 0 0] 32)) (w.heap.size + 1) 32 #[.slice none 0 0, .slice none 0 0, .slice none 0 0] := Has.new2 _ _ _ _
  have hb0 : Below w.heap.size w ((w.alloc (.cells #[.int .i64 c, .int .u8 k, .slice A n cp] 24)).alloc (.cells #[.slice none 0 0, .slice none 0 0, .slice none 0 0] 32)) := ((Below.refl _ _).alloc (Nat.le_refl _) _).alloc (by simp) _
  go_enter Tryz.func53, Tryz.ntmps53
  go_upto_region 1 with fail
  generalize World.alloc (World.alloc w _) _ = W0 at hP0 hR0 hb0 ⊢
  have p0 := hP0.cell 0
  have p1 := hP0.cell 1
  have p2 := hP0.cell 2
  go_wp2_with fail
  refine (ccheck_any c k A n cp l 2 seats 10 At nt ct lot W0 (h.below hb0) (h'.below hb0) hn).mono ?_
  rintro e w1 ⟨rfl, hb1⟩
  have hb01 := Below_trans' hb0 hb0.size hb1
  have hP1 := hP0.below hb1 hP0.lt
  have hR1 := hR0.below hb1 hR0.lt
  clear p0 p1 p2 hP0 hR0
  by_cases hE : mayS c k l 2 seats 10 lot = 0
  · have e1 : (mayS c k l 2 seats 10 lot != 0) = false := by simp [hE]
    obtain ⟨hc0, hk0, hs1, hs2, hs3, hlot⟩ := may_zero hE
    subst hk0
    have hmk := markOK_of hc0
    have hc1 := (check_iff.1 hc0).2.1
    obtain ⟨C, rfl⟩ : ∃ C : Nat, c = (C : Int) := ⟨c.toNat, by omega⟩
    obtain ⟨S, rfl⟩ : ∃ S : Nat, seats = (S : Int) := ⟨seats.toNat, by omega⟩
    rw [Int.toNat_natCast] at hmk
    have Hlot := hide hlot
    have hro := hide (show listR rule C 2 l S lot = listO rule l C lot S by rw [listR_ok hE, Int.toNat_natCast, Int.toNat_natCast])
    have hE0 := hide hE
    have Hmk := hide hmk
    have hC10 := hmk.c10
    have hC1 := hmk.c1
    have hvb := votV_bd hmk
    have Hla := hide (LotAll.of hlot)
    clear hE hc0 hlot hmk hc1
    go_wp2_with fail
    refine (cof_any At nt ct lot w1 (h'.below hb01) hn).mono ?_
    rintro e w2 ⟨g, A2, n2, c2, rfl, hC2, hL2, hg1, hog, hb2⟩
    have hb02 := Below_trans' hb01 hb01.size hb2
    have hP2 := hP1.below hb2 hP1.lt
    have hR2 := hR1.below hb2 hR1.lt
    have p0 := hP2.cell 0
    have p1 := hP2.cell 1
    have p2 := hP2.cell 2
    go_wp2_with fail
    refine (votes_any C 2 A n cp l w2 (h.below hb02) Hmk.out).mono ?_
    rintro e w3 ⟨gv, rfl, hV3, hb3⟩
    clear p0 p1 p2
    have hb03 := Below_trans' hb02 hb02.size hb3
    have hC3 := hC2.below hb3 hC2.lt
    have hR3 := hR2.below hb3 hR2.lt
    have hL3 := (hL2.ints (fun x hx => h'.bd hx)).below hb3
    have hVI := hV3.ints (fun y hy => by have := hvb.1 y hy; omega)
    have hn2 : n2 ≤ 1000 := by have h1 := hL3.len; have h2 := h'.len; omega
    obtain ⟨hgv1, hgv2⟩ : w2.heap.size ≤ gv ∧ gv < w3.heap.size := hV3.own_lt rfl
    have hgl := hC2.lt
    have hLg : ∀ b, fpS A2 n2 b → b ≠ g := fun b hb => by have := hog b (hL2.fps hb); omega
    have hVg : ∀ b, fpS (some ⟨gv, 0, none⟩) C b → b ≠ g := fun b ⟨_, off, e⟩ => by have e2 : gv = b := (by cases e; rfl); omega
    have hal := (allocate_any D r HD.out g _ _ A2 n2 c2 lot (some ⟨gv, 0, none⟩) C C (votV l C) S w3 hC3 hL3 hLg hVI hVg hn2 hC1 hC10 (by omega) Hla.out hvb.2.1)
    have hsn := seatS_len (had := votV l C) hC1 Hla.out (hadOK_vot C Hmk.out.pos) rule S
    have hlo := hide (show listO rule l C lot S = ((seatS rule (votV l C) C lot S).1, [rndS (votV l C) (losV l) (seatS rule (votV l C) C lot S).1 []], (seatS rule (votV l C) C lot S).2) from rfl)
    have hsr := seatS_rng (had := votV l C) hC1 Hla.out rule S
    rw [← Hrule.out (votV l C) C lot S] at hal
    generalize seatS rule (votV l C) C lot S = s at hal hsn hlo hsr
    obtain ⟨el, ts⟩ := s
    dsimp only at hal hsn hlo hsr
    go_upto_region 6 with fail
    go_wp2_with (go_at_fn 55; refine hal.mono ?_; rintro e w4 ⟨vo, vt, fp, rfl, hO4, hC4, hT4, hfp4, hF4⟩; obtain ⟨Ao, co, rfl⟩ := hO4.slice; obtain ⟨Av, cv, rfl⟩ := hT4.slice; have q0 := hC4.cell 0; have f0 := hC4.free 0)
    clear hal q0 f0
    rw [hsn] at hO4
    have hC5 := hC4.put 0 (.slice Ao S co)
    have hF5 : Frame' (fun b => b = g) w4 (w4.setCell ⟨g, 0, none⟩ (.slice Ao S co)) := (Frame'.refl (fun b => b = g) w4).setCell (p := ⟨g, 0, none⟩) (.inl rfl) _
    generalize World.setCell w4 _ _ = w5 at hC5 hF5 ⊢
    have hF35 := hF4.trans hF5
    have hO5 := hO4.frame hF5 (fun b hb h => by have := (hO4.own_lt hb).1; have := hC3.lt; omega)
    have hT5 := hT4.frame hF5 (fun b hb h => by have := hfp4 b hb; have := hC3.lt; omega) (fun b hb h => by have := (hT4.lt hb).1; have := hC3.lt; omega)
    have hV5 := hV3.frame hF35 (fun b hb h => by have e2 : gv = b := Option.some.inj hb; omega)
    have hVI5 := hV5.ints (fun y hy => by have := hvb.1 y hy; omega)
    have hOI5 := hO5.ints (fun y hy => by have := hsr y hy; omega)
    have hr1 : w.heap.size + 1 < w1.heap.size := hR1.lt
    have hR5 := hF35.has hR3 (by omega)
    have hz45 := hF35.size
    have hbw5 : Below w.heap.size w w5 := Frame'.below hb03 hF35 (fun b e => by omega) hb03.size
    have q0 := hC5.cell 0
    clear hF4 hF5 hC4 hO4 hT4 hR3 hC3 hC2 hR2 hR1 hb1 hb01 hb2 hb02 hb3 hP1 hP2 hV3 hVI hL2 hL3 hLg hVg hog
    refine wp_region_flowz [0, 1, 3, 5, 6, 7, 8, 9] [0, 1, 3, 5, 6, 7, 8, 9, 11] (fun w' => ∃ q, w' = More w5 q) (by kernel_rfl) (by kernel_rfl) (below_more ((Below.refl w5.heap.size w5).drew)) ?_
    simp only [pickOps, List.getElem?_cons_zero, List.getElem?_cons_succ]
    repeat (go_big_quiet_step (fail))
    refine wpQuiet_nil ?_
    have hdr : Below w5.heap.size w5 w5.drew := (Below.refl _ _).drew
    clear q0
    refine flow_one 2 (by kernel_rfl) rfl ?_
    go_wp2_with fail
    refine (pwholes_any (some ⟨gv, 0, none⟩) C C (votV l C) _ (hVI5.below hdr) (by omega) (fun y hy => by have := hvb.1 y hy; omega)).mono ?_
    rintro e w6 ⟨v6, fp6, rfl, hO6, hf6, hb6⟩
    obtain ⟨A6, c6, rfl⟩ := hO6.slice
    rw [List.length_map, length_votV] at hO6 ⊢
    have hb56 : Below w5.heap.size w5 w6 := Below_trans' hdr hdr.size hb6
    go_wp2
    refine FlowPost.mk ⟨below_more hb56, ?_⟩
    refine flow_one 4 (by kernel_rfl) rfl ?_
    go_wp2_with fail
    refine (pwhole_any (losV l) w6 (by omega) (by omega)).mono ?_
    rintro e w7 ⟨An, nn, cn, Ad, nd, cd, rfl, hn7, hd7, hb7, hf7⟩
    have hb57 := Below_trans' hb56 hb56.size hb7
    go_wp2
    refine FlowPost.mk ⟨below_more hb57, ?_⟩
    refine flow_one 10 (by kernel_rfl) rfl ?_
    go_wp2_with fail
    refine (cloneO_any Ao S co el w7 (hOI5.below hb57) (by omega)).mono ?_
    rintro e w8 ⟨A8, c8, rfl, hO8, hb8⟩
    rw [hsn] at hO8 ⊢
    have hb58 := Below_trans' hb57 hb57.size hb8
    go_wp2
    refine FlowPost.mk ⟨below_more hb58, ?_⟩
    refine flow_pure [11] (by kernel_rfl) (below_more hb58) ?_
    simp only [pickOps, List.getElem?_cons_zero, List.getElem?_cons_succ]
    repeat (go_big_quiet_step (fail))
    refine wpQuiet_nil ?_
    refine flow_one 12 (by kernel_rfl) rfl ?_
    have hN9 := Has.new w8 47 #[.slice A6 C c6, .bool false, .slice An nn cn, .slice Ad nd cd, .slice A8 S c8, .slice none 0 0]
    have hb9 : Below w8.heap.size w8 (w8.alloc (.cells #[.slice A6 C c6, .bool false, .slice An nn cn, .slice Ad nd cd, .slice A8 S c8, .slice none 0 0] 47)) := below_allocN
    go_wp2
    generalize World.alloc w8 _ = w9 at hN9 hb9 ⊢
    refine FlowPost.mk ⟨below_more (Below_trans' hb58 hb58.size hb9), ?_⟩
    refine flow_rest [13, 14, 15, 16] (by kernel_rfl) ?_
    simp only [pickOps, List.getElem?_cons_zero, List.getElem?_cons_succ]
    have hC9 := (hC5.below hb58 hC5.lt).below hb9 (hC5.below hb58 hC5.lt).lt
    have q1 := hC9.cell 1
    have f1 := hC9.free 1
    go_upto_region 8 with fail
    clear q1 f1
    have hC10' : Has (w9.setCell ⟨g, 1, none⟩ (.slice (some ⟨w8.heap.size, 0, none⟩) 1 1)) g 125 #[.slice Ao S co, .slice (some ⟨w8.heap.size, 0, none⟩) 1 1, .slice Av ts.length cv, .slice A2 n2 c2] := hC9.put 1 _
    have hF10 : Frame' (fun b => b = g) w9 (w9.setCell ⟨g, 1, none⟩ (.slice (some ⟨w8.heap.size, 0, none⟩) 1 1)) := (Frame'.refl (fun b => b = g) w9).setCell (p := ⟨g, 1, none⟩) (.inl rfl) _
    have hgl5 := hC5.lt
    have hz8 := hb58.size
    have hz9 := hb9.size
    generalize World.setCell w9 _ _ = w10 at hC10' hF10 ⊢
    have hb59 := Below_trans' hb58 hb58.size hb9
    have hF510 : Frame' (fun b => b = g) w5 w10 := (Frame'.of_below hb59).trans hF10
    have hR10 := hF510.has hR5 (by omega)
    have hbw10 : Below w.heap.size w w10 := Frame'.below hbw5 hF510 (fun b e => by omega) hbw5.size
    have q0 := hC10'.cell 0
    have q1 := hC10'.cell 1
    have q2 := hC10'.cell 2
    have r0 := hR10.cell 0
    have r1 := hR10.cell 1
    have r2 := hR10.cell 2
    have f0 := hR10.free 0
    have f1 := hR10.free 1
    have f2 := hR10.free 2
    obtain ⟨nt', hnt'⟩ : ∃ nt', nt' = ts.length := ⟨_, rfl⟩
    rw [← hnt'] at hT5 q2 hC10'
    have Hnt := hide hnt'
    clear hnt'
    go_wp2
    refine retOut2 rfl rfl rfl (put3 hR10) rfl rfl ⟨Ao, S, co, _, 1, 1, Av, nt', cv, by rw [hE0.out]; rfl, ?_, below3 hbw10 (by omega) _ _ _⟩
    have hS : ∀ (W : World) (hW : Frame' (fun b => b = g) W w10), Frame' (fun b => b = g ∨ b = w.heap.size + 1) W (((w10.setCell ⟨w.heap.size + 1, 0, none⟩ (.slice Ao S co)).setCell ⟨w.heap.size + 1, 1, none⟩ (.slice (some ⟨w8.heap.size, 0, none⟩) 1 1)).setCell ⟨w.heap.size + 1, 2, none⟩ (.slice Av nt' cv)) := fun W hW => (hW.mono fun b _ h => .inl h).trans ((frame3 w10 (w.heap.size + 1) _ _ _).mono fun b _ h => .inr h)
    have k5 := hS w5 hF510
    have k6 := hS w6 ((Frame'.of_below (Below_trans' (Below_trans' hb7 hb7.size hb8) (Below_trans' hb7 hb7.size hb8).size hb9)).trans hF10)
    have k7 := hS w7 ((Frame'.of_below (Below_trans' hb8 hb8.size hb9)).trans hF10)
    have k8 := hS w8 ((Frame'.of_below hb9).trans hF10)
    have k9 := hS w9 hF10
    have hz6 := hb56.size
    have hz7 := hb57.size
    rw [hro.out, hlo.out]
    refine ⟨?_, ragg1 (k9.has hN9 (by omega)) rfl ?_, ?_⟩
    · exact (hO5.frame k5 (fun b hb e => by have := (hO5.own_lt hb).1; omega)).ints (fun y hy => by have := hsr y hy; omega)
    · refine ⟨A6, C, c6, _, _, _, _, S, c8, none, 0, 0, rfl, ?_, ⟨An, nn, cn, Ad, nd, cd, rfl, ?_, ?_⟩, ?_, RInts.nil_ _⟩
      · exact (hO6.frame k6 (fun b hb e => by have h1 := hf6 b hb; have h2 := hdr.size; omega) (fun b hb e => by have h1 := (hO6.lt hb).1; have h2 := hdr.size; omega)).reads
      · exact hn7.frame k7 (fun b hb e => by have := hf7 b (.inl hb); omega)
      · exact hd7.frame k7 (fun b hb e => by have := hf7 b (.inr hb); omega)
      · exact (hO8.frame k8 (fun b hb e => by have := (hO8.own_lt hb).1; omega)).ints (fun y hy => by have := hsr y hy; omega)
    · exact (hT5.frame k5 (fun b hb e => by have := hfp4 b hb; omega) (fun b hb e => by have := (hT5.lt hb).1; omega)).reads
  · have e1 : (mayS c k l 2 seats 10 lot != 0) = true := by simp [hE]
    have hro := hide (listR_bad (rule := rule) hE)
    have q0 := hR1.cell 0
    have q1 := hR1.cell 1
    have q2 := hR1.cell 2
    have f0 := hR1.free 0
    have f1 := hR1.free 1
    have f2 := hR1.free 2
    go_wp2
    refine retOut2 rfl rfl rfl (put3 hR1) rfl rfl ⟨none, 0, 0, none, 0, 0, none, 0, 0, rfl, ?_, below3 hb01 (by omega) _ _ _⟩
    rw [hro.out]
    exact ROut.nil_ _
set_option maxRecDepth 100000 in
set_option maxHeartbeats 2000000 in
theorem countR_any (rule : Int) (hrule : ∀ had C lot n, seatS rule had C lot n = remS had C lot n) (c k : Int) (A : Option Addr) (n cp : Nat) (l : List Row) (seats : Int) (At : Option Addr) (nt ct : Nat) (lot : List Int) (w : World) (h : RRows w A n cp l) (h' : RInts w At nt ct lot) (hn : nt ≤ 1000) :
    Calls Tryz.prog 53 #[.agg #[.int .i64 c, .int .u8 k, .slice A n cp], .int .i64 seats, .slice At nt ct, .func (.func 57) #[] #[]] w (OutPost w (listR rule c k l seats lot) (mayS c k l 2 seats 10 lot)) := by
  have egA : ∀ args w, (callFunc 57 args).run Tryz.prog w = .ok (.enter 57 args) w := enters_of Tryz.func57 (by kernel_rfl) rfl
  have Hrule := hide hrule
  clear hrule
  have hP0 : Has ((w.alloc (.cells #[.int .i64 c, .int .u8 k, .slice A n cp] 24)).alloc (.cells #[.slice none 0 0, .slice none 0 0, .slice none 0 0] 32)) w.heap.size 24 #[.int .i64 c, .int .u8 k, .slice A n cp] := (Has.new _ _ _).alloc _
  have hR0 : Has ((w.alloc (.cells #[.int .i64 c, .int .u8 k, .slice A n cp] 24)).alloc (.cells #[.slice none 0 0, .slice none 0 0, .slice none 0 0] 32)) (w.heap.size + 1) 32 #[.slice none 0 0, .slice none 0 0, .slice none 0 0] := Has.new2 _ _ _ _
  have hb0 : Below w.heap.size w ((w.alloc (.cells #[.int .i64 c, .int .u8 k, .slice A n cp] 24)).alloc (.cells #[.slice none 0 0, .slice none 0 0, .slice none 0 0] 32)) := ((Below.refl _ _).alloc (Nat.le_refl _) _).alloc (by simp) _
  go_enter Tryz.func53, Tryz.ntmps53
  go_upto_region 1 with fail
  generalize World.alloc (World.alloc w _) _ = W0 at hP0 hR0 hb0 ⊢
  have p0 := hP0.cell 0
  have p1 := hP0.cell 1
  have p2 := hP0.cell 2
  go_wp2_with fail
  refine (ccheck_any c k A n cp l 2 seats 10 At nt ct lot W0 (h.below hb0) (h'.below hb0) hn).mono ?_
  rintro e w1 ⟨rfl, hb1⟩
  have hb01 := Below_trans' hb0 hb0.size hb1
  have hP1 := hP0.below hb1 hP0.lt
  have hR1 := hR0.below hb1 hR0.lt
  clear p0 p1 p2 hP0 hR0
  by_cases hE : mayS c k l 2 seats 10 lot = 0
  · have e1 : (mayS c k l 2 seats 10 lot != 0) = false := by simp [hE]
    obtain ⟨hc0, hk0, hs1, hs2, hs3, hlot⟩ := may_zero hE
    subst hk0
    have hmk := markOK_of hc0
    have hc1 := (check_iff.1 hc0).2.1
    obtain ⟨C, rfl⟩ : ∃ C : Nat, c = (C : Int) := ⟨c.toNat, by omega⟩
    obtain ⟨S, rfl⟩ : ∃ S : Nat, seats = (S : Int) := ⟨seats.toNat, by omega⟩
    rw [Int.toNat_natCast] at hmk
    have Hlot := hide hlot
    have hro := hide (show listR rule C 2 l S lot = listO rule l C lot S by rw [listR_ok hE, Int.toNat_natCast, Int.toNat_natCast])
    have hE0 := hide hE
    have Hmk := hide hmk
    have hC10 := hmk.c10
    have hC1 := hmk.c1
    have hvb := votV_bd hmk
    have Hla := hide (LotAll.of hlot)
    clear hE hc0 hlot hmk hc1
    go_wp2_with fail
    refine (cof_any At nt ct lot w1 (h'.below hb01) hn).mono ?_
    rintro e w2 ⟨g, A2, n2, c2, rfl, hC2, hL2, hg1, hog, hb2⟩
    have hb02 := Below_trans' hb01 hb01.size hb2
    have hP2 := hP1.below hb2 hP1.lt
    have hR2 := hR1.below hb2 hR1.lt
    have p0 := hP2.cell 0
    have p1 := hP2.cell 1
    have p2 := hP2.cell 2
    go_wp2_with fail
    refine (votes_any C 2 A n cp l w2 (h.below hb02) Hmk.out).mono ?_
    rintro e w3 ⟨gv, rfl, hV3, hb3⟩
    clear p0 p1 p2
    have hb03 := Below_trans' hb02 hb02.size hb3
    have hC3 := hC2.below hb3 hC2.lt
    have hR3 := hR2.below hb3 hR2.lt
    have hL3 := (hL2.ints (fun x hx => h'.bd hx)).below hb3
    have hVI := hV3.ints (fun y hy => by have := hvb.1 y hy; omega)
    have hn2 : n2 ≤ 1000 := by have h1 := hL3.len; have h2 := h'.len; omega
    obtain ⟨hgv1, hgv2⟩ : w2.heap.size ≤ gv ∧ gv < w3.heap.size := hV3.own_lt rfl
    have hgl := hC2.lt
    have hLg : ∀ b, fpS A2 n2 b → b ≠ g := fun b hb => by have := hog b (hL2.fps hb); omega
    have hVg : ∀ b, fpS (some ⟨gv, 0, none⟩) C b → b ≠ g := fun b ⟨_, off, e⟩ => by have e2 : gv = b := (by cases e; rfl); omega
    have hal := (remainders_any g _ _ A2 n2 c2 lot (some ⟨gv, 0, none⟩) C C (votV l C) S w3 hC3 hL3 hLg hVI hVg hn2 hC1 hC10 (by omega) Hla.out (hadOK_vot C Hmk.out.pos) hvb.2.2.1)
    have hsn := seatS_len (had := votV l C) hC1 Hla.out (hadOK_vot C Hmk.out.pos) rule S
    have hlo := hide (show listO rule l C lot S = ((seatS rule (votV l C) C lot S).1, [rndS (votV l C) (losV l) (seatS rule (votV l C) C lot S).1 []], (seatS rule (votV l C) C lot S).2) from rfl)
    have hsr := seatS_rng (had := votV l C) hC1 Hla.out rule S
    rw [← Hrule.out (votV l C) C lot S] at hal
    generalize seatS rule (votV l C) C lot S = s at hal hsn hlo hsr
    obtain ⟨el, ts⟩ := s
    dsimp only at hal hsn hlo hsr
    go_upto_region 6 with fail
    go_wp2_with (go_at_fn 57; refine hal.mono ?_; rintro e w4 ⟨vo, vt, fp, rfl, hO4, hC4, hT4, hfp4, hF4⟩; obtain ⟨Ao, co, rfl⟩ := hO4.slice; obtain ⟨Av, cv, rfl⟩ := hT4.slice; have q0 := hC4.cell 0; have f0 := hC4.free 0)
    clear hal q0 f0
    rw [hsn] at hO4
    have hC5 := hC4.put 0 (.slice Ao S co)
    have hF5 : Frame' (fun b => b = g) w4 (w4.setCell ⟨g, 0, none⟩ (.slice Ao S co)) := (Frame'.refl (fun b => b = g) w4).setCell (p := ⟨g, 0, none⟩) (.inl rfl) _
    generalize World.setCell w4 _ _ = w5 at hC5 hF5 ⊢
    have hF35 := hF4.trans hF5
    have hO5 := hO4.frame hF5 (fun b hb h => by have := (hO4.own_lt hb).1; have := hC3.lt; omega)
    have hT5 := hT4.frame hF5 (fun b hb h => by have := hfp4 b hb; have := hC3.lt; omega) (fun b hb h => by have := (hT4.lt hb).1; have := hC3.lt; omega)
    have hV5 := hV3.frame hF35 (fun b hb h => by have e2 : gv = b := Option.some.inj hb; omega)
    have hVI5 := hV5.ints (fun y hy => by have := hvb.1 y hy; omega)
    have hOI5 := hO5.ints (fun y hy => by have := hsr y hy; omega)
    have hr1 : w.heap.size + 1 < w1.heap.size := hR1.lt
    have hR5 := hF35.has hR3 (by omega)
    have hz45 := hF35.size
    have hbw5 : Below w.heap.size w w5 := Frame'.below hb03 hF35 (fun b e => by omega) hb03.size
    have q0 := hC5.cell 0
    clear hF4 hF5 hC4 hO4 hT4 hR3 hC3 hC2 hR2 hR1 hb1 hb01 hb2 hb02 hb3 hP1 hP2 hV3 hVI hL2 hL3 hLg hVg hog
    refine wp_region_flowz [0, 1, 3, 5, 6, 7, 8, 9] [0, 1, 3, 5, 6, 7, 8, 9, 11] (fun w' => ∃ q, w' = More w5 q) (by kernel_rfl) (by kernel_rfl) (below_more ((Below.refl w5.heap.size w5).drew)) ?_
    simp only [pickOps, List.getElem?_cons_zero, List.getElem?_cons_succ]
    repeat (go_big_quiet_step (fail))
    refine wpQuiet_nil ?_
    have hdr : Below w5.heap.size w5 w5.drew := (Below.refl _ _).drew
    clear q0
    refine flow_one 2 (by kernel_rfl) rfl ?_
    go_wp2_with fail
    refine (pwholes_any (some ⟨gv, 0, none⟩) C C (votV l C) _ (hVI5.below hdr) (by omega) (fun y hy => by have := hvb.1 y hy; omega)).mono ?_
    rintro e w6 ⟨v6, fp6, rfl, hO6, hf6, hb6⟩
    obtain ⟨A6, c6, rfl⟩ := hO6.slice
    rw [List.length_map, length_votV] at hO6 ⊢
    have hb56 : Below w5.heap.size w5 w6 := Below_trans' hdr hdr.size hb6
    go_wp2
    refine FlowPost.mk ⟨below_more hb56, ?_⟩
    refine flow_one 4 (by kernel_rfl) rfl ?_
    go_wp2_with fail
    refine (pwhole_any (losV l) w6 (by omega) (by omega)).mono ?_
    rintro e w7 ⟨An, nn, cn, Ad, nd, cd, rfl, hn7, hd7, hb7, hf7⟩
    have hb57 := Below_trans' hb56 hb56.size hb7
    go_wp2
    refine FlowPost.mk ⟨below_more hb57, ?_⟩
    refine flow_one 10 (by kernel_rfl) rfl ?_
    go_wp2_with fail
    refine (cloneO_any Ao S co el w7 (hOI5.below hb57) (by omega)).mono ?_
    rintro e w8 ⟨A8, c8, rfl, hO8, hb8⟩
    rw [hsn] at hO8 ⊢
    have hb58 := Below_trans' hb57 hb57.size hb8
    go_wp2
    refine FlowPost.mk ⟨below_more hb58, ?_⟩
    refine flow_pure [11] (by kernel_rfl) (below_more hb58) ?_
    simp only [pickOps, List.getElem?_cons_zero, List.getElem?_cons_succ]
    repeat (go_big_quiet_step (fail))
    refine wpQuiet_nil ?_
    refine flow_one 12 (by kernel_rfl) rfl ?_
    have hN9 := Has.new w8 47 #[.slice A6 C c6, .bool false, .slice An nn cn, .slice Ad nd cd, .slice A8 S c8, .slice none 0 0]
    have hb9 : Below w8.heap.size w8 (w8.alloc (.cells #[.slice A6 C c6, .bool false, .slice An nn cn, .slice Ad nd cd, .slice A8 S c8, .slice none 0 0] 47)) := below_allocN
    go_wp2
    generalize World.alloc w8 _ = w9 at hN9 hb9 ⊢
    refine FlowPost.mk ⟨below_more (Below_trans' hb58 hb58.size hb9), ?_⟩
    refine flow_rest [13, 14, 15, 16] (by kernel_rfl) ?_
    simp only [pickOps, List.getElem?_cons_zero, List.getElem?_cons_succ]
    have hC9 := (hC5.below hb58 hC5.lt).below hb9 (hC5.below hb58 hC5.lt).lt
    have q1 := hC9.cell 1
    have f1 := hC9.free 1
    go_upto_region 8 with fail
    clear q1 f1
    have hC10' : Has (w9.setCell ⟨g, 1, none⟩ (.slice (some ⟨w8.heap.size, 0, none⟩) 1 1)) g 125 #[.slice Ao S co, .slice (some ⟨w8.heap.size, 0, none⟩) 1 1, .slice Av ts.length cv, .slice A2 n2 c2] := hC9.put 1 _
    have hF10 : Frame' (fun b => b = g) w9 (w9.setCell ⟨g, 1, none⟩ (.slice (some ⟨w8.heap.size, 0, none⟩) 1 1)) := (Frame'.refl (fun b => b = g) w9).setCell (p := ⟨g, 1, none⟩) (.inl rfl) _
    have hgl5 := hC5.lt
    have hz8 := hb58.size
    have hz9 := hb9.size
    generalize World.setCell w9 _ _ = w10 at hC10' hF10 ⊢
    have hb59 := Below_trans' hb58 hb58.size hb9
    have hF510 : Frame' (fun b => b = g) w5 w10 := (Frame'.of_below hb59).trans hF10
    have hR10 := hF510.has hR5 (by omega)
    have hbw10 : Below w.heap.size w w10 := Frame'.below hbw5 hF510 (fun b e => by omega) hbw5.size
    have q0 := hC10'.cell 0
    have q1 := hC10'.cell 1
    have q2 := hC10'.cell 2
    have r0 := hR10.cell 0
    have r1 := hR10.cell 1
    have r2 := hR10.cell 2
    have f0 := hR10.free 0
    have f1 := hR10.free 1
    have f2 := hR10.free 2
    obtain ⟨nt', hnt'⟩ : ∃ nt', nt' = ts.length := ⟨_, rfl⟩
    rw [← hnt'] at hT5 q2 hC10'
    have Hnt := hide hnt'
    clear hnt'
    go_wp2
    refine retOut2 rfl rfl rfl (put3 hR10) rfl rfl ⟨Ao, S, co, _, 1, 1, Av, nt', cv, by rw [hE0.out]; rfl, ?_, below3 hbw10 (by omega) _ _ _⟩
    have hS : ∀ (W : World) (hW : Frame' (fun b => b = g) W w10), Frame' (fun b => b = g ∨ b = w.heap.size + 1) W (((w10.setCell ⟨w.heap.size + 1, 0, none⟩ (.slice Ao S co)).setCell ⟨w.heap.size + 1, 1, none⟩ (.slice (some ⟨w8.heap.size, 0, none⟩) 1 1)).setCell ⟨w.heap.size + 1, 2, none⟩ (.slice Av nt' cv)) := fun W hW => (hW.mono fun b _ h => .inl h).trans ((frame3 w10 (w.heap.size + 1) _ _ _).mono fun b _ h => .inr h)
    have k5 := hS w5 hF510
    have k6 := hS w6 ((Frame'.of_below (Below_trans' (Below_trans' hb7 hb7.size hb8) (Below_trans' hb7 hb7.size hb8).size hb9)).trans hF10)
    have k7 := hS w7 ((Frame'.of_below (Below_trans' hb8 hb8.size hb9)).trans hF10)
    have k8 := hS w8 ((Frame'.of_below hb9).trans hF10)
    have k9 := hS w9 hF10
    have hz6 := hb56.size
    have hz7 := hb57.size
    rw [hro.out, hlo.out]
    refine ⟨?_, ragg1 (k9.has hN9 (by omega)) rfl ?_, ?_⟩
    · exact (hO5.frame k5 (fun b hb e => by have := (hO5.own_lt hb).1; omega)).ints (fun y hy => by have := hsr y hy; omega)
    · refine ⟨A6, C, c6, _, _, _, _, S, c8, none, 0, 0, rfl, ?_, ⟨An, nn, cn, Ad, nd, cd, rfl, ?_, ?_⟩, ?_, RInts.nil_ _⟩
      · exact (hO6.frame k6 (fun b hb e => by have h1 := hf6 b hb; have h2 := hdr.size; omega) (fun b hb e => by have h1 := (hO6.lt hb).1; have h2 := hdr.size; omega)).reads
      · exact hn7.frame k7 (fun b hb e => by have := hf7 b (.inl hb); omega)
      · exact hd7.frame k7 (fun b hb e => by have := hf7 b (.inr hb); omega)
      · exact (hO8.frame k8 (fun b hb e => by have := (hO8.own_lt hb).1; omega)).ints (fun y hy => by have := hsr y hy; omega)
    · exact (hT5.frame k5 (fun b hb e => by have := hfp4 b hb; omega) (fun b hb e => by have := (hT5.lt hb).1; omega)).reads
  · have e1 : (mayS c k l 2 seats 10 lot != 0) = true := by simp [hE]
    have hro := hide (listR_bad (rule := rule) hE)
    have q0 := hR1.cell 0
    have q1 := hR1.cell 1
    have q2 := hR1.cell 2
    have f0 := hR1.free 0
    have f1 := hR1.free 1
    have f2 := hR1.free 2
    go_wp2
    refine retOut2 rfl rfl rfl (put3 hR1) rfl rfl ⟨none, 0, 0, none, 0, 0, none, 0, 0, rfl, ?_, below3 hb01 (by omega) _ _ _⟩
    rw [hro.out]
    exact ROut.nil_ _
set_option maxRecDepth 100000 in
theorem dhondt_any (c k : Int) (A : Option Addr) (n cp : Nat) (l : List Row) (seats : Int) (At : Option Addr) (nt ct : Nat) (lot : List Int) (w : World) (h : RRows w A n cp l) (h' : RInts w At nt ct lot) (hn : nt ≤ 1000) :
    Calls Tryz.prog 28 #[.agg #[.int .i64 c, .int .u8 k, .slice A n cp], .int .i64 seats, .slice At nt ct] w (OutPost w (listR 0 c k l seats lot) (mayS c k l 2 seats 10 lot)) := by
  have hP0 : Has ((w.alloc (.cells #[.int .i64 c, .int .u8 k, .slice A n cp] 24)).alloc (.cells #[.slice none 0 0, .slice none 0 0, .slice none 0 0] 32)) w.heap.size 24 #[.int .i64 c, .int .u8 k, .slice A n cp] := (Has.new _ _ _).alloc _
  have hR0 : Has ((w.alloc (.cells #[.int .i64 c, .int .u8 k, .slice A n cp] 24)).alloc (.cells #[.slice none 0 0, .slice none 0 0, .slice none 0 0] 32)) (w.heap.size + 1) 32 #[.slice none 0 0, .slice none 0 0, .slice none 0 0] := Has.new2 _ _ _ _
  have hb0 : Below w.heap.size w ((w.alloc (.cells #[.int .i64 c, .int .u8 k, .slice A n cp] 24)).alloc (.cells #[.slice none 0 0, .slice none 0 0, .slice none 0 0] 32)) := ((Below.refl _ _).alloc (Nat.le_refl _) _).alloc (by simp) _
  go_enter Tryz.func28, Tryz.ntmps28
  go_upto_region 1 with fail
  generalize World.alloc (World.alloc w _) _ = W0 at hP0 hR0 hb0 ⊢
  have p0 := hP0.cell 0
  have p1 := hP0.cell 1
  have p2 := hP0.cell 2
  have hcall := countD_any 0 0 (fun _ _ _ _ => rfl) 54 dhondt_div c k A n cp l seats At nt ct lot W0 (h.below hb0) (h'.below hb0) hn
  go_wp2_with fail
  refine hcall.mono ?_
  rintro e w1 ⟨Ae, ne, ce, Ar, nr, cr, Av, nv, cv, rfl, hO, hb1⟩
  have hb01 := Below_trans' hb0 hb0.size hb1
  have hR1 := hR0.below hb1 hR0.lt
  have r0 := hR1.cell 0
  have r1 := hR1.cell 1
  have r2 := hR1.cell 2
  have f0 := hR1.free 0
  have f1 := hR1.free 1
  have f2 := hR1.free 2
  clear hcall p0 p1 p2
  go_wp2
  exact retOut2 rfl rfl rfl (put3 hR1) rfl rfl ⟨Ae, ne, ce, Ar, nr, cr, Av, nv, cv, rfl, hO.far hR1 (fun b hb hne => (frame3 w1 (w.heap.size + 1) (.slice Ae ne ce) (.slice Ar nr cr) (.slice Av nv cv)).block b hb hne), below3 hb01 (by omega) _ _ _⟩
set_option maxRecDepth 100000 in
theorem sainte_any (c k : Int) (A : Option Addr) (n cp : Nat) (l : List Row) (seats : Int) (At : Option Addr) (nt ct : Nat) (lot : List Int) (w : World) (h : RRows w A n cp l) (h' : RInts w At nt ct lot) (hn : nt ≤ 1000) :
    Calls Tryz.prog 29 #[.agg #[.int .i64 c, .int .u8 k, .slice A n cp], .int .i64 seats, .slice At nt ct] w (OutPost w (listR 1 c k l seats lot) (mayS c k l 2 seats 10 lot)) := by
  have hP0 : Has ((w.alloc (.cells #[.int .i64 c, .int .u8 k, .slice A n cp] 24)).alloc (.cells #[.slice none 0 0, .slice none 0 0, .slice none 0 0] 32)) w.heap.size 24 #[.int .i64 c, .int .u8 k, .slice A n cp] := (Has.new _ _ _).alloc _
  have hR0 : Has ((w.alloc (.cells #[.int .i64 c, .int .u8 k, .slice A n cp] 24)).alloc (.cells #[.slice none 0 0, .slice none 0 0, .slice none 0 0] 32)) (w.heap.size + 1) 32 #[.slice none 0 0, .slice none 0 0, .slice none 0 0] := Has.new2 _ _ _ _
  have hb0 : Below w.heap.size w ((w.alloc (.cells #[.int .i64 c, .int .u8 k, .slice A n cp] 24)).alloc (.cells #[.slice none 0 0, .slice none 0 0, .slice none 0 0] 32)) := ((Below.refl _ _).alloc (Nat.le_refl _) _).alloc (by simp) _
  go_enter Tryz.func29, Tryz.ntmps29
  go_upto_region 1 with fail
  generalize World.alloc (World.alloc w _) _ = W0 at hP0 hR0 hb0 ⊢
  have p0 := hP0.cell 0
  have p1 := hP0.cell 1
  have p2 := hP0.cell 2
  have hcall := countD_any 1 1 (fun _ _ _ _ => rfl) 56 sainte_div c k A n cp l seats At nt ct lot W0 (h.below hb0) (h'.below hb0) hn
  go_wp2_with fail
  refine hcall.mono ?_
  rintro e w1 ⟨Ae, ne, ce, Ar, nr, cr, Av, nv, cv, rfl, hO, hb1⟩
  have hb01 := Below_trans' hb0 hb0.size hb1
  have hR1 := hR0.below hb1 hR0.lt
  have r0 := hR1.cell 0
  have r1 := hR1.cell 1
  have r2 := hR1.cell 2
  have f0 := hR1.free 0
  have f1 := hR1.free 1
  have f2 := hR1.free 2
  clear hcall p0 p1 p2
  go_wp2
  exact retOut2 rfl rfl rfl (put3 hR1) rfl rfl ⟨Ae, ne, ce, Ar, nr, cr, Av, nv, cv, rfl, hO.far hR1 (fun b hb hne => (frame3 w1 (w.heap.size + 1) (.slice Ae ne ce) (.slice Ar nr cr) (.slice Av nv cv)).block b hb hne), below3 hb01 (by omega) _ _ _⟩
set_option maxRecDepth 100000 in
theorem hare_any (rule : Int) (h0 : rule ≠ 0) (h1 : rule ≠ 1) (c k : Int) (A : Option Addr) (n cp : Nat) (l : List Row) (seats : Int) (At : Option Addr) (nt ct : Nat) (lot : List Int) (w : World) (h : RRows w A n cp l) (h' : RInts w At nt ct lot) (hn : nt ≤ 1000) :
    Calls Tryz.prog 30 #[.agg #[.int .i64 c, .int .u8 k, .slice A n cp], .int .i64 seats, .slice At nt ct] w (OutPost w (listR rule c k l seats lot) (mayS c k l 2 seats 10 lot)) := by
  have hrr : ∀ had C lot n, seatS rule had C lot n = remS had C lot n := fun _ _ _ _ => by unfold seatS; rw [if_neg h0, if_neg h1]
  have Hrr := hide hrr
  clear hrr h0 h1
  have hP0 : Has ((w.alloc (.cells #[.int .i64 c, .int .u8 k, .slice A n cp] 24)).alloc (.cells #[.slice none 0 0, .slice none 0 0, .slice none 0 0] 32)) w.heap.size 24 #[.int .i64 c, .int .u8 k, .slice A n cp] := (Has.new _ _ _).alloc _
  have hR0 : Has ((w.alloc (.cells #[.int .i64 c, .int .u8 k, .slice A n cp] 24)).alloc (.cells #[.slice none 0 0, .slice none 0 0, .slice none 0 0] 32)) (w.heap.size + 1) 32 #[.slice none 0 0, .slice none 0 0, .slice none 0 0] := Has.new2 _ _ _ _
  have hb0 : Below w.heap.size w ((w.alloc (.cells #[.int .i64 c, .int .u8 k, .slice A n cp] 24)).alloc (.cells #[.slice none 0 0, .slice none 0 0, .slice none 0 0] 32)) := ((Below.refl _ _).alloc (Nat.le_refl _) _).alloc (by simp) _
  go_enter Tryz.func30, Tryz.ntmps30
  go_upto_region 1 with fail
  generalize World.alloc (World.alloc w _) _ = W0 at hP0 hR0 hb0 ⊢
  have p0 := hP0.cell 0
  have p1 := hP0.cell 1
  have p2 := hP0.cell 2
  have hcall := countR_any rule Hrr.out c k A n cp l seats At nt ct lot W0 (h.below hb0) (h'.below hb0) hn
  go_wp2_with fail
  refine hcall.mono ?_
  rintro e w1 ⟨Ae, ne, ce, Ar, nr, cr, Av, nv, cv, rfl, hO, hb1⟩
  have hb01 := Below_trans' hb0 hb0.size hb1
  have hR1 := hR0.below hb1 hR0.lt
  have r0 := hR1.cell 0
  have r1 := hR1.cell 1
  have r2 := hR1.cell 2
  have f0 := hR1.free 0
  have f1 := hR1.free 1
  have f2 := hR1.free 2
  clear hcall p0 p1 p2
  go_wp2
  exact retOut2 rfl rfl rfl (put3 hR1) rfl rfl ⟨Ae, ne, ce, Ar, nr, cr, Av, nv, cv, rfl, hO.far hR1 (fun b hb hne => (frame3 w1 (w.heap.size + 1) (.slice Ae ne ce) (.slice Ar nr cr) (.slice Av nv cv)).block b hb hne), below3 hb01 (by omega) _ _ _⟩
end Go.Proofs.YtiebfalodelclaaGreat
