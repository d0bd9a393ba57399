/-
  The reference of chapter 20: Count.
-/
import Derived.Test.YtiebfalodelclaaGreatW20s
import Derived.Test.YtiebfalodelclaaGreatW20d
namespace Go.Proofs.YtiebfalodelclaaGreat
open Go.RowKit Go.Proofs Go.Shelf
attribute [local go_sem] cell?_more cell?_alloc_some cell?_setCell_far frozen?_alloc_some frozen?_more
set_option maxRecDepth 100000 in
set_option maxHeartbeats 2000000 in
theorem rcount_two (c k : Int) (A : Option Addr) (n cp : Nat) (l : List Row) (seats : Int) (At : Option Addr) (nt ct : Nat) (lot : List Int) (w : World) (h : RRows w A n cp l) (h' : RInts w At nt ct lot) :
    Calls Tryz.prog 10 #[.int .i64 2, .agg #[.int .i64 c, .int .u8 k, .slice A n cp], .int .i64 seats, .slice At nt ct] w (OutPost w (listR 2 c k l seats lot) (mayS c k l 2 seats 10 lot)) := by
  have hP0 : Has ((w.alloc (.cells #[.int .i64 c, .int .u8 k, .slice A n cp] 24)).alloc (.cells #[.slice none 0 0, .slice none 0 0, .slice none 0 0] 32)) w.heap.size 24 #[.int .i64 c, .int .u8 k, .slice A n cp] := (Has.new _ _ _).alloc _
  have hR0 : Has ((w.alloc (.cells #[.int .i64 c, .int .u8 k, .slice A n cp] 24)).alloc (.cells #[.slice none 0 0, .slice none 0 0, .slice none 0 0] 32)) (w.heap.size + 1) 32 #[.slice none 0 0, .slice none 0 0, .slice none 0 0] := Has.new2 _ _ _ _
  have hb0 : Below w.heap.size w ((w.alloc (.cells #[.int .i64 c, .int .u8 k, .slice A n cp] 24)).alloc (.cells #[.slice none 0 0, .slice none 0 0, .slice none 0 0] 32)) := ((Below.refl _ _).alloc (Nat.le_refl _) _).alloc (by simp) _
  go_enter Tryz.func10, Tryz.ntmps10
  go_upto_region 1 with fail
  generalize World.alloc (World.alloc w _) _ = W0 at hP0 hR0 hb0 ⊢
  have p0 := hP0.cell 0
  have p1 := hP0.cell 1
  have p2 := hP0.cell 2
  go_wp2_with fail
  refine (may_any c k A n cp l 2 seats 10 At nt ct lot W0 (h.below hb0) (h'.below hb0)).mono ?_
  rintro e w1 ⟨rfl, hb1⟩
  have hb01 := Below_trans' hb0 hb0.size hb1
  have hP1 := hP0.below hb1 hP0.lt
  have hR1 := hR0.below hb1 hR0.lt
  have hR1lt : w.heap.size + 1 < w1.heap.size := hR1.lt
  clear p0 p1 p2 hP0 hR0
  by_cases hE : mayS c k l 2 seats 10 lot = 0
  · have e1 : (mayS c k l 2 seats 10 lot != 0) = false := by simp [hE]
    obtain ⟨hc0, hk0, hs1, hs2, hs3, hlot⟩ := may_zero hE
    subst hk0
    have hmk := markOK_of hc0
    have hc1 := (check_iff.1 hc0).2.1
    obtain ⟨C, rfl⟩ : ∃ C : Nat, c = (C : Int) := ⟨c.toNat, by omega⟩
    obtain ⟨S, rfl⟩ : ∃ S : Nat, seats = (S : Int) := ⟨seats.toNat, by omega⟩
    rw [Int.toNat_natCast] at hmk
    have hro := hide (show listR 2 C 2 l S lot = listO 2 l C lot S by rw [listR_ok hE, Int.toNat_natCast, Int.toNat_natCast])
    have hE0 := hide hE
    have Hmk := hide hmk
    have hC10 := hmk.c10
    have hC1 := hmk.c1
    have hvb := votV_bd hmk
    have Hla := hide (LotAll.of hlot)
    clear hE hc0 hlot hmk hc1
    have p0 := hP1.cell 0
    have p1 := hP1.cell 1
    have p2 := hP1.cell 2
    go_wp2_with fail
    refine (rvotes20_any C 2 A n cp l w1 (h.below hb01) Hmk.out).mono ?_
    rintro e w3 ⟨gv, rfl, hV3, hb3⟩
    clear p0 p1 p2
    have hb03 := Below_trans' hb01 hb01.size hb3
    have hVI := hV3.ints (fun y hy => by have := hvb.1 y hy; omega)
    go_wp2_with fail
    refine (rremainders_any At nt ct lot (some ⟨gv, 0, none⟩) C C (votV l C) S w3 (h'.below hb03) hVI hC1 hC10 (by omega) Hla.out (hadOK_vot C Hmk.out.pos) hvb.2.2.1).mono ?_
    rintro e w4 ⟨vo, vt, fp, rfl, hO, hT, hfp, hb4⟩
    have hb13 := Below_trans' hb3 hb3.size hb4
    have hb04 := Below_trans' hb03 hb03.size hb4
    have hV4 := hV3.below hb4
    have hR4 := hR1.below hb13 hR1.lt
    have hsn := seatS_len (had := votV l C) hC1 Hla.out (hadOK_vot C Hmk.out.pos) 2 S
    have hlo := hide (show listO 2 l C lot S = ((seatS 2 (votV l C) C lot S).1, [rndS (votV l C) (losV l) (seatS 2 (votV l C) C lot S).1 []], (seatS 2 (votV l C) C lot S).2) from rfl)
    have hsr := seatS_rng (had := votV l C) hC1 Hla.out 2 S
    have hz3 := hb3.size
    rw [show remS (votV l C) C lot S = seatS 2 (votV l C) C lot S from rfl] at hO hT
    -- hO, hT of the seats s at the world w4, above the base w3 (hB0 : w1.heap.size ≤ base)
    generalize hseat : seatS 2 (votV l C) C lot S = s at hO hT hsn hlo hsr
    clear hseat
    obtain ⟨el, ts⟩ := s
    dsimp only at hO hT hsn hlo hsr
    obtain ⟨Ao, co, rfl⟩ := hO.slice
    obtain ⟨Av, cv, rfl⟩ := hT.slice
    rw [hsn] at hO ⊢
    obtain ⟨nt', hnt'⟩ : ∃ nt', nt' = ts.length := ⟨_, rfl⟩
    rw [← hnt'] at hT ⊢
    have Hsn := hide hsn
    clear hsn hnt'
    have hw1x : w1.heap.size ≤ w4.heap.size := hb13.size
    obtain ⟨wx, rfl⟩ : ∃ wx : World, wx = w4 := ⟨_, rfl⟩
    have hV := hV4
    have hbwx := hb04
    have hRx := hR4
    have hB0 : w1.heap.size ≤ w3.heap.size := hz3
    -- the seats stand in (Ao, S, co), the ties in (Av, nt', cv), at the world wx; ra: Below wx' .. wx
    have hVI5 := hV.ints (fun y hy => by have := hvb.1 y hy; omega)
    have hOI5 := hO.ints (fun y hy => by have := hsr y hy; omega)
    have hTI5 := hT.reads
    go_wp2_with fail
    refine (rwholes_any (some ⟨gv, 0, none⟩) C C (votV l C) wx hVI5 (by omega) (fun y hy => by have := hvb.1 y hy; omega)).mono ?_
    rintro e w6 ⟨v6, fp6, rfl, hO6, hf6, hb6⟩
    obtain ⟨A6, c6, rfl⟩ := hO6.slice
    rw [List.length_map, length_votV] at hO6 ⊢
    go_wp2_with fail
    refine (rwhole_any (losV l) w6 (by omega) (by omega)).mono ?_
    rintro e w7 ⟨An, nn, cn, Ad, nd, cd, rfl, hn7, hd7, hb7, hf7⟩
    have hb57 := Below_trans' hb6 hb6.size hb7
    have hN9 := Has.new w7 47 #[.slice A6 C c6, .bool false, .slice An nn cn, .slice Ad nd cd, .slice Ao S co, .slice none 0 0]
    have hb9 : Below w7.heap.size w7 (w7.alloc (.cells #[.slice A6 C c6, .bool false, .slice An nn cn, .slice Ad nd cd, .slice Ao S co, .slice none 0 0] 47)) := below_allocN
    have hb59 := Below_trans' hb57 hb57.size hb9
    have hR9 := (hRx.below hb59 hRx.lt)
    have r0 := hR9.cell 0
    have r1 := hR9.cell 1
    have r2 := hR9.cell 2
    have f0 := hR9.free 0
    have f1 := hR9.free 1
    have f2 := hR9.free 2
    have hbw9 := Below_trans' hbwx hbwx.size hb59
    have hz9 := hN9.lt
    have hzx := hbwx.size
    have hz57 := hb57.size
    have hrx := hRx.lt
    go_wp2
    generalize World.alloc w7 _ = w9 at hN9 hb9 hb59 hR9 hbw9 r0 r1 r2 f0 f1 f2 hz9 ⊢
    refine retOut2 rfl rfl rfl (put3 hR9) rfl rfl ⟨Ao, S, co, _, 1, 1, Av, nt', cv, by rw [hE0.out]; rfl, ?_, below3 hbw9 (by omega) _ _ _⟩
    have F := frame3 w9 (w.heap.size + 1) (.slice Ao S co) (.slice (some ⟨w7.heap.size, 0, none⟩) 1 1) (.slice Av nt' cv)
    rw [hro.out, hlo.out]
    have hgR : ∀ b, w1.heap.size ≤ b → b ≠ w.heap.size + 1 := fun b h e => by have := hR1lt; omega
    have k5 := (Frame'.of_below (S := fun b => b = w.heap.size + 1) hb59).trans F
    have k6 := (Frame'.of_below (S := fun b => b = w.heap.size + 1) (Below_trans' hb7 hb7.size hb9)).trans F
    have k7 := (Frame'.of_below (S := fun b => b = w.heap.size + 1) hb9).trans F
    have hR1x : w1.heap.size ≤ wx.heap.size := hw1x
    have hz6 := hb6.size
    have hel : RInts _ Ao S co el := (hO.frame k5 (fun b hb e => by have := (hO.own_lt hb).1; have := hB0; have := hR1lt; omega)).ints (fun y hy => by have := hsr y hy; omega)
    refine ⟨hel, ragg1 (F.has hN9 (by omega)) rfl ?_, ?_⟩
    · refine ⟨A6, C, c6, _, _, _, _, S, co, none, 0, 0, rfl, ?_, ⟨An, nn, cn, Ad, nd, cd, rfl, ?_, ?_⟩, hel, RInts.nil_ _⟩
      · exact (hO6.frame k6 (fun b hb e => by have h1 := hf6 b hb; have := hR1lt; omega) (fun b hb e => by have h1 := (hO6.lt hb).1; have := hR1lt; omega)).reads
      · exact hn7.frame k7 (fun b hb e => by have := hf7 b (.inl hb); have := hR1lt; omega)
      · exact hd7.frame k7 (fun b hb e => by have := hf7 b (.inr hb); have := hR1lt; omega)
    · exact (hT.frame k5 (fun b hb e => by have := hfp b hb; have := hB0; have := hR1lt; omega) (fun b hb e => by have := (hT.lt hb).1; have := hB0; have := hR1lt; omega)).reads
  · have e1 : (mayS c k l 2 seats 10 lot != 0) = true := by simp [hE]
    have hro := hide (listR_bad (rule := 2) hE)
    have q0 := hR1.cell 0
    have q1 := hR1.cell 1
    have q2 := hR1.cell 2
    have f0 := hR1.free 0
    have f1 := hR1.free 1
    have f2 := hR1.free 2
    go_wp2
    refine retOut2 rfl rfl rfl (put3 hR1) rfl rfl ⟨none, 0, 0, none, 0, 0, none, 0, 0, rfl, ?_, below3 hb01 (by omega) _ _ _⟩
    rw [hro.out]
    exact ROut.nil_ _
set_option maxRecDepth 100000 in
set_option maxHeartbeats 2000000 in
theorem rcount_zero (c k : Int) (A : Option Addr) (n cp : Nat) (l : List Row) (seats : Int) (At : Option Addr) (nt ct : Nat) (lot : List Int) (w : World) (h : RRows w A n cp l) (h' : RInts w At nt ct lot) :
    Calls Tryz.prog 10 #[.int .i64 0, .agg #[.int .i64 c, .int .u8 k, .slice A n cp], .int .i64 seats, .slice At nt ct] w (OutPost w (listR 0 c k l seats lot) (mayS c k l 2 seats 10 lot)) := by
  have hP0 : Has ((w.alloc (.cells #[.int .i64 c, .int .u8 k, .slice A n cp] 24)).alloc (.cells #[.slice none 0 0, .slice none 0 0, .slice none 0 0] 32)) w.heap.size 24 #[.int .i64 c, .int .u8 k, .slice A n cp] := (Has.new _ _ _).alloc _
  have hR0 : Has ((w.alloc (.cells #[.int .i64 c, .int .u8 k, .slice A n cp] 24)).alloc (.cells #[.slice none 0 0, .slice none 0 0, .slice none 0 0] 32)) (w.heap.size + 1) 32 #[.slice none 0 0, .slice none 0 0, .slice none 0 0] := Has.new2 _ _ _ _
  have hb0 : Below w.heap.size w ((w.alloc (.cells #[.int .i64 c, .int .u8 k, .slice A n cp] 24)).alloc (.cells #[.slice none 0 0, .slice none 0 0, .slice none 0 0] 32)) := ((Below.refl _ _).alloc (Nat.le_refl _) _).alloc (by simp) _
  go_enter Tryz.func10, Tryz.ntmps10
  go_upto_region 1 with fail
  generalize World.alloc (World.alloc w _) _ = W0 at hP0 hR0 hb0 ⊢
  have p0 := hP0.cell 0
  have p1 := hP0.cell 1
  have p2 := hP0.cell 2
  go_wp2_with fail
  refine (may_any c k A n cp l 2 seats 10 At nt ct lot W0 (h.below hb0) (h'.below hb0)).mono ?_
  rintro e w1 ⟨rfl, hb1⟩
  have hb01 := Below_trans' hb0 hb0.size hb1
  have hP1 := hP0.below hb1 hP0.lt
  have hR1 := hR0.below hb1 hR0.lt
  have hR1lt : w.heap.size + 1 < w1.heap.size := hR1.lt
  clear p0 p1 p2 hP0 hR0
  by_cases hE : mayS c k l 2 seats 10 lot = 0
  · have e1 : (mayS c k l 2 seats 10 lot != 0) = false := by simp [hE]
    obtain ⟨hc0, hk0, hs1, hs2, hs3, hlot⟩ := may_zero hE
    subst hk0
    have hmk := markOK_of hc0
    have hc1 := (check_iff.1 hc0).2.1
    obtain ⟨C, rfl⟩ : ∃ C : Nat, c = (C : Int) := ⟨c.toNat, by omega⟩
    obtain ⟨S, rfl⟩ : ∃ S : Nat, seats = (S : Int) := ⟨seats.toNat, by omega⟩
    rw [Int.toNat_natCast] at hmk
    have hro := hide (show listR 0 C 2 l S lot = listO 0 l C lot S by rw [listR_ok hE, Int.toNat_natCast, Int.toNat_natCast])
    have hE0 := hide hE
    have Hmk := hide hmk
    have hC10 := hmk.c10
    have hC1 := hmk.c1
    have hvb := votV_bd hmk
    have Hla := hide (LotAll.of hlot)
    clear hE hc0 hlot hmk hc1
    have p0 := hP1.cell 0
    have p1 := hP1.cell 1
    have p2 := hP1.cell 2
    go_wp2_with fail
    refine (rvotes20_any C 2 A n cp l w1 (h.below hb01) Hmk.out).mono ?_
    rintro e w3 ⟨gv, rfl, hV3, hb3⟩
    clear p0 p1 p2
    have hb03 := Below_trans' hb01 hb01.size hb3
    have hVI := hV3.ints (fun y hy => by have := hvb.1 y hy; omega)
    go_wp2_with fail
    refine (rremainders_any At nt ct lot (some ⟨gv, 0, none⟩) C C (votV l C) S w3 (h'.below hb03) hVI hC1 hC10 (by omega) Hla.out (hadOK_vot C Hmk.out.pos) hvb.2.2.1).mono ?_
    rintro e w4 ⟨vo, vt, fp, rfl, hO, hT, hfp, hb4⟩
    have hb13 := Below_trans' hb3 hb3.size hb4
    have hb04 := Below_trans' hb03 hb03.size hb4
    have hV4 := hV3.below hb4
    have hR4 := hR1.below hb13 hR1.lt
    have hsn := seatS_len (had := votV l C) hC1 Hla.out (hadOK_vot C Hmk.out.pos) 0 S
    have hlo := hide (show listO 0 l C lot S = ((seatS 0 (votV l C) C lot S).1, [rndS (votV l C) (losV l) (seatS 0 (votV l C) C lot S).1 []], (seatS 0 (votV l C) C lot S).2) from rfl)
    have hsr := seatS_rng (had := votV l C) hC1 Hla.out 0 S
    have hz3 := hb3.size
    clear hO hT hfp
    have hVI4 := hVI.below hb4
    have hz4 := hb4.size
    go_wp2_with fail
    refine (rdivisors_any 0 (by omega) At nt ct lot (some ⟨gv, 0, none⟩) C C (votV l C) S w4 (h'.below hb04) hVI4 hC1 hC10 (by omega) Hla.out hvb.2.1).mono ?_
    rintro e wx ⟨vo2, vt2, fp2, rfl, hO, hT, hfp, hbx⟩
    rw [show divS (votV l C) 0 C lot S = seatS 0 (votV l C) C lot S from rfl] at hO hT
    -- hO, hT of the seats s at the world wx, above the base w4 (hB0 : w1.heap.size ≤ base)
    generalize hseat : seatS 0 (votV l C) C lot S = s at hO hT hsn hlo hsr
    clear hseat
    obtain ⟨el, ts⟩ := s
    dsimp only at hO hT hsn hlo hsr
    obtain ⟨Ao, co, rfl⟩ := hO.slice
    obtain ⟨Av, cv, rfl⟩ := hT.slice
    rw [hsn] at hO ⊢
    obtain ⟨nt', hnt'⟩ : ∃ nt', nt' = ts.length := ⟨_, rfl⟩
    rw [← hnt'] at hT ⊢
    have Hsn := hide hsn
    clear hsn hnt'
    have hw1x : w1.heap.size ≤ wx.heap.size := Nat.le_trans hb13.size hbx.size
    have hV := hV4.below hbx
    have hbwx := Below_trans' hb04 hb04.size hbx
    have hRx := hR4.below hbx hR4.lt
    have hB0 : w1.heap.size ≤ w4.heap.size := hb13.size
    -- the seats stand in (Ao, S, co), the ties in (Av, nt', cv), at the world wx; ra: Below wx' .. wx
    have hVI5 := hV.ints (fun y hy => by have := hvb.1 y hy; omega)
    have hOI5 := hO.ints (fun y hy => by have := hsr y hy; omega)
    have hTI5 := hT.reads
    go_wp2_with fail
    refine (rwholes_any (some ⟨gv, 0, none⟩) C C (votV l C) wx hVI5 (by omega) (fun y hy => by have := hvb.1 y hy; omega)).mono ?_
    rintro e w6 ⟨v6, fp6, rfl, hO6, hf6, hb6⟩
    obtain ⟨A6, c6, rfl⟩ := hO6.slice
    rw [List.length_map, length_votV] at hO6 ⊢
    go_wp2_with fail
    refine (rwhole_any (losV l) w6 (by omega) (by omega)).mono ?_
    rintro e w7 ⟨An, nn, cn, Ad, nd, cd, rfl, hn7, hd7, hb7, hf7⟩
    have hb57 := Below_trans' hb6 hb6.size hb7
    have hN9 := Has.new w7 47 #[.slice A6 C c6, .bool false, .slice An nn cn, .slice Ad nd cd, .slice Ao S co, .slice none 0 0]
    have hb9 : Below w7.heap.size w7 (w7.alloc (.cells #[.slice A6 C c6, .bool false, .slice An nn cn, .slice Ad nd cd, .slice Ao S co, .slice none 0 0] 47)) := below_allocN
    have hb59 := Below_trans' hb57 hb57.size hb9
    have hR9 := (hRx.below hb59 hRx.lt)
    have r0 := hR9.cell 0
    have r1 := hR9.cell 1
    have r2 := hR9.cell 2
    have f0 := hR9.free 0
    have f1 := hR9.free 1
    have f2 := hR9.free 2
    have hbw9 := Below_trans' hbwx hbwx.size hb59
    have hz9 := hN9.lt
    have hzx := hbwx.size
    have hz57 := hb57.size
    have hrx := hRx.lt
    go_wp2
    generalize World.alloc w7 _ = w9 at hN9 hb9 hb59 hR9 hbw9 r0 r1 r2 f0 f1 f2 hz9 ⊢
    refine retOut2 rfl rfl rfl (put3 hR9) rfl rfl ⟨Ao, S, co, _, 1, 1, Av, nt', cv, by rw [hE0.out]; rfl, ?_, below3 hbw9 (by omega) _ _ _⟩
    have F := frame3 w9 (w.heap.size + 1) (.slice Ao S co) (.slice (some ⟨w7.heap.size, 0, none⟩) 1 1) (.slice Av nt' cv)
    rw [hro.out, hlo.out]
    have hgR : ∀ b, w1.heap.size ≤ b → b ≠ w.heap.size + 1 := fun b h e => by have := hR1lt; omega
    have k5 := (Frame'.of_below (S := fun b => b = w.heap.size + 1) hb59).trans F
    have k6 := (Frame'.of_below (S := fun b => b = w.heap.size + 1) (Below_trans' hb7 hb7.size hb9)).trans F
    have k7 := (Frame'.of_below (S := fun b => b = w.heap.size + 1) hb9).trans F
    have hR1x : w1.heap.size ≤ wx.heap.size := hw1x
    have hz6 := hb6.size
    have hel : RInts _ Ao S co el := (hO.frame k5 (fun b hb e => by have := (hO.own_lt hb).1; have := hB0; have := hR1lt; omega)).ints (fun y hy => by have := hsr y hy; omega)
    refine ⟨hel, ragg1 (F.has hN9 (by omega)) rfl ?_, ?_⟩
    · refine ⟨A6, C, c6, _, _, _, _, S, co, none, 0, 0, rfl, ?_, ⟨An, nn, cn, Ad, nd, cd, rfl, ?_, ?_⟩, hel, RInts.nil_ _⟩
      · exact (hO6.frame k6 (fun b hb e => by have h1 := hf6 b hb; have := hR1lt; omega) (fun b hb e => by have h1 := (hO6.lt hb).1; have := hR1lt; omega)).reads
      · exact hn7.frame k7 (fun b hb e => by have := hf7 b (.inl hb); have := hR1lt; omega)
      · exact hd7.frame k7 (fun b hb e => by have := hf7 b (.inr hb); have := hR1lt; omega)
    · exact (hT.frame k5 (fun b hb e => by have := hfp b hb; have := hB0; have := hR1lt; omega) (fun b hb e => by have := (hT.lt hb).1; have := hB0; have := hR1lt; omega)).reads
  · have e1 : (mayS c k l 2 seats 10 lot != 0) = true := by simp [hE]
    have hro := hide (listR_bad (rule := 0) hE)
    have q0 := hR1.cell 0
    have q1 := hR1.cell 1
    have q2 := hR1.cell 2
    have f0 := hR1.free 0
    have f1 := hR1.free 1
    have f2 := hR1.free 2
    go_wp2
    refine retOut2 rfl rfl rfl (put3 hR1) rfl rfl ⟨none, 0, 0, none, 0, 0, none, 0, 0, rfl, ?_, below3 hb01 (by omega) _ _ _⟩
    rw [hro.out]
    exact ROut.nil_ _
set_option maxRecDepth 100000 in
set_option maxHeartbeats 2000000 in
theorem rcount_one (c k : Int) (A : Option Addr) (n cp : Nat) (l : List Row) (seats : Int) (At : Option Addr) (nt ct : Nat) (lot : List Int) (w : World) (h : RRows w A n cp l) (h' : RInts w At nt ct lot) :
    Calls Tryz.prog 10 #[.int .i64 1, .agg #[.int .i64 c, .int .u8 k, .slice A n cp], .int .i64 seats, .slice At nt ct] w (OutPost w (listR 1 c k l seats lot) (mayS c k l 2 seats 10 lot)) := by
  have hP0 : Has ((w.alloc (.cells #[.int .i64 c, .int .u8 k, .slice A n cp] 24)).alloc (.cells #[.slice none 0 0, .slice none 0 0, .slice none 0 0] 32)) w.heap.size 24 #[.int .i64 c, .int .u8 k, .slice A n cp] := (Has.new _ _ _).alloc _
  have hR0 : Has ((w.alloc (.cells #[.int .i64 c, .int .u8 k, .slice A n cp] 24)).alloc (.cells #[.slice none 0 0, .slice none 0 0, .slice none 0 0] 32)) (w.heap.size + 1) 32 #[.slice none 0 0, .slice none 0 0, .slice none 0 0] := Has.new2 _ _ _ _
  have hb0 : Below w.heap.size w ((w.alloc (.cells #[.int .i64 c, .int .u8 k, .slice A n cp] 24)).alloc (.cells #[.slice none 0 0, .slice none 0 0, .slice none 0 0] 32)) := ((Below.refl _ _).alloc (Nat.le_refl _) _).alloc (by simp) _
  go_enter Tryz.func10, Tryz.ntmps10
  go_upto_region 1 with fail
  generalize World.alloc (World.alloc w _) _ = W0 at hP0 hR0 hb0 ⊢
  have p0 := hP0.cell 0
  have p1 := hP0.cell 1
  have p2 := hP0.cell 2
  go_wp2_with fail
  refine (may_any c k A n cp l 2 seats 10 At nt ct lot W0 (h.below hb0) (h'.below hb0)).mono ?_
  rintro e w1 ⟨rfl, hb1⟩
  have hb01 := Below_trans' hb0 hb0.size hb1
  have hP1 := hP0.below hb1 hP0.lt
  have hR1 := hR0.below hb1 hR0.lt
  have hR1lt : w.heap.size + 1 < w1.heap.size := hR1.lt
  clear p0 p1 p2 hP0 hR0
  by_cases hE : mayS c k l 2 seats 10 lot = 0
  · have e1 : (mayS c k l 2 seats 10 lot != 0) = false := by simp [hE]
    obtain ⟨hc0, hk0, hs1, hs2, hs3, hlot⟩ := may_zero hE
    subst hk0
    have hmk := markOK_of hc0
    have hc1 := (check_iff.1 hc0).2.1
    obtain ⟨C, rfl⟩ : ∃ C : Nat, c = (C : Int) := ⟨c.toNat, by omega⟩
    obtain ⟨S, rfl⟩ : ∃ S : Nat, seats = (S : Int) := ⟨seats.toNat, by omega⟩
    rw [Int.toNat_natCast] at hmk
    have hro := hide (show listR 1 C 2 l S lot = listO 1 l C lot S by rw [listR_ok hE, Int.toNat_natCast, Int.toNat_natCast])
    have hE0 := hide hE
    have Hmk := hide hmk
    have hC10 := hmk.c10
    have hC1 := hmk.c1
    have hvb := votV_bd hmk
    have Hla := hide (LotAll.of hlot)
    clear hE hc0 hlot hmk hc1
    have p0 := hP1.cell 0
    have p1 := hP1.cell 1
    have p2 := hP1.cell 2
    go_wp2_with fail
    refine (rvotes20_any C 2 A n cp l w1 (h.below hb01) Hmk.out).mono ?_
    rintro e w3 ⟨gv, rfl, hV3, hb3⟩
    clear p0 p1 p2
    have hb03 := Below_trans' hb01 hb01.size hb3
    have hVI := hV3.ints (fun y hy => by have := hvb.1 y hy; omega)
    go_wp2_with fail
    refine (rremainders_any At nt ct lot (some ⟨gv, 0, none⟩) C C (votV l C) S w3 (h'.below hb03) hVI hC1 hC10 (by omega) Hla.out (hadOK_vot C Hmk.out.pos) hvb.2.2.1).mono ?_
    rintro e w4 ⟨vo, vt, fp, rfl, hO, hT, hfp, hb4⟩
    have hb13 := Below_trans' hb3 hb3.size hb4
    have hb04 := Below_trans' hb03 hb03.size hb4
    have hV4 := hV3.below hb4
    have hR4 := hR1.below hb13 hR1.lt
    have hsn := seatS_len (had := votV l C) hC1 Hla.out (hadOK_vot C Hmk.out.pos) 1 S
    have hlo := hide (show listO 1 l C lot S = ((seatS 1 (votV l C) C lot S).1, [rndS (votV l C) (losV l) (seatS 1 (votV l C) C lot S).1 []], (seatS 1 (votV l C) C lot S).2) from rfl)
    have hsr := seatS_rng (had := votV l C) hC1 Hla.out 1 S
    have hz3 := hb3.size
    clear hO hT hfp
    have hVI4 := hVI.below hb4
    have hz4 := hb4.size
    go_wp2_with fail
    refine (rdivisors_any 1 (by omega) At nt ct lot (some ⟨gv, 0, none⟩) C C (votV l C) S w4 (h'.below hb04) hVI4 hC1 hC10 (by omega) Hla.out hvb.2.1).mono ?_
    rintro e wx ⟨vo2, vt2, fp2, rfl, hO, hT, hfp, hbx⟩
    rw [show divS (votV l C) 1 C lot S = seatS 1 (votV l C) C lot S from rfl] at hO hT
    -- hO, hT of the seats s at the world wx, above the base w4 (hB0 : w1.heap.size ≤ base)
    generalize hseat : seatS 1 (votV l C) C lot S = s at hO hT hsn hlo hsr
    clear hseat
    obtain ⟨el, ts⟩ := s
    dsimp only at hO hT hsn hlo hsr
    obtain ⟨Ao, co, rfl⟩ := hO.slice
    obtain ⟨Av, cv, rfl⟩ := hT.slice
    rw [hsn] at hO ⊢
    obtain ⟨nt', hnt'⟩ : ∃ nt', nt' = ts.length := ⟨_, rfl⟩
    rw [← hnt'] at hT ⊢
    have Hsn := hide hsn
    clear hsn hnt'
    have hw1x : w1.heap.size ≤ wx.heap.size := Nat.le_trans hb13.size hbx.size
    have hV := hV4.below hbx
    have hbwx := Below_trans' hb04 hb04.size hbx
    have hRx := hR4.below hbx hR4.lt
    have hB0 : w1.heap.size ≤ w4.heap.size := hb13.size
    -- the seats stand in (Ao, S, co), the ties in (Av, nt', cv), at the world wx; ra: Below wx' .. wx
    have hVI5 := hV.ints (fun y hy => by have := hvb.1 y hy; omega)
    have hOI5 := hO.ints (fun y hy => by have := hsr y hy; omega)
    have hTI5 := hT.reads
    go_wp2_with fail
    refine (rwholes_any (some ⟨gv, 0, none⟩) C C (votV l C) wx hVI5 (by omega) (fun y hy => by have := hvb.1 y hy; omega)).mono ?_
    rintro e w6 ⟨v6, fp6, rfl, hO6, hf6, hb6⟩
    obtain ⟨A6, c6, rfl⟩ := hO6.slice
    rw [List.length_map, length_votV] at hO6 ⊢
    go_wp2_with fail
    refine (rwhole_any (losV l) w6 (by omega) (by omega)).mono ?_
    rintro e w7 ⟨An, nn, cn, Ad, nd, cd, rfl, hn7, hd7, hb7, hf7⟩
    have hb57 := Below_trans' hb6 hb6.size hb7
    have hN9 := Has.new w7 47 #[.slice A6 C c6, .bool false, .slice An nn cn, .slice Ad nd cd, .slice Ao S co, .slice none 0 0]
    have hb9 : Below w7.heap.size w7 (w7.alloc (.cells #[.slice A6 C c6, .bool false, .slice An nn cn, .slice Ad nd cd, .slice Ao S co, .slice none 0 0] 47)) := below_allocN
    have hb59 := Below_trans' hb57 hb57.size hb9
    have hR9 := (hRx.below hb59 hRx.lt)
    have r0 := hR9.cell 0
    have r1 := hR9.cell 1
    have r2 := hR9.cell 2
    have f0 := hR9.free 0
    have f1 := hR9.free 1
    have f2 := hR9.free 2
    have hbw9 := Below_trans' hbwx hbwx.size hb59
    have hz9 := hN9.lt
    have hzx := hbwx.size
    have hz57 := hb57.size
    have hrx := hRx.lt
    go_wp2
    generalize World.alloc w7 _ = w9 at hN9 hb9 hb59 hR9 hbw9 r0 r1 r2 f0 f1 f2 hz9 ⊢
    refine retOut2 rfl rfl rfl (put3 hR9) rfl rfl ⟨Ao, S, co, _, 1, 1, Av, nt', cv, by rw [hE0.out]; rfl, ?_, below3 hbw9 (by omega) _ _ _⟩
    have F := frame3 w9 (w.heap.size + 1) (.slice Ao S co) (.slice (some ⟨w7.heap.size, 0, none⟩) 1 1) (.slice Av nt' cv)
    rw [hro.out, hlo.out]
    have hgR : ∀ b, w1.heap.size ≤ b → b ≠ w.heap.size + 1 := fun b h e => by have := hR1lt; omega
    have k5 := (Frame'.of_below (S := fun b => b = w.heap.size + 1) hb59).trans F
    have k6 := (Frame'.of_below (S := fun b => b = w.heap.size + 1) (Below_trans' hb7 hb7.size hb9)).trans F
    have k7 := (Frame'.of_below (S := fun b => b = w.heap.size + 1) hb9).trans F
    have hR1x : w1.heap.size ≤ wx.heap.size := hw1x
    have hz6 := hb6.size
    have hel : RInts _ Ao S co el := (hO.frame k5 (fun b hb e => by have := (hO.own_lt hb).1; have := hB0; have := hR1lt; omega)).ints (fun y hy => by have := hsr y hy; omega)
    refine ⟨hel, ragg1 (F.has hN9 (by omega)) rfl ?_, ?_⟩
    · refine ⟨A6, C, c6, _, _, _, _, S, co, none, 0, 0, rfl, ?_, ⟨An, nn, cn, Ad, nd, cd, rfl, ?_, ?_⟩, hel, RInts.nil_ _⟩
      · exact (hO6.frame k6 (fun b hb e => by have h1 := hf6 b hb; have := hR1lt; omega) (fun b hb e => by have h1 := (hO6.lt hb).1; have := hR1lt; omega)).reads
      · exact hn7.frame k7 (fun b hb e => by have := hf7 b (.inl hb); have := hR1lt; omega)
      · exact hd7.frame k7 (fun b hb e => by have := hf7 b (.inr hb); have := hR1lt; omega)
    · exact (hT.frame k5 (fun b hb e => by have := hfp b hb; have := hB0; have := hR1lt; omega) (fun b hb e => by have := (hT.lt hb).1; have := hB0; have := hR1lt; omega)).reads
  · have e1 : (mayS c k l 2 seats 10 lot != 0) = true := by simp [hE]
    have hro := hide (listR_bad (rule := 1) hE)
    have q0 := hR1.cell 0
    have q1 := hR1.cell 1
    have q2 := hR1.cell 2
    have f0 := hR1.free 0
    have f1 := hR1.free 1
    have f2 := hR1.free 2
    go_wp2
    refine retOut2 rfl rfl rfl (put3 hR1) rfl rfl ⟨none, 0, 0, none, 0, 0, none, 0, 0, rfl, ?_, below3 hb01 (by omega) _ _ _⟩
    rw [hro.out]
    exact ROut.nil_ _
theorem rcount20_any (r : Nat) (hr : r ≤ 2) (c k : Int) (A : Option Addr) (n cp : Nat) (l : List Row) (seats : Int) (At : Option Addr) (nt ct : Nat) (lot : List Int) (w : World) (h : RRows w A n cp l) (h' : RInts w At nt ct lot) :
    Calls Tryz.prog 10 #[.int .i64 r, .agg #[.int .i64 c, .int .u8 k, .slice A n cp], .int .i64 seats, .slice At nt ct] w (OutPost w (listR r c k l seats lot) (mayS c k l 2 seats 10 lot)) := by
  obtain rfl | rfl | rfl : r = 0 ∨ r = 1 ∨ r = 2 := by omega
  · exact rcount_zero c k A n cp l seats At nt ct lot w h h'
  · exact rcount_one c k A n cp l seats At nt ct lot w h h'
  · exact rcount_two c k A n cp l seats At nt ct lot w h h'
end Go.Proofs.YtiebfalodelclaaGreat
