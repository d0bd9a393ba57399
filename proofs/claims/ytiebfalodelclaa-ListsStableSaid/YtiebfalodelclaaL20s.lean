/-
  The law ListsStable.
-/
import Derived.Test.YtiebfalodelclaaW20e
import Derived.Test.YtiebfalodelclaaW13b
namespace Go.Proofs.Ytiebfalodelclaa
open Go.RowKit Go.Proofs Go.Shelf
attribute [local go_sem] cell?_more cell?_alloc_some cell?_setCell_far frozen?_alloc_some frozen?_more
set_option maxRecDepth 100000 in
set_option maxHeartbeats 4000000 in
theorem stable_zero (c k : Int) (A : Option Addr) (n cp : Nat) (l : List Row) (nn : Int) (At : Option Addr) (nt ct : Nat) (lot : List Int) (w : World) (h : RRows w A n cp l) (h' : RInts w At nt ct lot) :
    Calls Try.prog 3 #[.bool false, .agg #[.int .i64 c, .int .u8 k, .slice A n cp], .int .i64 nn, .slice At nt ct] w fun e w' => e = .returned (.bool true) ∧ Below w.heap.size w w' := by
  have hb : Below w.heap.size w (w.alloc (.cells #[.int .i64 c, .int .u8 k, .slice A n cp] 24)) := below_allocN
  have hP := Has.new w 24 #[.int .i64 c, .int .u8 k, .slice A n cp]
  generalize hW : World.alloc w _ = W0 at hb hP
  have p0 := hP.cell 0
  have p1 := hP.cell 1
  have p2 := hP.cell 2
  go_enter Try.func3, Try.ntmps3
  go_wp2_with fail
  try simp only [hW]
  clear hW
  refine (valid20_any c k A n cp l nn At nt ct lot W0 (h.below hb) (h'.below hb)).mono ?_
  rintro e z0 ⟨rfl, hbz0⟩
  have hbw0 := Below_trans' hb hb.size hbz0
  replace hP := hP.below hbz0 hP.lt
  clear p0 p1 p2 hb hbz0
  by_cases hE : mayS c k l 2 nn 10 lot = 0
  · have e1 : (mayS c k l 2 nn 10 lot == 0) = true := by simp [hE]
    obtain ⟨hc0, hk0, hs1, hs2, hs3, hlot⟩ := may_zero hE
    subst hk0
    have hmk := markOK_of hc0
    have hc1 := (check_iff.1 hc0).2.1
    obtain ⟨C, rfl⟩ : ∃ C : Nat, c = (C : Int) := ⟨c.toNat, by omega⟩
    obtain ⟨S, rfl⟩ : ∃ S : Nat, nn = (S : Int) := ⟨nn.toNat, by omega⟩
    rw [Int.toNat_natCast] at hmk
    have Hmk := hide hmk
    have hC10 := hmk.c10
    have hC1 := hmk.c1
    have hnt : nt = C := by have h1 := lot_len hlot; have h2 := h'.len; omega
    subst hnt
    have hvb := votV_bd hmk
    have Hvb := hide hvb
    have Hla := hide (LotAll.of hlot)
    have Hlot := hide hlot
    have hrun : Hid (∀ r, listR r nt 2 l S lot = listO r l nt lot S) := fun r => by rw [listR_ok hE, Int.toNat_natCast, Int.toNat_natCast]
    have hmay := hide hE
    have Hc0 := hide hc0
    clear hE hc0 hmk hvb hc1 hlot
    -- the count count20_any 0 at the world z0, region 7 behind it; leaves w2, hO, hX (the outcome's box), hbw2, hb02
    have p0 := hP.cell 0
    have p1 := hP.cell 1
    have p2 := hP.cell 2
    go_wp2_with fail
    refine (count20_any 0 nt 2 A n cp l S At nt ct lot z0 (h.below hbw0) (h'.below hbw0) (by omega)).mono ?_
    rintro e w1 ⟨Ae, ne, ce, Ar, nr, cr, Av, nv, cv, rfl, hO, hb1⟩
    rw [hrun.out] at hO
    rw [hmay.out]
    clear p0 p1 p2
    go_upto_region 7 with fail
    have hb2 : Below w1.heap.size w1 (w1.alloc (.cells #[.slice Ae ne ce, .slice Ar nr cr, .slice Av nv cv] 31)) := below_allocN
    have hX := Has.new w1 31 #[.slice Ae ne ce, .slice Ar nr cr, .slice Av nv cv]
    generalize World.alloc w1 _ = w2 at hb2 hX ⊢
    replace hO := hO.below hb2
    have hb02 := Below_trans' hb1 hb1.size hb2
    have hbw2 := Below_trans' hbw0 hbw0.size hb02
    have hP2 := hP.below hb02 hP.lt
    clear hb1 hb2
    -- the seats of hO at the world w2; leaves hS (at w3), hb3
    have hel := hide (seatS_rng (had := votV l nt) hC1 Hla.out 0 S)
    have heln : (listO 0 l nt lot S).1.length = S := seatS_len (had := votV l nt) hC1 Hla.out (hadOK_vot nt Hmk.out.pos) 0 S
    have x0 := hX.cell 0
    have x1 := hX.cell 1
    have x2 := hX.cell 2
    have p0 := hP2.cell 0
    have hne : Hid (ne = S) := by unfold Hid; have h1 := hO.1.len; omega
    have Heln := hide heln
    clear heln
    go_wp2_with fail
    refine (seats20_any Ae ne ce Ar nr cr Av nv cv (listO 0 l nt lot S).1 nt w2 hO.1 hel.out (by omega) (by have := hne.out; omega)).mono ?_
    rintro e w3 ⟨vs, rfl, hS, hb3⟩
    clear x0 x1 x2 p0
    obtain ⟨As, cs, rfl⟩ := hS.slice
    rw [length_gotV] at hS ⊢
    have hst : Hid (StableD (votV l nt) 0 nt lot (listO 0 l nt lot S).1) := divS_stable hC1 Hla.out (fun x => (Hvb.out.2.1 x).1) S
    generalize (listO 0 l nt lot S).1 = el at hS hst hO hel Heln
    have hG := hS.ints (fun y hy => by
      obtain ⟨i, _, rfl⟩ := List.mem_map.1 hy
      have := List.count_le_length (a := (i : Int)) (l := el)
      have h2 : el.length = S := Heln.out
      omega)
    obtain ⟨bg, og, _, rfl, _⟩ := hG.step (show 0 < nt by omega)
    have hP3 := hP2.below hb3 hP2.lt
    have hbw3 := Below_trans' hbw2 hbw2.size hb3
    have hR3 := h.below hbw3
    have hL3 := h'.below hbw3
    have Hcl := hide (fun x : Int => List.count_le_length (a := x) (l := el))
    clear hO hX hP hP2 hb02 hbw0 hbw2 hb3 hel hS hrun hmay
    go_wp2
    go_loopw [13] (fun i wr => ∃ X : Nat, X ≤ nt ∧ i = .int .i64 X ∧ Below w3.heap.size w3 wr) (fun i _ => nt - (intOf i).toNat)
    case atStart => exact ⟨0, Nat.zero_le _, rfl, Below.refl _ _⟩
    case round =>
      obtain ⟨X, hX, rfl, hb⟩ := hrel
      have hPr := hP3.below hb hP3.lt
      have p0 := hPr.cell 0
      have p2 := hPr.cell 2
      have hsz := hb.size
      by_cases hXC : X < nt
      · go_wp2
        clear p0 p2 hPr hsz
        go_loopw [14] (fun i wr => ∃ Y : Nat, Y ≤ nt ∧ i = .int .i64 Y ∧ Below w3.heap.size w3 wr) (fun i _ => nt - (intOf i).toNat)
        case atStart => exact ⟨0, Nat.zero_le _, rfl, hb⟩
        case round =>
          clear hb
          obtain ⟨Y, hY, rfl, hb⟩ := hrel
          have hPr := hP3.below hb hP3.lt
          have p0 := hPr.cell 0
          have p2 := hPr.cell 2
          have hsz := hb.size
          by_cases hYC : Y < nt
          · by_cases hxy : X = Y
            · have f1 : ((X : Int) == (Y : Int)) = true := by simp [hxy]
              clear hxy
              go_wp2
              go_roundw
              case rel => exact ⟨Y + 1, by omega, by go_num, hb⟩
              case measure => simp [intOf] <;> omega
            · have f1 : ((X : Int) == (Y : Int)) = false := by simp; omega
              obtain ⟨b1, off1, v1, e1, hc1, _, hat1, _⟩ := (hG.below hb).step (show X < nt by omega)
              obtain rfl : v1 = (((el.count (X : Int) : Nat)) : Int) := by have := hat1.out; rw [get_gotV _ (by omega)] at this; exact (Option.some.inj this).symm
              cases e1
              clear hat1
              by_cases hz : el.count (X : Int) = 0
              · have f2 : ((((el.count (X : Int) : Nat)) : Int) == 0) = true := by simp [hz]
                clear hz
                go_wp2
                go_roundw
                case rel => exact ⟨Y + 1, by omega, by go_num, hb⟩
                case measure => simp [intOf] <;> omega
              · have f2 : ((((el.count (X : Int) : Nat)) : Int) == 0) = false := by simp; omega
                obtain ⟨b2, off2, v2, e2, hc2, _, hat2, _⟩ := (hG.below hb).step (show Y < nt by omega)
                obtain rfl : v2 = (((el.count (Y : Int) : Nat)) : Int) := by have := hat2.out; rw [get_gotV _ (by omega)] at this; exact (Option.some.inj this).symm
                cases e2
                clear hat2
                have hs := hst.out X Y (by omega) (by omega) (by omega) (by omega) (by omega) (by omega)
                rw [getI_votV (C := nt) (by omega), getI_votV (C := nt) (by omega)] at hs
                have hcx := Hcl.out (X : Int)
                have hcy := Hcl.out (Y : Int)
                have hvx := Hvb.out.2.1 (X : Int)
                have hvy := Hvb.out.2.1 (Y : Int)
                rw [getI_votV (C := nt) (by omega)] at hvx hvy
                have hox := cnt_vot Hmk.out.asc (X : Int)
                have hoy := cnt_vot Hmk.out.asc (Y : Int)
                have heln : el.length = S := Heln.out
                rw [heln] at hcx hcy
                clear heln
                generalize el.count (X : Int) = cx at *
                generalize el.count (Y : Int) = cy at *
                have hd1 : dvS 0 (cx - 1) = (cx : Int) := by unfold dvS; (try rw [if_pos rfl]); (try rw [if_neg (by decide)]); (try omega)
                have hd2 : dvS 0 cy = (cy : Int) + 1 := by unfold dvS; (try rw [if_pos rfl]); (try rw [if_neg (by decide)]); (try omega)
                rw [hd1, hd2] at hs
                have hNb : 0 ≤ (cy : Int) + 1 ∧ (cy : Int) + 1 ≤ 100 := by omega
                have hLb : 0 ≤ (cx : Int) ∧ (cx : Int) ≤ 100 := by omega
                clear hd1 hd2 hz hxy
                go_upto_region 21 with fail
                generalize (cy : Int) + 1 = N at hs hNb ⊢
                generalize (cx : Int) = L at hs hLb ⊢
                clear hcx hcy f1 f2 hc1 hc2 p0
                have hX1 : RInts (wr.alloc (.cells #[.int .i64 (X : Int)] 3)) (some ⟨wr.heap.size, 0, none⟩) 1 1 [(X : Int)] := lit_ints (Has.new _ _ _) (by unfold I64; omega)
                have hb4 : Below wr.heap.size wr (wr.alloc (.cells #[.int .i64 (X : Int)] 3)) := below_allocN
                go_wp2_with fail
                generalize World.alloc wr _ = w4 at hX1 hb4 ⊢
                refine (rof_any A n cp l _ 1 1 [(X : Int)] w4 ((hR3.below hb).below hb4) hX1).mono ?_
                rintro e w5 ⟨rfl, hb5⟩
                rw [hox]
                have hb15 := Below_trans' hb4 hb4.size hb5
                have hX5 : RInts (w5.alloc (.cells #[.int .i64 (Y : Int)] 3)) (some ⟨w5.heap.size, 0, none⟩) 1 1 [(Y : Int)] := lit_ints (Has.new _ _ _) (by unfold I64; omega)
                have hb6 : Below w5.heap.size w5 (w5.alloc (.cells #[.int .i64 (Y : Int)] 3)) := below_allocN
                have hP5 := hPr.below hb15 hPr.lt
                have p2' := hP5.cell 2
                clear p2
                generalize votX l (X : Int) = a at *
                generalize votX l (Y : Int) = b at *
                have m1 : 0 ≤ a * N ∧ a * N ≤ 1000000000 := ⟨Int.mul_nonneg hvx.1 hNb.1, Int.le_trans (Int.mul_le_mul hvx.2 hNb.2 hNb.1 (by omega)) (by omega)⟩
                have m2 : 0 ≤ b * L ∧ b * L ≤ 1000000000 := ⟨Int.mul_nonneg hvy.1 hLb.1, Int.le_trans (Int.mul_le_mul hvy.2 hLb.2 hLb.1 (by omega)) (by omega)⟩
                go_wp2_with fail
                generalize World.alloc w5 _ = w6 at hX5 hb6 ⊢
                have hb16 := Below_trans' hb15 hb15.size hb6
                refine (rof_any A n cp l _ 1 1 [(Y : Int)] w6 ((hR3.below hb).below hb16) hX5).mono ?_
                rintro e w7 ⟨rfl, hb7⟩
                rw [hoy]
                clear p2'
                have hb17 := Below_trans' hb16 hb16.size hb7
                have hbR := Below_trans' hb hsz hb17
                go_upto_region 23 with fail
                generalize a * N = u at hs m1 ⊢
                generalize b * L = v at hs m2 ⊢
                have d1 : decide (u < v) = false := by simp; omega
                by_cases huv : u = v
                · have d2 : (u == v) = true := by simp [huv]
                  have hfr := hide (hs.2 huv.symm)
                  have hL7 : RInts (w7.alloc (.cells #[.int .i64 (X : Int), .int .i64 (Y : Int)] 3)) (some ⟨w7.heap.size, 0, none⟩) 2 2 [(X : Int), (Y : Int)] := lit2 (Has.new _ _ _) (by unfold I64; omega) (by unfold I64; omega)
                  have hb8 : Below w7.heap.size w7 (w7.alloc (.cells #[.int .i64 (X : Int), .int .i64 (Y : Int)] 3)) := below_allocN
                  have hb18 := Below_trans' hbR hbR.size hb8
                  clear hs huv
                  go_wp2_with fail
                  generalize World.alloc w7 _ = w8 at hL7 hb8 hb18 ⊢
                  refine (rfirst_any At nt ct lot _ 2 2 [(X : Int), (Y : Int)] w8 (hL3.below hb18) hL7).mono ?_
                  rintro e w' ⟨rfl, rfl⟩
                  rw [hfr.out]
                  go_wp2
                  go_roundw
                  case rel => exact ⟨Y + 1, by omega, by go_num, hb18⟩
                  case measure => simp [intOf] <;> omega
                · have d2 : (u == v) = false := by simp [huv]
                  clear hs huv
                  go_wp2
                  go_roundw
                  case rel => exact ⟨Y + 1, by omega, by go_num, hbR⟩
                  case measure => simp [intOf] <;> omega
          · obtain rfl : nt = Y := by omega
            go_wp2
            go_roundw
            case rel => exact ⟨X + 1, by omega, by go_num, hb⟩
            case measure => simp [intOf] <;> omega
      · have hbf := Below_trans' hbw3 hbw3.size hb
        go_wp2_with fail
        refine (wakes20_any _).mono ?_
        rintro e w9 ⟨rfl, hb9⟩
        go_wp2
        go_ret
        exact ⟨rfl, Below_trans' hbf (hbf).size hb9⟩
  · have e1 : (mayS c k l 2 nn 10 lot == 0) = false := by simp [hE]
    clear hE
    go_wp2_with fail
    refine (wakes20_any _).mono ?_
    rintro e w9 ⟨rfl, hb9⟩
    go_wp2
    go_ret
    exact ⟨rfl, Below_trans' hbw0 (hbw0).size hb9⟩
set_option maxRecDepth 100000 in
set_option maxHeartbeats 4000000 in
theorem stable_one (c k : Int) (A : Option Addr) (n cp : Nat) (l : List Row) (nn : Int) (At : Option Addr) (nt ct : Nat) (lot : List Int) (w : World) (h : RRows w A n cp l) (h' : RInts w At nt ct lot) :
    Calls Try.prog 3 #[.bool true, .agg #[.int .i64 c, .int .u8 k, .slice A n cp], .int .i64 nn, .slice At nt ct] w fun e w' => e = .returned (.bool true) ∧ Below w.heap.size w w' := by
  have hb : Below w.heap.size w (w.alloc (.cells #[.int .i64 c, .int .u8 k, .slice A n cp] 24)) := below_allocN
  have hP := Has.new w 24 #[.int .i64 c, .int .u8 k, .slice A n cp]
  generalize hW : World.alloc w _ = W0 at hb hP
  have p0 := hP.cell 0
  have p1 := hP.cell 1
  have p2 := hP.cell 2
  go_enter Try.func3, Try.ntmps3
  go_wp2_with fail
  try simp only [hW]
  clear hW
  refine (valid20_any c k A n cp l nn At nt ct lot W0 (h.below hb) (h'.below hb)).mono ?_
  rintro e z0 ⟨rfl, hbz0⟩
  have hbw0 := Below_trans' hb hb.size hbz0
  replace hP := hP.below hbz0 hP.lt
  clear p0 p1 p2 hb hbz0
  by_cases hE : mayS c k l 2 nn 10 lot = 0
  · have e1 : (mayS c k l 2 nn 10 lot == 0) = true := by simp [hE]
    obtain ⟨hc0, hk0, hs1, hs2, hs3, hlot⟩ := may_zero hE
    subst hk0
    have hmk := markOK_of hc0
    have hc1 := (check_iff.1 hc0).2.1
    obtain ⟨C, rfl⟩ : ∃ C : Nat, c = (C : Int) := ⟨c.toNat, by omega⟩
    obtain ⟨S, rfl⟩ : ∃ S : Nat, nn = (S : Int) := ⟨nn.toNat, by omega⟩
    rw [Int.toNat_natCast] at hmk
    have Hmk := hide hmk
    have hC10 := hmk.c10
    have hC1 := hmk.c1
    have hnt : nt = C := by have h1 := lot_len hlot; have h2 := h'.len; omega
    subst hnt
    have hvb := votV_bd hmk
    have Hvb := hide hvb
    have Hla := hide (LotAll.of hlot)
    have Hlot := hide hlot
    have hrun : Hid (∀ r, listR r nt 2 l S lot = listO r l nt lot S) := fun r => by rw [listR_ok hE, Int.toNat_natCast, Int.toNat_natCast]
    have hmay := hide hE
    have Hc0 := hide hc0
    clear hE hc0 hmk hvb hc1 hlot
    -- the count count20_any 1 at the world z0, region 7 behind it; leaves w2, hO, hX (the outcome's box), hbw2, hb02
    have p0 := hP.cell 0
    have p1 := hP.cell 1
    have p2 := hP.cell 2
    go_wp2_with fail
    refine (count20_any 1 nt 2 A n cp l S At nt ct lot z0 (h.below hbw0) (h'.below hbw0) (by omega)).mono ?_
    rintro e w1 ⟨Ae, ne, ce, Ar, nr, cr, Av, nv, cv, rfl, hO, hb1⟩
    rw [hrun.out] at hO
    rw [hmay.out]
    clear p0 p1 p2
    go_upto_region 7 with fail
    have hb2 : Below w1.heap.size w1 (w1.alloc (.cells #[.slice Ae ne ce, .slice Ar nr cr, .slice Av nv cv] 31)) := below_allocN
    have hX := Has.new w1 31 #[.slice Ae ne ce, .slice Ar nr cr, .slice Av nv cv]
    generalize World.alloc w1 _ = w2 at hb2 hX ⊢
    replace hO := hO.below hb2
    have hb02 := Below_trans' hb1 hb1.size hb2
    have hbw2 := Below_trans' hbw0 hbw0.size hb02
    have hP2 := hP.below hb02 hP.lt
    clear hb1 hb2
    -- the seats of hO at the world w2; leaves hS (at w3), hb3
    have hel := hide (seatS_rng (had := votV l nt) hC1 Hla.out 1 S)
    have heln : (listO 1 l nt lot S).1.length = S := seatS_len (had := votV l nt) hC1 Hla.out (hadOK_vot nt Hmk.out.pos) 1 S
    have x0 := hX.cell 0
    have x1 := hX.cell 1
    have x2 := hX.cell 2
    have p0 := hP2.cell 0
    have hne : Hid (ne = S) := by unfold Hid; have h1 := hO.1.len; omega
    have Heln := hide heln
    clear heln
    go_wp2_with fail
    refine (seats20_any Ae ne ce Ar nr cr Av nv cv (listO 1 l nt lot S).1 nt w2 hO.1 hel.out (by omega) (by have := hne.out; omega)).mono ?_
    rintro e w3 ⟨vs, rfl, hS, hb3⟩
    clear x0 x1 x2 p0
    obtain ⟨As, cs, rfl⟩ := hS.slice
    rw [length_gotV] at hS ⊢
    have hst : Hid (StableD (votV l nt) 1 nt lot (listO 1 l nt lot S).1) := divS_stable hC1 Hla.out (fun x => (Hvb.out.2.1 x).1) S
    generalize (listO 1 l nt lot S).1 = el at hS hst hO hel Heln
    have hG := hS.ints (fun y hy => by
      obtain ⟨i, _, rfl⟩ := List.mem_map.1 hy
      have := List.count_le_length (a := (i : Int)) (l := el)
      have h2 : el.length = S := Heln.out
      omega)
    obtain ⟨bg, og, _, rfl, _⟩ := hG.step (show 0 < nt by omega)
    have hP3 := hP2.below hb3 hP2.lt
    have hbw3 := Below_trans' hbw2 hbw2.size hb3
    have hR3 := h.below hbw3
    have hL3 := h'.below hbw3
    have Hcl := hide (fun x : Int => List.count_le_length (a := x) (l := el))
    clear hO hX hP hP2 hb02 hbw0 hbw2 hb3 hel hS hrun hmay
    go_wp2
    go_loopw [13] (fun i wr => ∃ X : Nat, X ≤ nt ∧ i = .int .i64 X ∧ Below w3.heap.size w3 wr) (fun i _ => nt - (intOf i).toNat)
    case atStart => exact ⟨0, Nat.zero_le _, rfl, Below.refl _ _⟩
    case round =>
      obtain ⟨X, hX, rfl, hb⟩ := hrel
      have hPr := hP3.below hb hP3.lt
      have p0 := hPr.cell 0
      have p2 := hPr.cell 2
      have hsz := hb.size
      by_cases hXC : X < nt
      · go_wp2
        clear p0 p2 hPr hsz
        go_loopw [14] (fun i wr => ∃ Y : Nat, Y ≤ nt ∧ i = .int .i64 Y ∧ Below w3.heap.size w3 wr) (fun i _ => nt - (intOf i).toNat)
        case atStart => exact ⟨0, Nat.zero_le _, rfl, hb⟩
        case round =>
          clear hb
          obtain ⟨Y, hY, rfl, hb⟩ := hrel
          have hPr := hP3.below hb hP3.lt
          have p0 := hPr.cell 0
          have p2 := hPr.cell 2
          have hsz := hb.size
          by_cases hYC : Y < nt
          · by_cases hxy : X = Y
            · have f1 : ((X : Int) == (Y : Int)) = true := by simp [hxy]
              clear hxy
              go_wp2
              go_roundw
              case rel => exact ⟨Y + 1, by omega, by go_num, hb⟩
              case measure => simp [intOf] <;> omega
            · have f1 : ((X : Int) == (Y : Int)) = false := by simp; omega
              obtain ⟨b1, off1, v1, e1, hc1, _, hat1, _⟩ := (hG.below hb).step (show X < nt by omega)
              obtain rfl : v1 = (((el.count (X : Int) : Nat)) : Int) := by have := hat1.out; rw [get_gotV _ (by omega)] at this; exact (Option.some.inj this).symm
              cases e1
              clear hat1
              by_cases hz : el.count (X : Int) = 0
              · have f2 : ((((el.count (X : Int) : Nat)) : Int) == 0) = true := by simp [hz]
                clear hz
                go_wp2
                go_roundw
                case rel => exact ⟨Y + 1, by omega, by go_num, hb⟩
                case measure => simp [intOf] <;> omega
              · have f2 : ((((el.count (X : Int) : Nat)) : Int) == 0) = false := by simp; omega
                obtain ⟨b2, off2, v2, e2, hc2, _, hat2, _⟩ := (hG.below hb).step (show Y < nt by omega)
                obtain rfl : v2 = (((el.count (Y : Int) : Nat)) : Int) := by have := hat2.out; rw [get_gotV _ (by omega)] at this; exact (Option.some.inj this).symm
                cases e2
                clear hat2
                have hs := hst.out X Y (by omega) (by omega) (by omega) (by omega) (by omega) (by omega)
                rw [getI_votV (C := nt) (by omega), getI_votV (C := nt) (by omega)] at hs
                have hcx := Hcl.out (X : Int)
                have hcy := Hcl.out (Y : Int)
                have hvx := Hvb.out.2.1 (X : Int)
                have hvy := Hvb.out.2.1 (Y : Int)
                rw [getI_votV (C := nt) (by omega)] at hvx hvy
                have hox := cnt_vot Hmk.out.asc (X : Int)
                have hoy := cnt_vot Hmk.out.asc (Y : Int)
                have heln : el.length = S := Heln.out
                rw [heln] at hcx hcy
                clear heln
                generalize el.count (X : Int) = cx at *
                generalize el.count (Y : Int) = cy at *
                have hd1 : dvS 1 (cx - 1) = 2 * (cx : Int) - 1 := by unfold dvS; (try rw [if_pos rfl]); (try rw [if_neg (by decide)]); (try omega)
                have hd2 : dvS 1 cy = 2 * ((cy : Int) + 1) - 1 := by unfold dvS; (try rw [if_pos rfl]); (try rw [if_neg (by decide)]); (try omega)
                rw [hd1, hd2] at hs
                have hNb : 0 ≤ 2 * ((cy : Int) + 1) - 1 ∧ 2 * ((cy : Int) + 1) - 1 ≤ 100 := by omega
                have hLb : 0 ≤ 2 * (cx : Int) - 1 ∧ 2 * (cx : Int) - 1 ≤ 100 := by omega
                clear hd1 hd2 hz hxy
                go_upto_region 21 with fail
                generalize 2 * ((cy : Int) + 1) - 1 = N at hs hNb ⊢
                generalize 2 * (cx : Int) - 1 = L at hs hLb ⊢
                clear hcx hcy f1 f2 hc1 hc2 p0
                have hX1 : RInts (wr.alloc (.cells #[.int .i64 (X : Int)] 3)) (some ⟨wr.heap.size, 0, none⟩) 1 1 [(X : Int)] := lit_ints (Has.new _ _ _) (by unfold I64; omega)
                have hb4 : Below wr.heap.size wr (wr.alloc (.cells #[.int .i64 (X : Int)] 3)) := below_allocN
                go_wp2_with fail
                generalize World.alloc wr _ = w4 at hX1 hb4 ⊢
                refine (rof_any A n cp l _ 1 1 [(X : Int)] w4 ((hR3.below hb).below hb4) hX1).mono ?_
                rintro e w5 ⟨rfl, hb5⟩
                rw [hox]
                have hb15 := Below_trans' hb4 hb4.size hb5
                have hX5 : RInts (w5.alloc (.cells #[.int .i64 (Y : Int)] 3)) (some ⟨w5.heap.size, 0, none⟩) 1 1 [(Y : Int)] := lit_ints (Has.new _ _ _) (by unfold I64; omega)
                have hb6 : Below w5.heap.size w5 (w5.alloc (.cells #[.int .i64 (Y : Int)] 3)) := below_allocN
                have hP5 := hPr.below hb15 hPr.lt
                have p2' := hP5.cell 2
                clear p2
                generalize votX l (X : Int) = a at *
                generalize votX l (Y : Int) = b at *
                have m1 : 0 ≤ a * N ∧ a * N ≤ 1000000000 := ⟨Int.mul_nonneg hvx.1 hNb.1, Int.le_trans (Int.mul_le_mul hvx.2 hNb.2 hNb.1 (by omega)) (by omega)⟩
                have m2 : 0 ≤ b * L ∧ b * L ≤ 1000000000 := ⟨Int.mul_nonneg hvy.1 hLb.1, Int.le_trans (Int.mul_le_mul hvy.2 hLb.2 hLb.1 (by omega)) (by omega)⟩
                go_wp2_with fail
                generalize World.alloc w5 _ = w6 at hX5 hb6 ⊢
                have hb16 := Below_trans' hb15 hb15.size hb6
                refine (rof_any A n cp l _ 1 1 [(Y : Int)] w6 ((hR3.below hb).below hb16) hX5).mono ?_
                rintro e w7 ⟨rfl, hb7⟩
                rw [hoy]
                clear p2'
                have hb17 := Below_trans' hb16 hb16.size hb7
                have hbR := Below_trans' hb hsz hb17
                go_upto_region 23 with fail
                generalize a * N = u at hs m1 ⊢
                generalize b * L = v at hs m2 ⊢
                have d1 : decide (u < v) = false := by simp; omega
                by_cases huv : u = v
                · have d2 : (u == v) = true := by simp [huv]
                  have hfr := hide (hs.2 huv.symm)
                  have hL7 : RInts (w7.alloc (.cells #[.int .i64 (X : Int), .int .i64 (Y : Int)] 3)) (some ⟨w7.heap.size, 0, none⟩) 2 2 [(X : Int), (Y : Int)] := lit2 (Has.new _ _ _) (by unfold I64; omega) (by unfold I64; omega)
                  have hb8 : Below w7.heap.size w7 (w7.alloc (.cells #[.int .i64 (X : Int), .int .i64 (Y : Int)] 3)) := below_allocN
                  have hb18 := Below_trans' hbR hbR.size hb8
                  clear hs huv
                  go_wp2_with fail
                  generalize World.alloc w7 _ = w8 at hL7 hb8 hb18 ⊢
                  refine (rfirst_any At nt ct lot _ 2 2 [(X : Int), (Y : Int)] w8 (hL3.below hb18) hL7).mono ?_
                  rintro e w' ⟨rfl, rfl⟩
                  rw [hfr.out]
                  go_wp2
                  go_roundw
                  case rel => exact ⟨Y + 1, by omega, by go_num, hb18⟩
                  case measure => simp [intOf] <;> omega
                · have d2 : (u == v) = false := by simp [huv]
                  clear hs huv
                  go_wp2
                  go_roundw
                  case rel => exact ⟨Y + 1, by omega, by go_num, hbR⟩
                  case measure => simp [intOf] <;> omega
          · obtain rfl : nt = Y := by omega
            go_wp2
            go_roundw
            case rel => exact ⟨X + 1, by omega, by go_num, hb⟩
            case measure => simp [intOf] <;> omega
      · have hbf := Below_trans' hbw3 hbw3.size hb
        go_wp2_with fail
        refine (wakes20_any _).mono ?_
        rintro e w9 ⟨rfl, hb9⟩
        go_wp2
        go_ret
        exact ⟨rfl, Below_trans' hbf (hbf).size hb9⟩
  · have e1 : (mayS c k l 2 nn 10 lot == 0) = false := by simp [hE]
    clear hE
    go_wp2_with fail
    refine (wakes20_any _).mono ?_
    rintro e w9 ⟨rfl, hb9⟩
    go_wp2
    go_ret
    exact ⟨rfl, Below_trans' hbw0 (hbw0).size hb9⟩
theorem listsStable_any (b : Bool) (c k : Int) (A : Option Addr) (n cp : Nat) (l : List Row) (nn : Int) (At : Option Addr) (nt ct : Nat) (lot : List Int) (w : World) (h : RRows w A n cp l) (h' : RInts w At nt ct lot) :
    Calls Try.prog 3 #[.bool b, .agg #[.int .i64 c, .int .u8 k, .slice A n cp], .int .i64 nn, .slice At nt ct] w fun e w' => e = .returned (.bool true) ∧ Below w.heap.size w w' := by
  cases b
  · exact stable_zero c k A n cp l nn At nt ct lot w h h'
  · exact stable_one c k A n cp l nn At nt ct lot w h h'
end Go.Proofs.Ytiebfalodelclaa
