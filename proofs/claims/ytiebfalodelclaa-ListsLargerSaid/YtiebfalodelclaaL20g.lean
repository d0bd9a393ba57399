/-
  The law ListsLarger.
-/
import Derived.Test.YtiebfalodelclaaW20e
namespace Go.Proofs.Ytiebfalodelclaa
open Go.RowKit Go.Proofs Go.Shelf
attribute [local go_sem] cell?_more cell?_alloc_some cell?_setCell_far frozen?_alloc_some frozen?_more
theorem sum_pos20 {had : List Int} {C : Nat} (h : HadOK had C) {z : Int} (z0 : 0 ≤ z) (zC : z < (C : Int)) (hz : 0 < getI had z) : 0 < had.sum := by
  have hl : z.toNat < had.length := by rw [h.len]; omega
  have hv : had[z.toNat]? = some (getI had z) := by
    unfold getI
    rw [List.getD_eq_getElem?_getD, List.getElem?_eq_getElem hl]; rfl
  have := h.le_sum hv
  omega
theorem larger20 {had : List Int} {C : Nat} {lot : List Int} (rule : Int) (hC : 1 ≤ C) (hl : LotAll lot C) (hh : HadOK had C) (n : Nat) {x y : Int} (x0 : 0 ≤ x) (xC : x < C) (y0 : 0 ≤ y) (yC : y < C) :
    (getI had y < getI had x → (seatS rule had C lot n).1.count y ≤ (seatS rule had C lot n).1.count x) ∧
    ((∃ z, 0 ≤ z ∧ z < (C : Int) ∧ 0 < getI had z) → getI had x = getI had y → (seatS rule had C lot n).1.count x ≤ (seatS rule had C lot n).1.count y + 1) := by
  unfold seatS
  split
  · exact div_larger hC hl hh n x0 xC y0 yC
  · split
    · exact div_larger hC hl hh n x0 xC y0 yC
    · refine ⟨fun h => ?_, fun ⟨z, z0, zC, hz⟩ h => ?_⟩
      · have := hh.nn y
        exact (hare_larger hC hl hh (sum_pos20 hh x0 xC (by omega)) n x0 xC y0 yC).1 h
      · exact (hare_larger hC hl hh (sum_pos20 hh z0 zC hz) n x0 xC y0 yC).2 h
/-- Has one of the first X a vote? -/
def someB (l : List Row) (X : Nat) : Bool := (List.range X).any fun z : Nat => decide (0 < votX l (z : Int))
theorem someB_succ (l : List Row) (X : Nat) : someB l (X + 1) = (someB l X || decide (0 < votX l (X : Int))) := by unfold someB; rw [List.range_succ, List.any_append]; simp
theorem someB_some {l : List Row} {C : Nat} (h : someB l C = true) : ∃ z, 0 ≤ z ∧ z < (C : Int) ∧ 0 < getI (votV l C) z := by
  unfold someB at h
  rw [List.any_eq_true] at h
  obtain ⟨z, hz, h⟩ := h
  have hz := List.mem_range.1 hz
  exact ⟨z, by omega, by omega, by rw [getI_votV (by omega)]; exact of_decide_eq_true h⟩

set_option maxRecDepth 100000 in
set_option maxHeartbeats 4000000 in
theorem listsLarger_any (rule c k : Int) (A : Option Addr) (n cp : Nat) (l : List Row) (nn : Int) (At : Option Addr) (nt ct : Nat) (lot : List Int) (w : World) (h : RRows w A n cp l) (h' : RInts w At nt ct lot) :
    Calls Try.prog 6 #[.int .i64 rule, .agg #[.int .i64 c, .int .u8 k, .slice A n cp], .int .i64 nn, .slice At nt ct] w fun e w' => e = .returned (.bool true) ∧ Below w.heap.size w w' := by
  have hb : Below w.heap.size w (w.alloc (.cells #[.int .i64 c, .int .u8 k, .slice A n cp] 24)) := below_allocN
  have hP := Has.new w 24 #[.int .i64 c, .int .u8 k, .slice A n cp]
  generalize hW : World.alloc w _ = W0 at hb hP
  have p0 := hP.cell 0
  have p1 := hP.cell 1
  have p2 := hP.cell 2
  go_enter Try.func6, Try.ntmps6
  go_wp2_with fail
  try simp only [hW]
  clear hW
  refine (valid20_any c k A n cp l nn At nt ct lot W0 (h.below hb) (h'.below hb)).mono ?_
  rintro e z0 ⟨rfl, hbz0⟩
  have hbw0 := Below_trans' hb hb.size hbz0
  replace hP := hP.below hbz0 hP.lt
  clear p0 p1 p2 hb hbz0
  by_cases hE : mayS c k l 2 nn 10 lot = 0
  · have e1 : (mayS c k l 2 nn 10 lot == 0) = true := by simp [hE]
    obtain ⟨hc0, hk0, hs1, hs2, hs3, hlot⟩ := may_zero hE
    subst hk0
    have hmk := markOK_of hc0
    have hc1 := (check_iff.1 hc0).2.1
    obtain ⟨C, rfl⟩ : ∃ C : Nat, c = (C : Int) := ⟨c.toNat, by omega⟩
    obtain ⟨S, rfl⟩ : ∃ S : Nat, nn = (S : Int) := ⟨nn.toNat, by omega⟩
    rw [Int.toNat_natCast] at hmk
    have Hmk := hide hmk
    have hC10 := hmk.c10
    have hC1 := hmk.c1
    have hnt : nt = C := by have h1 := lot_len hlot; have h2 := h'.len; omega
    subst hnt
    have hvb := votV_bd hmk
    have Hvb := hide hvb
    have Hla := hide (LotAll.of hlot)
    have Hlot := hide hlot
    have hrun : Hid (∀ r, listR r nt 2 l S lot = listO r l nt lot S) := fun r => by rw [listR_ok hE, Int.toNat_natCast, Int.toNat_natCast]
    have hmay := hide hE
    have Hc0 := hide hc0
    clear hE hc0 hmk hvb hc1 hlot
    -- the count count20_any rule at the world z0, region 4 behind it; leaves w2, hO, hX (the outcome's box), hbw2, hb02
    have p0 := hP.cell 0
    have p1 := hP.cell 1
    have p2 := hP.cell 2
    go_wp2_with fail
    refine (count20_any rule nt 2 A n cp l S At nt ct lot z0 (h.below hbw0) (h'.below hbw0) (by omega)).mono ?_
    rintro e w1 ⟨Ae, ne, ce, Ar, nr, cr, Av, nv, cv, rfl, hO, hb1⟩
    rw [hrun.out] at hO
    rw [hmay.out]
    clear p0 p1 p2
    go_upto_region 4 with fail
    have hb2 : Below w1.heap.size w1 (w1.alloc (.cells #[.slice Ae ne ce, .slice Ar nr cr, .slice Av nv cv] 31)) := below_allocN
    have hX := Has.new w1 31 #[.slice Ae ne ce, .slice Ar nr cr, .slice Av nv cv]
    generalize World.alloc w1 _ = w2 at hb2 hX ⊢
    replace hO := hO.below hb2
    have hb02 := Below_trans' hb1 hb1.size hb2
    have hbw2 := Below_trans' hbw0 hbw0.size hb02
    have hP2 := hP.below hb02 hP.lt
    clear hb1 hb2
    -- the seats of hO at the world w2; leaves hS (at w3), hb3
    have hel := hide (seatS_rng (had := votV l nt) hC1 Hla.out rule S)
    have heln : (listO rule l nt lot S).1.length = S := seatS_len (had := votV l nt) hC1 Hla.out (hadOK_vot nt Hmk.out.pos) rule S
    have x0 := hX.cell 0
    have x1 := hX.cell 1
    have x2 := hX.cell 2
    have p0 := hP2.cell 0
    have hne : Hid (ne = S) := by unfold Hid; have h1 := hO.1.len; omega
    have Heln := hide heln
    clear heln
    go_wp2_with fail
    refine (seats20_any Ae ne ce Ar nr cr Av nv cv (listO rule l nt lot S).1 nt w2 hO.1 hel.out (by omega) (by have := hne.out; omega)).mono ?_
    rintro e w3 ⟨vs, rfl, hS, hb3⟩
    clear x0 x1 x2 p0
    obtain ⟨As, cs, rfl⟩ := hS.slice
    rw [length_gotV] at hS ⊢
    have hlg : Hid (∀ x y : Int, 0 ≤ x → x < nt → 0 ≤ y → y < nt → (getI (votV l nt) y < getI (votV l nt) x → (listO rule l nt lot S).1.count y ≤ (listO rule l nt lot S).1.count x) ∧ ((∃ z, 0 ≤ z ∧ z < (nt : Int) ∧ 0 < getI (votV l nt) z) → getI (votV l nt) x = getI (votV l nt) y → (listO rule l nt lot S).1.count x ≤ (listO rule l nt lot S).1.count y + 1)) :=
      fun x y x0 xC y0 yC => larger20 rule hC1 Hla.out (hadOK_vot nt Hmk.out.pos) S x0 xC y0 yC
    generalize (listO rule l nt lot S).1 = el at hS hlg hO hel Heln
    have hG := hS.ints (fun y hy => by
      obtain ⟨i, _, rfl⟩ := List.mem_map.1 hy
      have := List.count_le_length (a := (i : Int)) (l := el)
      have h2 : el.length = S := Heln.out
      omega)
    obtain ⟨bg, og, _, rfl, _⟩ := hG.step (show 0 < nt by omega)
    have hP3 := hP2.below hb3 hP2.lt
    have hbw3 := Below_trans' hbw2 hbw2.size hb3
    have Hcl := hide (fun x : Int => List.count_le_length (a := x) (l := el))
    clear hO hX hP hP2 hb02 hbw0 hbw2 hb3 hel hS hrun hmay
    go_wp2
    go_loopw [12, 13] (fun s i wr => ∃ X : Nat, X ≤ nt ∧ i = .int .i64 X ∧ s = .bool (someB l X) ∧ Below w3.heap.size w3 wr) (fun s i _ => nt - (intOf i).toNat)
    case atStart => exact ⟨0, Nat.zero_le _, rfl, rfl, Below.refl _ _⟩
    case round =>
      obtain ⟨X, hX, rfl, rfl, hb⟩ := hrel
      obtain ⟨wo, rfl⟩ : ∃ wo : World, wo = wr := ⟨_, rfl⟩
      have hPr := hP3.below hb hP3.lt
      have p0 := hPr.cell 0
      have p2 := hPr.cell 2
      have hbw := Below_trans' hbw3 hbw3.size hb
      by_cases hXC : X < nt
      · have hs := hide (someB_succ l X)
        cases hB : someB l X with
        | true =>
          rw [hB] at hs
          go_wp2
          go_roundw
          case rel => exact ⟨X + 1, by omega, by go_num, by rw [hs.out]; rfl, hb⟩
          case measure => simp [intOf] <;> omega
        | false =>
          rw [hB] at hs
          -- a call of Of for the party X at the world wo (cells p2 at hand, hbw : Below w .. wo); leaves w5, hB5 : Below wo .. w5
          have hXI : RInts (wo.alloc (.cells #[.int .i64 (X : Int)] 3)) (some ⟨wo.heap.size, 0, none⟩) 1 1 [(X : Int)] := lit_ints (Has.new _ _ _) (by unfold I64; omega)
          have hbI : Below wo.heap.size wo (wo.alloc (.cells #[.int .i64 (X : Int)] 3)) := below_allocN
          have hbwI := Below_trans' hbw (hbw).size hbI
          go_wp2_with fail
          generalize World.alloc wo _ = wI at hXI hbI hbwI ⊢
          refine (rof_any A n cp l _ 1 1 [(X : Int)] wI (h.below hbwI) hXI).mono ?_
          rintro e w5 ⟨rfl, hbJ⟩
          rw [cnt_vot Hmk.out.asc]
          have hB5 := Below_trans' hbI hbI.size hbJ
          clear hXI hbI hbJ hbwI
          have hbR := Below_trans' hb hb.size hB5
          clear p0 p2
          go_wp2
          go_roundw
          case rel => exact ⟨X + 1, by omega, by go_num, by rw [hs.out, Bool.false_or], hbR⟩
          case measure => simp [intOf] <;> omega
      · obtain rfl : nt = X := by omega
        obtain ⟨wp, rfl⟩ : ∃ wp : World, wp = wo := ⟨_, rfl⟩
        clear p2 hX hXC
        obtain ⟨B, hBd⟩ : ∃ B, B = someB l nt := ⟨_, rfl⟩
        have HB : Hid (B = true → ∃ z, 0 ≤ z ∧ z < (nt : Int) ∧ 0 < getI (votV l nt) z) := fun hB => someB_some (by rw [← hBd]; exact hB)
        rw [← hBd]
        clear hBd
        go_wp2
        clear p0 hPr
        go_loopw [14] (fun i wr => ∃ X : Nat, X ≤ nt ∧ i = .int .i64 X ∧ Below w3.heap.size w3 wr) (fun i _ => nt - (intOf i).toNat)
        case atStart => exact ⟨0, Nat.zero_le _, rfl, hb⟩
        case round =>
          clear hb hbw
          obtain ⟨X, hX, rfl, hb⟩ := hrel
          have hPr := hP3.below hb hP3.lt
          have p0 := hPr.cell 0
          by_cases hXC : X < nt
          · go_wp2
            clear p0 hPr
            go_loopw [15] (fun i wr => ∃ Y : Nat, Y ≤ nt ∧ i = .int .i64 Y ∧ Below w3.heap.size w3 wr) (fun i _ => nt - (intOf i).toNat)
            case atStart => exact ⟨0, Nat.zero_le _, rfl, hb⟩
            case round =>
              clear hb
              obtain ⟨Y, hY, rfl, hb⟩ := hrel
              have hPr := hP3.below hb hP3.lt
              have p0 := hPr.cell 0
              have p2 := hPr.cell 2
              have hsz := hb.size
              have hbw := Below_trans' hbw3 hbw3.size hb
              by_cases hYC : Y < nt
              · have hlg := hlg.out X Y (by omega) (by omega) (by omega) (by omega)
                rw [getI_votV (C := nt) (by omega), getI_votV (C := nt) (by omega)] at hlg
                have hRr := h.below hbw
                obtain ⟨b1, off1, v1, e1', c1, _, hat1, _⟩ := (hG.below hb).step hXC
                obtain rfl : v1 = (((el.count (X : Int) : Nat)) : Int) := by have := hat1.out; rw [get_gotV _ (by omega)] at this; exact (Option.some.inj this).symm
                obtain ⟨b2, off2, v2, e2', c2, _, hat2, _⟩ := (hG.below hb).step hYC
                obtain rfl : v2 = (((el.count (Y : Int) : Nat)) : Int) := by have := hat2.out; rw [get_gotV _ (by omega)] at this; exact (Option.some.inj this).symm
                cases e1'
                cases e2'
                clear hat1 hat2
                have hcx := Hcl.out (X : Int)
                have hcy := Hcl.out (Y : Int)
                have heln : el.length = S := Heln.out
                rw [heln] at hcx hcy
                clear heln
                generalize el.count (X : Int) = cx at *
                generalize el.count (Y : Int) = cy at *
                go_upto_region 17 with fail
                refine wp_region_flow [0, 1, 2, 5, 6, 7] (fun w' => ∃ q, w' = More wr q) (by kernel_rfl) (by kernel_rfl) (below_more ((Below.refl wr.heap.size wr).drew)) ?_
                simp only [pickOps, List.getElem?_cons_zero, List.getElem?_cons_succ]
                repeat (go_big_quiet_step (fail))
                refine wpQuiet_nil ?_
                clear p0 p2
                refine flow_two 3 8 (by kernel_rfl) rfl rfl ?_ ?_
                · -- the slice of the party X at once; leaves w4, hI4
                  have hI4 : RInts (wr.alloc (.cells #[.int .i64 (X : Int)] 3)).drew (some ⟨wr.heap.size, 0, none⟩) 1 1 [(X : Int)] := lit_ints (Has.new wr 3 #[.int .i64 (X : Int)]).drew (by unfold I64; omega)
                  have hZ4 : Below wr.heap.size wr (wr.alloc (.cells #[.int .i64 (X : Int)] 3)).drew := ((Below.refl _ _).alloc (Nat.le_refl _) _).drew
                  go_wp2
                  generalize World.drew _ = w4 at hI4 hZ4 ⊢
                  refine FlowPost.mk ⟨below_more hZ4, ?_⟩
                  refine flow_two 4 8 (by kernel_rfl) rfl rfl ?_ ?_
                  · -- Of for the party X (its slice hI4 at the world w4, below hZ4); leaves w5
                    go_wp2_with fail
                    refine (rof_any A n cp l _ 1 1 [(X : Int)] w4 (hRr.below hZ4) hI4).mono ?_
                    rintro e w5 ⟨rfl, hbJ5⟩
                    rw [cnt_vot Hmk.out.asc]
                    have hZ5 : Below wr.heap.size wr w5 := Below_trans' hZ4 (hZ4).size hbJ5
                    go_wp2
                    refine FlowPost.mk ⟨below_more hZ5, ?_⟩
                    refine flow_one 8 (by kernel_rfl) rfl ?_
                    -- the slice of the party Y at the world w5, below hZ5; leaves w6, hI6
                    have hI6 : RInts (w5.alloc (.cells #[.int .i64 (Y : Int)] 3)) (some ⟨w5.heap.size, 0, none⟩) 1 1 [(Y : Int)] := lit_ints (Has.new _ _ _) (by unfold I64; omega)
                    have hbI6 : Below w5.heap.size w5 (w5.alloc (.cells #[.int .i64 (Y : Int)] 3)) := below_allocN
                    have hZ6 : Below wr.heap.size wr (w5.alloc (.cells #[.int .i64 (Y : Int)] 3)) := Below_trans' hZ5 (hZ5).size hbI6
                    go_wp2
                    generalize World.alloc w5 _ = w6 at hI6 hbI6 hZ6 ⊢
                    refine FlowPost.mk ⟨below_more hZ6, ?_⟩
                    refine flow_one 9 (by kernel_rfl) rfl ?_
                    -- Of for the party Y (its slice hI6 at the world w6, below hZ6); leaves w7
                    go_wp2_with fail
                    refine (rof_any A n cp l _ 1 1 [(Y : Int)] w6 (hRr.below hZ6) hI6).mono ?_
                    rintro e w7 ⟨rfl, hbJ7⟩
                    rw [cnt_vot Hmk.out.asc]
                    have hZ7 : Below wr.heap.size wr w7 := Below_trans' hZ6 (hZ6).size hbJ7
                    go_wp2
                    refine FlowPost.mk ⟨below_more hZ7, ?_⟩
                    -- behind region 17, at the world w7 (hZ7)
                    refine flow_rest [10, 11] (by kernel_rfl) ?_
                    simp only [pickOps, List.getElem?_cons_zero, List.getElem?_cons_succ]
                    have hc1 := keep_cell hZ7 c1
                    have hc2 := keep_cell hZ7 c2
                    have hbf := Below_trans' hb hsz hZ7
                    clear c1 c2
                    by_cases hvw : votX l (Y : Int) < votX l (X : Int)
                    · have d1 : decide (votX l (Y : Int) < votX l (X : Int)) = true := by simpa using hvw
                      have d2 : decide ((cx : Int) < (cy : Int)) = false := by have := hlg.1 hvw; simp; omega
                      have d2' : decide (cx < cy) = false := by have := hlg.1 hvw; simp; omega
                      have d3 : (votX l (X : Int) == votX l (Y : Int)) = false := by rw [beq_eq_false_iff_ne]; omega
                      clear hlg hvw
                      cases B with
                      | true =>
                        -- region 18: $0 $1: what is known; then the loop's round
                        go_wp2
                        refine wp_region_more (by kernel_rfl) (by kernel_rfl) ?_
                        repeat (go_big_quiet_step (fail))
                        refine wpQuiet_nil ?_
                        rintro wz ⟨qz, hwz⟩
                        have hbz := below_of_eq hwz
                        clear hwz qz
                        have hbR := Below_trans' hbf hbf.size hbz
                        go_wp2
                        go_roundw
                        case rel => exact ⟨Y + 1, by omega, by go_num, hbR⟩
                        case measure => simp [intOf] <;> omega
                      | false =>
                        -- region 18: $0 $1: what is known; then the loop's round
                        go_wp2
                        refine wp_region_more (by kernel_rfl) (by kernel_rfl) ?_
                        repeat (go_big_quiet_step (fail))
                        refine wpQuiet_nil ?_
                        rintro wz ⟨qz, hwz⟩
                        have hbz := below_of_eq hwz
                        clear hwz qz
                        have hbR := Below_trans' hbf hbf.size hbz
                        go_wp2
                        go_roundw
                        case rel => exact ⟨Y + 1, by omega, by go_num, hbR⟩
                        case measure => simp [intOf] <;> omega
                    · have d1 : decide (votX l (Y : Int) < votX l (X : Int)) = false := by simpa using hvw
                      cases B with
                      | false =>
                        clear hlg hvw
                        -- region 18: $0 $1: what is known; then the loop's round
                        go_wp2
                        refine wp_region_more (by kernel_rfl) (by kernel_rfl) ?_
                        repeat (go_big_quiet_step (fail))
                        refine wpQuiet_nil ?_
                        rintro wz ⟨qz, hwz⟩
                        have hbz := below_of_eq hwz
                        clear hwz qz
                        have hbR := Below_trans' hbf hbf.size hbz
                        go_wp2
                        go_roundw
                        case rel => exact ⟨Y + 1, by omega, by go_num, hbR⟩
                        case measure => simp [intOf] <;> omega
                      | true =>
                        by_cases hq : votX l (X : Int) = votX l (Y : Int)
                        · have d3 : (votX l (X : Int) == votX l (Y : Int)) = true := by rw [beq_iff_eq]; exact hq
                          have d4 : decide ((cy : Int) + 1 < (cx : Int)) = false := by have := hlg.2 (HB.out rfl) hq; simp; omega
                          clear hlg hvw hq
                          -- region 18: $0 $1: what is known; then the loop's round
                          go_wp2
                          refine wp_region_more (by kernel_rfl) (by kernel_rfl) ?_
                          repeat (go_big_quiet_step (fail))
                          refine wpQuiet_nil ?_
                          rintro wz ⟨qz, hwz⟩
                          have hbz := below_of_eq hwz
                          clear hwz qz
                          have hbR := Below_trans' hbf hbf.size hbz
                          go_wp2
                          go_roundw
                          case rel => exact ⟨Y + 1, by omega, by go_num, hbR⟩
                          case measure => simp [intOf] <;> omega
                        · have d3 : (votX l (X : Int) == votX l (Y : Int)) = false := by rw [beq_eq_false_iff_ne]; exact hq
                          clear hlg hvw hq
                          -- region 18: $0 $1: what is known; then the loop's round
                          go_wp2
                          refine wp_region_more (by kernel_rfl) (by kernel_rfl) ?_
                          repeat (go_big_quiet_step (fail))
                          refine wpQuiet_nil ?_
                          rintro wz ⟨qz, hwz⟩
                          have hbz := below_of_eq hwz
                          clear hwz qz
                          have hbR := Below_trans' hbf hbf.size hbz
                          go_wp2
                          go_roundw
                          case rel => exact ⟨Y + 1, by omega, by go_num, hbR⟩
                          case measure => simp [intOf] <;> omega
                  · -- the slice of the party Y at the world w4, below hZ4; leaves w5, hI5
                    have hI5 : RInts (w4.alloc (.cells #[.int .i64 (Y : Int)] 3)) (some ⟨w4.heap.size, 0, none⟩) 1 1 [(Y : Int)] := lit_ints (Has.new _ _ _) (by unfold I64; omega)
                    have hbI5 : Below w4.heap.size w4 (w4.alloc (.cells #[.int .i64 (Y : Int)] 3)) := below_allocN
                    have hZ5 : Below wr.heap.size wr (w4.alloc (.cells #[.int .i64 (Y : Int)] 3)) := Below_trans' hZ4 (hZ4).size hbI5
                    go_wp2
                    generalize World.alloc w4 _ = w5 at hI5 hbI5 hZ5 ⊢
                    refine FlowPost.mk ⟨below_more hZ5, ?_⟩
                    refine flow_one 4 (by kernel_rfl) rfl ?_
                    -- Of for the party X (its slice (hI4.below hbI5) at the world w5, below hZ5); leaves w6
                    go_wp2_with fail
                    refine (rof_any A n cp l _ 1 1 [(X : Int)] w5 (hRr.below hZ5) (hI4.below hbI5)).mono ?_
                    rintro e w6 ⟨rfl, hbJ6⟩
                    rw [cnt_vot Hmk.out.asc]
                    have hZ6 : Below wr.heap.size wr w6 := Below_trans' hZ5 (hZ5).size hbJ6
                    go_wp2
                    refine FlowPost.mk ⟨below_more hZ6, ?_⟩
                    refine flow_one 9 (by kernel_rfl) rfl ?_
                    -- Of for the party Y (its slice (hI5.below hbJ6) at the world w6, below hZ6); leaves w7
                    go_wp2_with fail
                    refine (rof_any A n cp l _ 1 1 [(Y : Int)] w6 (hRr.below hZ6) (hI5.below hbJ6)).mono ?_
                    rintro e w7 ⟨rfl, hbJ7⟩
                    rw [cnt_vot Hmk.out.asc]
                    have hZ7 : Below wr.heap.size wr w7 := Below_trans' hZ6 (hZ6).size hbJ7
                    go_wp2
                    refine FlowPost.mk ⟨below_more hZ7, ?_⟩
                    -- behind region 17, at the world w7 (hZ7)
                    refine flow_rest [10, 11] (by kernel_rfl) ?_
                    simp only [pickOps, List.getElem?_cons_zero, List.getElem?_cons_succ]
                    have hc1 := keep_cell hZ7 c1
                    have hc2 := keep_cell hZ7 c2
                    have hbf := Below_trans' hb hsz hZ7
                    clear c1 c2
                    by_cases hvw : votX l (Y : Int) < votX l (X : Int)
                    · have d1 : decide (votX l (Y : Int) < votX l (X : Int)) = true := by simpa using hvw
                      have d2 : decide ((cx : Int) < (cy : Int)) = false := by have := hlg.1 hvw; simp; omega
                      have d2' : decide (cx < cy) = false := by have := hlg.1 hvw; simp; omega
                      have d3 : (votX l (X : Int) == votX l (Y : Int)) = false := by rw [beq_eq_false_iff_ne]; omega
                      clear hlg hvw
                      cases B with
                      | true =>
                        -- region 18: $0 $1: what is known; then the loop's round
                        go_wp2
                        refine wp_region_more (by kernel_rfl) (by kernel_rfl) ?_
                        repeat (go_big_quiet_step (fail))
                        refine wpQuiet_nil ?_
                        rintro wz ⟨qz, hwz⟩
                        have hbz := below_of_eq hwz
                        clear hwz qz
                        have hbR := Below_trans' hbf hbf.size hbz
                        go_wp2
                        go_roundw
                        case rel => exact ⟨Y + 1, by omega, by go_num, hbR⟩
                        case measure => simp [intOf] <;> omega
                      | false =>
                        -- region 18: $0 $1: what is known; then the loop's round
                        go_wp2
                        refine wp_region_more (by kernel_rfl) (by kernel_rfl) ?_
                        repeat (go_big_quiet_step (fail))
                        refine wpQuiet_nil ?_
                        rintro wz ⟨qz, hwz⟩
                        have hbz := below_of_eq hwz
                        clear hwz qz
                        have hbR := Below_trans' hbf hbf.size hbz
                        go_wp2
                        go_roundw
                        case rel => exact ⟨Y + 1, by omega, by go_num, hbR⟩
                        case measure => simp [intOf] <;> omega
                    · have d1 : decide (votX l (Y : Int) < votX l (X : Int)) = false := by simpa using hvw
                      cases B with
                      | false =>
                        clear hlg hvw
                        -- region 18: $0 $1: what is known; then the loop's round
                        go_wp2
                        refine wp_region_more (by kernel_rfl) (by kernel_rfl) ?_
                        repeat (go_big_quiet_step (fail))
                        refine wpQuiet_nil ?_
                        rintro wz ⟨qz, hwz⟩
                        have hbz := below_of_eq hwz
                        clear hwz qz
                        have hbR := Below_trans' hbf hbf.size hbz
                        go_wp2
                        go_roundw
                        case rel => exact ⟨Y + 1, by omega, by go_num, hbR⟩
                        case measure => simp [intOf] <;> omega
                      | true =>
                        by_cases hq : votX l (X : Int) = votX l (Y : Int)
                        · have d3 : (votX l (X : Int) == votX l (Y : Int)) = true := by rw [beq_iff_eq]; exact hq
                          have d4 : decide ((cy : Int) + 1 < (cx : Int)) = false := by have := hlg.2 (HB.out rfl) hq; simp; omega
                          clear hlg hvw hq
                          -- region 18: $0 $1: what is known; then the loop's round
                          go_wp2
                          refine wp_region_more (by kernel_rfl) (by kernel_rfl) ?_
                          repeat (go_big_quiet_step (fail))
                          refine wpQuiet_nil ?_
                          rintro wz ⟨qz, hwz⟩
                          have hbz := below_of_eq hwz
                          clear hwz qz
                          have hbR := Below_trans' hbf hbf.size hbz
                          go_wp2
                          go_roundw
                          case rel => exact ⟨Y + 1, by omega, by go_num, hbR⟩
                          case measure => simp [intOf] <;> omega
                        · have d3 : (votX l (X : Int) == votX l (Y : Int)) = false := by rw [beq_eq_false_iff_ne]; exact hq
                          clear hlg hvw hq
                          -- region 18: $0 $1: what is known; then the loop's round
                          go_wp2
                          refine wp_region_more (by kernel_rfl) (by kernel_rfl) ?_
                          repeat (go_big_quiet_step (fail))
                          refine wpQuiet_nil ?_
                          rintro wz ⟨qz, hwz⟩
                          have hbz := below_of_eq hwz
                          clear hwz qz
                          have hbR := Below_trans' hbf hbf.size hbz
                          go_wp2
                          go_roundw
                          case rel => exact ⟨Y + 1, by omega, by go_num, hbR⟩
                          case measure => simp [intOf] <;> omega
                · -- the slice of the party Y at once; leaves w4, hI4
                  have hI4 : RInts (wr.alloc (.cells #[.int .i64 (Y : Int)] 3)).drew (some ⟨wr.heap.size, 0, none⟩) 1 1 [(Y : Int)] := lit_ints (Has.new wr 3 #[.int .i64 (Y : Int)]).drew (by unfold I64; omega)
                  have hZ4 : Below wr.heap.size wr (wr.alloc (.cells #[.int .i64 (Y : Int)] 3)).drew := ((Below.refl _ _).alloc (Nat.le_refl _) _).drew
                  go_wp2
                  generalize World.drew _ = w4 at hI4 hZ4 ⊢
                  refine FlowPost.mk ⟨below_more hZ4, ?_⟩
                  refine flow_one 3 (by kernel_rfl) rfl ?_
                  -- the slice of the party X at the world w4, below hZ4; leaves w5, hI5
                  have hI5 : RInts (w4.alloc (.cells #[.int .i64 (X : Int)] 3)) (some ⟨w4.heap.size, 0, none⟩) 1 1 [(X : Int)] := lit_ints (Has.new _ _ _) (by unfold I64; omega)
                  have hbI5 : Below w4.heap.size w4 (w4.alloc (.cells #[.int .i64 (X : Int)] 3)) := below_allocN
                  have hZ5 : Below wr.heap.size wr (w4.alloc (.cells #[.int .i64 (X : Int)] 3)) := Below_trans' hZ4 (hZ4).size hbI5
                  go_wp2
                  generalize World.alloc w4 _ = w5 at hI5 hbI5 hZ5 ⊢
                  refine FlowPost.mk ⟨below_more hZ5, ?_⟩
                  refine flow_one 4 (by kernel_rfl) rfl ?_
                  -- Of for the party X (its slice hI5 at the world w5, below hZ5); leaves w6
                  go_wp2_with fail
                  refine (rof_any A n cp l _ 1 1 [(X : Int)] w5 (hRr.below hZ5) hI5).mono ?_
                  rintro e w6 ⟨rfl, hbJ6⟩
                  rw [cnt_vot Hmk.out.asc]
                  have hZ6 : Below wr.heap.size wr w6 := Below_trans' hZ5 (hZ5).size hbJ6
                  go_wp2
                  refine FlowPost.mk ⟨below_more hZ6, ?_⟩
                  refine flow_one 9 (by kernel_rfl) rfl ?_
                  -- Of for the party Y (its slice ((hI4.below hbI5).below hbJ6) at the world w6, below hZ6); leaves w7
                  go_wp2_with fail
                  refine (rof_any A n cp l _ 1 1 [(Y : Int)] w6 (hRr.below hZ6) ((hI4.below hbI5).below hbJ6)).mono ?_
                  rintro e w7 ⟨rfl, hbJ7⟩
                  rw [cnt_vot Hmk.out.asc]
                  have hZ7 : Below wr.heap.size wr w7 := Below_trans' hZ6 (hZ6).size hbJ7
                  go_wp2
                  refine FlowPost.mk ⟨below_more hZ7, ?_⟩
                  -- behind region 17, at the world w7 (hZ7)
                  refine flow_rest [10, 11] (by kernel_rfl) ?_
                  simp only [pickOps, List.getElem?_cons_zero, List.getElem?_cons_succ]
                  have hc1 := keep_cell hZ7 c1
                  have hc2 := keep_cell hZ7 c2
                  have hbf := Below_trans' hb hsz hZ7
                  clear c1 c2
                  by_cases hvw : votX l (Y : Int) < votX l (X : Int)
                  · have d1 : decide (votX l (Y : Int) < votX l (X : Int)) = true := by simpa using hvw
                    have d2 : decide ((cx : Int) < (cy : Int)) = false := by have := hlg.1 hvw; simp; omega
                    have d2' : decide (cx < cy) = false := by have := hlg.1 hvw; simp; omega
                    have d3 : (votX l (X : Int) == votX l (Y : Int)) = false := by rw [beq_eq_false_iff_ne]; omega
                    clear hlg hvw
                    cases B with
                    | true =>
                      -- region 18: $0 $1: what is known; then the loop's round
                      go_wp2
                      refine wp_region_more (by kernel_rfl) (by kernel_rfl) ?_
                      repeat (go_big_quiet_step (fail))
                      refine wpQuiet_nil ?_
                      rintro wz ⟨qz, hwz⟩
                      have hbz := below_of_eq hwz
                      clear hwz qz
                      have hbR := Below_trans' hbf hbf.size hbz
                      go_wp2
                      go_roundw
                      case rel => exact ⟨Y + 1, by omega, by go_num, hbR⟩
                      case measure => simp [intOf] <;> omega
                    | false =>
                      -- region 18: $0 $1: what is known; then the loop's round
                      go_wp2
                      refine wp_region_more (by kernel_rfl) (by kernel_rfl) ?_
                      repeat (go_big_quiet_step (fail))
                      refine wpQuiet_nil ?_
                      rintro wz ⟨qz, hwz⟩
                      have hbz := below_of_eq hwz
                      clear hwz qz
                      have hbR := Below_trans' hbf hbf.size hbz
                      go_wp2
                      go_roundw
                      case rel => exact ⟨Y + 1, by omega, by go_num, hbR⟩
                      case measure => simp [intOf] <;> omega
                  · have d1 : decide (votX l (Y : Int) < votX l (X : Int)) = false := by simpa using hvw
                    cases B with
                    | false =>
                      clear hlg hvw
                      -- region 18: $0 $1: what is known; then the loop's round
                      go_wp2
                      refine wp_region_more (by kernel_rfl) (by kernel_rfl) ?_
                      repeat (go_big_quiet_step (fail))
                      refine wpQuiet_nil ?_
                      rintro wz ⟨qz, hwz⟩
                      have hbz := below_of_eq hwz
                      clear hwz qz
                      have hbR := Below_trans' hbf hbf.size hbz
                      go_wp2
                      go_roundw
                      case rel => exact ⟨Y + 1, by omega, by go_num, hbR⟩
                      case measure => simp [intOf] <;> omega
                    | true =>
                      by_cases hq : votX l (X : Int) = votX l (Y : Int)
                      · have d3 : (votX l (X : Int) == votX l (Y : Int)) = true := by rw [beq_iff_eq]; exact hq
                        have d4 : decide ((cy : Int) + 1 < (cx : Int)) = false := by have := hlg.2 (HB.out rfl) hq; simp; omega
                        clear hlg hvw hq
                        -- region 18: $0 $1: what is known; then the loop's round
                        go_wp2
                        refine wp_region_more (by kernel_rfl) (by kernel_rfl) ?_
                        repeat (go_big_quiet_step (fail))
                        refine wpQuiet_nil ?_
                        rintro wz ⟨qz, hwz⟩
                        have hbz := below_of_eq hwz
                        clear hwz qz
                        have hbR := Below_trans' hbf hbf.size hbz
                        go_wp2
                        go_roundw
                        case rel => exact ⟨Y + 1, by omega, by go_num, hbR⟩
                        case measure => simp [intOf] <;> omega
                      · have d3 : (votX l (X : Int) == votX l (Y : Int)) = false := by rw [beq_eq_false_iff_ne]; exact hq
                        clear hlg hvw hq
                        -- region 18: $0 $1: what is known; then the loop's round
                        go_wp2
                        refine wp_region_more (by kernel_rfl) (by kernel_rfl) ?_
                        repeat (go_big_quiet_step (fail))
                        refine wpQuiet_nil ?_
                        rintro wz ⟨qz, hwz⟩
                        have hbz := below_of_eq hwz
                        clear hwz qz
                        have hbR := Below_trans' hbf hbf.size hbz
                        go_wp2
                        go_roundw
                        case rel => exact ⟨Y + 1, by omega, by go_num, hbR⟩
                        case measure => simp [intOf] <;> omega
              · obtain rfl : nt = Y := by omega
                go_wp2
                go_roundw
                case rel => exact ⟨X + 1, by omega, by go_num, hb⟩
                case measure => simp [intOf] <;> omega
          · have hbf := Below_trans' hbw3 hbw3.size hb
            go_wp2_with fail
            refine (wakes20_any _).mono ?_
            rintro e w9 ⟨rfl, hb9⟩
            go_wp2
            go_ret
            exact ⟨rfl, Below_trans' hbf (hbf).size hb9⟩
  · have e1 : (mayS c k l 2 nn 10 lot == 0) = false := by simp [hE]
    clear hE
    go_wp2_with fail
    refine (wakes20_any _).mono ?_
    rintro e w9 ⟨rfl, hb9⟩
    go_wp2
    go_ret
    exact ⟨rfl, Below_trans' hbw0 (hbw0).size hb9⟩
end Go.Proofs.Ytiebfalodelclaa
