/-
  The law PairsNames.
-/
import Derived.Test.YtleniljhacnikaaW10o
import Derived.Test.YtleniljhacnikaaSpecN
import Derived.Test.YtleniljhacnikaaMem2
namespace Go.Proofs.Ytleniljhacnikaa
open Go.RowKit Go.Proofs
attribute [local go_sem] cell?_more cell?_alloc_some cell?_setCell_far frozen?_alloc_some frozen?_more
attribute [local go_sem ↓] ldm_fold
attribute [local go_sem] run_LDM run_LDM_more run_LDM_drew

theorem length_winM {m : M} {c : Nat} (h : winErr m c = 0) (_ : c ≤ 10) : (winM m c).length = c := by
  unfold winM; rw [if_pos h]; simp [winsL]

set_option maxRecDepth 100000 in
set_option maxHeartbeats 8000000 in
theorem pairsNames_any (c k : Int) (A : Option Addr) (n cp : Nat) (l : List Row) (A' : Option Addr) (n' c' : Nat) (p : List Int) (w : World) (h : RRows w A n cp l) (h' : RInts w A' n' c' p) :
    Calls Try.prog 12 #[.agg #[.int .i64 c, .int .u8 k, .slice A n cp], .slice A' n' c'] w fun e w' => e = .returned (.bool true) ∧ Below w.heap.size w w' := by
  have hl' := hide h'.len
  have hle := h'.le
  have hS0 := (Hs.nil w).alloc 24 #[.int .i64 c, .int .u8 k, .slice A n cp]
  have hb0 : Below w.heap.size w (w.alloc (.cells #[.int .i64 c, .int .u8 k, .slice A n cp] 24)) := (Below.refl _ _).alloc (Nat.le_refl _) _
  go_enter Try.func12, Try.ntmps12
  go_wp2_with fail
  refine (rcheck_any _ _ A n cp l _ (h.below hb0)).mono ?_
  rintro e w1 ⟨rfl, hbw⟩
  have hS1 := hS0.below hbw
  have hb1 := Below_trans' hb0 hb0.size hbw
  clear hS0 hb0 hbw
  by_cases herr : checkS c k l = 0
  · rw [herr]
    have H1 := hide herr
    clear herr
    go_wp2_with fail
    refine (rturned_any A' n' c' p w1 (h'.below hb1)).mono ?_
    rintro e w2 ⟨rfl, rfl⟩
    cases hp : turnedS p with
    | false =>
      go_wp2_with fail
      refine (wakes_any _).mono ?_
      rintro e w9 ⟨rfl, hbw⟩
      go_wp2
      go_ret
      exact ⟨rfl, Below_trans' hb1 hb1.size hbw⟩
    | true =>
      have Hp := hide hp
      clear hp
      have p0 : w1.cell? ⟨w.heap.size, 0, none⟩ = some (.int .i64 c) := (hS1.1).cell 0
      have p1 : w1.cell? ⟨w.heap.size, 1, none⟩ = some (.int .u8 k) := (hS1.1).cell 1
      have p2 : w1.cell? ⟨w.heap.size, 2, none⟩ = some (.slice A n cp) := (hS1.1).cell 2
      by_cases hnc : (n' : Int) = c
      · subst hnc
        have hN := hide (names_of Hp.out hl'.out)
        have hn10 := hN.out.le
        have hmk := run_make_row' (P := Try.prog) 28 3 (.int .i64 0) 8 Try.underlying28 info3 rfl .i64 .i64 n' (by omega) (by omega)
        have hu2 : Below w1.heap.size w1 (w1.alloc (.cells (madeCells #[.int .i64 0] n') 3)) := (Below.refl _ _).alloc (Nat.le_refl _) _
        have hO2 : Own (w1.alloc (.cells (madeCells #[.int .i64 0] n') 3)) (w.heap.size + 1) (.slice (some ⟨w1.heap.size, 0, none⟩) n' n') (partR 3 (rangeI n') p 0) := by
          rw [partR_zero, length_rangeI]
          unfold Own
          have := World.ownsRow_lit (base := w.heap.size + 1) (e := 3) (size := 1) w1 (madeCells #[.int .i64 0] n') n' (by have := hS1.1.lt; omega) (by unfold maxLen; omega) (by rw [size_madeCells]; simp)
          rw [toList_madeCells_one] at this
          simpa using this
        go_upto_region 5 with fail
        have hS2 := hS1.below hu2
        have hb2 := Below_trans' hb1 hb1.size hu2
        have hga : w.heap.size + 1 ≤ w1.heap.size := hS1.1.lt
        generalize hW : World.alloc _ _ = W2 at hS2 hb2 hO2
        try rw [hW]
        clear hW hu2 hS1 hb1 p0 p1 p2 hmk
        generalize w1.heap.size = ga at hga hO2
        have hpb : Hid (0 < n' → ∃ b off, A' = some ⟨b, off, none⟩ ∧ b < w.heap.size) := fun hn => let ⟨b, off, e, hc⟩ := h'.2.2.2.2 hn; ⟨b, off, e, World.block_lt_of_cell? w _ (hc 0 hn)⟩
        have hp2 := h'.below hb2
        have hQ2 := hS2.1
        go_wp2_with fail
        go_loopw [7] (fun i wr => ∃ (t : Nat), t ≤ n' ∧ i = .int .i64 t ∧ Hid (Own wr (w.heap.size + 1) (.slice (some ⟨ga, 0, none⟩) n' n') (partR 3 (rangeI n') p t)) ∧ Hid (Frame' (fun b => b = ga) W2 wr)) (fun i _ => n' - (intOf i).toNat)
        case atStart => exact ⟨0, Nat.zero_le _, rfl, hO2, Frame'.refl _ _⟩
        case round =>
          obtain ⟨t, ht, rfl, hO, hF⟩ := hrel
          have hpr := hp2.frame hF.out (fun hn => let ⟨b, off, e, hb⟩ := hpb.out hn; ⟨b, off, e, fun e' => absurd (show _ = _ from e') (by omega)⟩)
          by_cases hlt : t < n'
          · obtain ⟨b', off', v0, rfl, hc', hd', hat', hv1, hv2⟩ := hpr.step hlt
            obtain ⟨V, rfl, hVn⟩ : ∃ V : Nat, v0 = V ∧ V < n' := by
              have := hN.out.rng v0 (List.mem_of_getElem? hat'.out)
              exact ⟨v0.toNat, by omega, by omega⟩
            have hyl : Hid ((partR 3 (rangeI n') p t).length = n') := by unfold Hid; rw [length_partR, length_rangeI]
            obtain ⟨u, hu, cu, fu⟩ := hO.out.at hyl.out hVn
            have hnext : Hid (partR 3 (rangeI n') p (t + 1) = (partR 3 (rangeI n') p t).set V (t : Int)) := by
              unfold Hid
              rw [partR_point hN.out.nd (get_rangeI hlt) hat'.out (by omega) (by rw [length_rangeI]; omega), Int.toNat_natCast]
            have b1 : (0 : Int) ≤ (t : Int) := by omega
            have b2 : (t : Int) < (n' : Int) := by omega
            have b3 : (0 : Int) ≤ (V : Int) := by omega
            have b4 : (V : Int) < (n' : Int) := by omega
            have hO7 := Own.set hO.out hyl.out V (t : Int)
            have hF7 := Frame'.setCell (p := ⟨ga, V, none⟩) hF.out (.inl rfl) (.int .i64 (t : Int))
            rw [← hnext.out] at hO7
            clear hpr hO hF hnext
            go_wp2
            go_roundw
            case rel => exact ⟨t + 1, by omega, by go_num, hO7, hF7⟩
            case measure => simp [intOf] <;> omega
          · have htn : t = n' := by omega
            subst htn
            have hOb : Own wr (w.heap.size + 1) (.slice (some ⟨ga, 0, none⟩) t t) (backS p) := by have := hO.out; rwa [back_made Hp.out hl'.out] at this
            have hQ := hF.out.has hQ2 (fun e => absurd (show _ = _ from e) (by omega))
            have hb3 := Frame'.below hb2 hF.out (fun k e => by have e : k = ga := e; omega) hb2.size
            have hbt := hide (back_turned Hp.out hl'.out)
            have hbi := hOb.ints (fun x hx => by
              have := (turned_iff.1 hbt.out.1).2.2 x hx
              omega)
            clear hO hF hpr hQ2 hp2 hb2 hS2 hO2 hlt
            have p0 : wr.cell? ⟨w.heap.size, 0, none⟩ = some (.int .i64 t) := (hQ).cell 0
            have p1 : wr.cell? ⟨w.heap.size, 1, none⟩ = some (.int .u8 k) := (hQ).cell 1
            have p2 : wr.cell? ⟨w.heap.size, 2, none⟩ = some (.slice A n cp) := (hQ).cell 2
            go_wp2_with fail
            refine (prename_any t k A n cp l A' t c' p wr (h.below hb3) (h'.below hb3) H1.out Hp.out rfl).mono ?_
            rintro e w4 ⟨A4, n4, c4, rfl, hO4, hbw⟩
            have hr4 := hO4.rows
            simp only at hr4 ⊢
            have H2 := hide (ren_check hN.out H1.out)
            have HT := hide (ren_there Hp.out hl'.out H1.out)
            have HB := hide (ren_back Hp.out hl'.out H1.out)
            have HW := hide (fun (i j : Nat) (hi : i < t) (hj : j < t) => ren_ofR hN.out H1.out hi hj)
            generalize eachS (fun ms => renS k ms p) l = l' at hr4 H2 HT HB HW
            have hbi4 := hbi.below hbw
            have hS4 : Hs w4 [(w.heap.size, 24, #[.int .i64 (t : Int), .int .u8 k, .slice A n cp])] := ⟨hQ.below hbw hQ.lt, trivial⟩
            have hb4 := Below_trans' hb3 hb3.size hbw
            clear hO4 hbw hQ hb3 hbi hOb p0 p1 p2
            go_upto_region 10 with (fail)
            have hu5 : Below w4.heap.size w4 (w4.alloc (.cells #[.int .i64 (t : Int), .int .u8 k, .slice A4 n4 c4] 24)) := (Below.refl _ _).alloc (Nat.le_refl _) _
            have hS5 := hS4.alloc 24 #[.int .i64 (t : Int), .int .u8 k, .slice A4 n4 c4]
            have hb5 := Below_trans' hb4 hb4.size hu5
            have hr5 := hr4.below hu5
            have hbi5 := hbi4.below hu5
            generalize hW : World.alloc _ _ = W5 at hS5 hb5 hr5 hbi5
            try rw [hW]
            clear hW hu5 hS4 hb4 hr4 hbi4
            generalize w4.heap.size = go at hS5
            have p0 : W5.cell? ⟨w.heap.size, 0, none⟩ = some (.int .i64 t) := (hS5.2.1).cell 0
            have p1 : W5.cell? ⟨w.heap.size, 1, none⟩ = some (.int .u8 k) := (hS5.2.1).cell 1
            have p2 : W5.cell? ⟨w.heap.size, 2, none⟩ = some (.slice A n cp) := (hS5.2.1).cell 2
            go_wp2_with fail
            refine (pof_any _ _ A n cp l _ (h.below hb5)).mono ?_
            rintro e w6 ⟨R1, rfl, hM1, hbw⟩
            rw [H1.out]
            have hr6 := hr5.below hbw
            have hbi6 := hbi5.below hbw
            clear p0 p1 p2 hr5 hbi5
            have hS6 := hS5.below hbw
            have hb6 := Below_trans' hb5 hb5.size hbw
            clear hS5 hb5 hbw
            go_upto_region 11 with (refine stMat rfl rfl rfl rfl (Has.new _ _ _) zeroMat.size hM1.size hM1.one ?_)
            have hS7 := hS6.newRow 27 Try.zeroCells27 R1
            have hb7 := below_newRow hb6 hb6.size (.cells Try.zeroCells27 27) R1
            have hr7 := hr6.below (below_setRow ((Below.refl _ _).alloc (Nat.le_refl _) (.cells Try.zeroCells27 27)) (Nat.le_refl _) R1)
            have hbi7 := hbi6.below (below_setRow ((Below.refl _ _).alloc (Nat.le_refl _) (.cells Try.zeroCells27 27)) (Nat.le_refl _) R1)
            clear hS6 hb6 hr6 hbi6
            generalize hW : World.setRow _ _ _ = W7 at hS7 hb7 hr7 hbi7
            try rw [hW]
            clear hW
            have p0 : W7.cell? ⟨go, 0, none⟩ = some (.int .i64 t) := (hS7.2.1).cell 0
            have p1 : W7.cell? ⟨go, 1, none⟩ = some (.int .u8 k) := (hS7.2.1).cell 1
            have p2 : W7.cell? ⟨go, 2, none⟩ = some (.slice A4 n4 c4) := (hS7.2.1).cell 2
            go_wp2_with fail
            refine (pof_any _ _ A4 n4 c4 l' _ hr7).mono ?_
            rintro e w8 ⟨R2, rfl, hM2, hbw⟩
            rw [H2.out]
            have hbi8 := hbi7.below hbw
            clear p0 p1 p2 hr7 hbi7
            have hS8 := hS7.below hbw
            have hb8 := Below_trans' hb7 hb7.size hbw
            clear hS7 hb7 hbw
            go_upto_region 12 with (refine stMat rfl rfl rfl rfl (Has.new _ _ _) zeroMat.size hM2.size hM2.one ?_)
            have hS9 := hS8.newRow 27 Try.zeroCells27 R2
            have hb9 := below_newRow hb8 hb8.size (.cells Try.zeroCells27 27) R2
            have hbi9 := hbi8.below (below_setRow ((Below.refl _ _).alloc (Nat.le_refl _) (.cells Try.zeroCells27 27)) (Nat.le_refl _) R2)
            clear hS8 hb8 hbi8
            generalize hW : World.setRow _ _ _ = W9 at hS9 hb9 hbi9
            try rw [hW]
            clear hW
            generalize w6.heap.size = g1 at hS9
            generalize w8.heap.size = g2 at hS9
            have gda := good_of hS9.2.1 hM1.size
            have gca := cells_eq hS9.2.1
            go_wp2_with fail
            clear gda gca
            refine (rename_any R1 _ hM1 A' t c' p _ (h'.below hb9)).mono ?_
            rintro e w10 ⟨R3, rfl, hM3, hbw⟩
            rw [HT.out.1]
            obtain rfl : R3 = R2 := hM3.unique hM2 (fun x y _ _ => HT.out.2 x y)
            clear hM3
            have hbi10 := hbi9.below hbw
            clear hbi9
            have hS10 := hS9.below hbw
            have hb10 := Below_trans' hb9 hb9.size hbw
            clear hS9 hb9 hbw
            go_upto_region 13 with (refine stMat rfl rfl rfl rfl (Has.new _ _ _) zeroMat.size hM2.size hM2.one ?_)
            have hS11 := hS10.newRow 27 Try.zeroCells27 R3
            have hb11 := below_newRow hb10 hb10.size (.cells Try.zeroCells27 27) R3
            have hbi11 := hbi10.below (below_setRow ((Below.refl _ _).alloc (Nat.le_refl _) (.cells Try.zeroCells27 27)) (Nat.le_refl _) R3)
            clear hS10 hb10 hbi10
            generalize hW : World.setRow _ _ _ = W11 at hS11 hb11 hbi11
            try rw [hW]
            clear hW
            generalize w10.heap.size = g3 at hS11
            have gda := good_of hS11.1 hM2.size
            have gca := cells_eq hS11.1
            go_wp2_with fail
            clear gda gca
            refine (rename_any R3 _ hM2 (some ⟨ga, 0, none⟩) t t (backS p) _ hbi11).mono ?_
            rintro e w12 ⟨R4, rfl, hM4, hbw⟩
            rw [HB.out.1]
            obtain rfl : R4 = R1 := hM4.unique hM1 (fun x y _ _ => HB.out.2 x y)
            clear hM4 hbi11
            have hS12 := hS11.below hbw
            have hb12 := Below_trans' hb11 hb11.size hbw
            clear hS11 hb11 hbw
            go_upto_region 14 with (refine stMat rfl rfl rfl rfl (Has.new _ _ _) zeroMat.size hM1.size hM1.one ?_)
            have hS13 := hS12.newRow 27 Try.zeroCells27 R4
            have hb13 := below_newRow hb12 hb12.size (.cells Try.zeroCells27 27) R4
            clear hS12 hb12
            generalize hW : World.setRow _ _ _ = W13 at hS13 hb13
            try rw [hW]
            clear hW
            generalize w12.heap.size = g4 at hS13
            have hr1 := hide (ofR_right H1.out (Int.le_refl _) (by omega : (t : Int) ≤ 10))
            have hr2 := hide (ofR_right H2.out (Int.le_refl _) (by omega : (t : Int) ≤ 10))
            have hw1 : Hid (winErr (ofR t k l) t = 0) := by have := hN.out.one; unfold Hid winErr; rw [if_pos (by omega), if_pos hr1.out]
            have hw2 : Hid (winErr (ofR t k l') t = 0) := by have := hN.out.one; unfold Hid winErr; rw [if_pos (by omega), if_pos hr2.out]
            have gda := good_of hS13.2.2.2.1 hM1.size
            have gca := cells_eq hS13.2.2.2.1
            go_wp2_with fail
            clear gda gca
            refine (wins_any R4 _ hM1 t _).mono ?_
            rintro e w14 ⟨A7, n7, c7, rfl, hi7, hbw⟩
            rw [hw1.out]
            have hS14 := hS13.below hbw
            have hb14 := Below_trans' hb13 hb13.size hbw
            clear hS13 hb13 hbw
            go_upto_region 15 with (fail)
            have gda := good_of hS14.2.2.1 hM2.size
            have gca := cells_eq hS14.2.2.1
            go_wp2_with fail
            clear gda gca
            refine (wins_any R3 _ hM2 t _).mono ?_
            rintro e w15 ⟨A8, n8, c8, rfl, hi8, hbw⟩
            rw [hw2.out]
            have hi9 := hi7.below hbw
            have hS15 := hS14.below hbw
            have hb15 := Below_trans' hb14 hb14.size hbw
            clear hS14 hb14 hbw
            go_upto_region 16 with (fail)
            obtain rfl : n7 = t := by rw [← hi9.len]; exact length_winM hw1.out (by omega)
            obtain rfl : n8 = n7 := by rw [← hi8.len]; exact length_winM hw2.out (by omega)
            have he : ∀ {m : M} {R : Array Value}, Mat R m → ∀ w : World, (Op.equalIn 10000 27 (.agg R) (.agg R)).run Try.prog w = .ok true w := fun h w => by rw [eqMat h h w, matEq_self]
            have e1 := he hM1
            have e2 := he hM2
            clear he
            have hgd := eqGuardMat
            obtain ⟨hq4, hq3, hq2, hq1, -, -⟩ := hS15
            have gd1 := good_of hq1 hM1.size
            have gc1 := cells_eq hq1
            have gd2 := good_of hq2 hM2.size
            have gc2 := cells_eq hq2
            have gd3 := good_of hq3 hM2.size
            have gc3 := cells_eq hq3
            have gd4 := good_of hq4 hM1.size
            have gc4 := cells_eq hq4
            go_upto_region 18 with (fail)
            clear gd1 gc1 gd2 gc2 gd3 gc3 gd4 gc4 e1 e2 hgd hq4 hq3 hq2 hq1 hi7
            have hn1 := hN.out.one
            have hgw := hide (fun (i : Nat) (hi : i < n8) => wins_at (m := ofR n8 k l) (m' := ofR n8 k l') Hp.out hl'.out HW.out hi)
            go_wp2_with fail
            go_loopw [22] (fun i wr => ∃ t : Nat, t ≤ n8 ∧ i = .int .i64 t ∧ Below w15.heap.size w15 wr) (fun i _ => n8 - (intOf i).toNat)
            case atStart => exact ⟨0, Nat.zero_le _, rfl, Below.refl _ _⟩
            case round =>
              obtain ⟨t, ht, rfl, hbr⟩ := hrel
              have hbt := Below_trans' hb15 hb15.size hbr
              by_cases hlt : t < n8
              · obtain ⟨b', off', v0, rfl, hc', hd', hat', hv1, hv2⟩ := (h'.below hbt).step hlt
                obtain ⟨V, rfl, hVn⟩ : ∃ V : Nat, v0 = V ∧ V < n8 := by
                  have := hN.out.rng v0 (List.mem_of_getElem? hat'.out)
                  exact ⟨v0.toNat, by omega, by omega⟩
                obtain ⟨b2, off2, x8, rfl, hc8, -, hat8, -, -⟩ := (hi8.below hbr).step hVn
                obtain ⟨b3, off3, x9, rfl, hc9, -, hat9, -, -⟩ := (hi9.below hbr).step hlt
                have hx : x8 = x9 := by
                  have a8 := hat8.out
                  have a9 := hat9.out
                  rw [winM_get ⟨hn1, hn10⟩ hr2.out hVn] at a8
                  rw [winM_get ⟨hn1, hn10⟩ hr1.out hlt] at a9
                  have hv : nameS p t = (V : Int) := by
                    have := hN.out.get hlt
                    rw [hat'.out] at this
                    exact (Option.some.inj this).symm
                  have := hgw.out t hlt
                  rw [hv, Int.toNat_natCast] at this
                  rw [← Option.some.inj a8, ← Option.some.inj a9, this]
                subst hx
                have c1 : (0 : Int) ≤ (t : Int) := by omega
                have c2 : (t : Int) < (n8 : Int) := by omega
                have c3 : (0 : Int) ≤ (V : Int) := by omega
                have c4 : (V : Int) < (n8 : Int) := by omega
                go_upto_region 21 with (fail)
                refine wp_region_more (by kernel_rfl) (by kernel_rfl) ?_
                repeat (go_big_quiet_step (fail))
                refine wpQuiet_nil ?_
                rintro w20 ⟨qw20, hww20⟩
                have hbw20 := below_of_eq hww20
                clear hww20 qw20
                go_wp2
                go_roundw
                case rel => exact ⟨t + 1, by omega, by go_num, Below_trans' hbr hbr.size hbw20⟩
                case measure => simp [intOf] <;> omega
              · have c2 : ¬ (t : Int) < (n8 : Int) := by omega
                clear hlt
                go_wp2_with fail
                refine (wakes_any _).mono ?_
                rintro e w9 ⟨rfl, hbw⟩
                go_wp2
                go_ret
                exact ⟨rfl, Below_trans' hbt hbt.size hbw⟩
      · have hnc' : ((n' : Int) != c) = true := by simp [hnc]
        have Hnc := hide hnc
        clear hnc
        go_wp2_with fail
        refine (wakes_any _).mono ?_
        rintro e w9 ⟨rfl, hbw⟩
        go_wp2
        go_ret
        exact ⟨rfl, Below_trans' hb1 hb1.size hbw⟩
  · have hne : (checkS c k l != 0) = true := by rw [bne_iff_ne]; exact herr
    clear herr
    go_wp2_with fail
    refine (wakes_any _).mono ?_
    rintro e w9 ⟨rfl, hbw⟩
    go_wp2
    go_ret
    exact ⟨rfl, Below_trans' hb1 hb1.size hbw⟩
end Go.Proofs.Ytleniljhacnikaa
