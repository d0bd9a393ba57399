/-
  The law RankedTells.
-/
import Derived.Test.YtolbceckbnifmaaGreatW14q
import Derived.Test.YtolbceckbnifmaaGreatW11t
namespace Go.Proofs.YtolbceckbnifmaaGreat
open Go.RowKit Go.Proofs Go.Shelf
attribute [local go_sem] cell?_more cell?_alloc_some cell?_setCell_far frozen?_alloc_some frozen?_more
set_option maxRecDepth 100000 in
set_option maxHeartbeats 4000000 in
theorem rankedTells_any (D : Array Value) (m : M) (hD : Mat D m) (cands : Int) (c k : Int) (A : Option Addr) (n cp : Nat) (l : List Row) (seats : Int) (At : Option Addr) (nt ct : Nat) (lot : List Int) (w : World) (h : RRows w A n cp l) (hl : RInts w At nt ct lot) :
    Calls Tryz.prog 3 #[.agg D, .int .i64 cands, .agg #[.int .i64 c, .int .u8 k, .slice A n cp], .int .i64 seats, .slice At nt ct] w fun e w' => e = .returned (.bool true) ∧ Below w.heap.size w w' := by
  have hDs := hD.size
  have hb : Below w.heap.size w ((w.alloc (.cells D 24)).alloc (.cells #[.int .i64 c, .int .u8 k, .slice A n cp] 27)) := ((Below.refl _ _).alloc (Nat.le_refl _) _).alloc (by simp) _
  have hMm : Has ((w.alloc (.cells D 24)).alloc (.cells #[.int .i64 c, .int .u8 k, .slice A n cp] 27)) w.heap.size 24 D := (Has.new _ _ _).alloc _
  have hP : Has ((w.alloc (.cells D 24)).alloc (.cells #[.int .i64 c, .int .u8 k, .slice A n cp] 27)) (w.heap.size + 1) 27 #[.int .i64 c, .int .u8 k, .slice A n cp] := Has.new2 _ _ _ _
  go_enter Tryz.func3, Tryz.ntmps3
  go_upto_region 1 with fail
  generalize World.alloc (World.alloc w _) _ = W0 at hb hMm hP ⊢
  have p0 := hP.cell 0
  have p1 := hP.cell 1
  have p2 := hP.cell 2
  go_wp2_with fail
  refine (great11_any c k A n cp l At nt ct lot W0 (h.below hb) (hl.below hb)).mono ?_
  rintro e z0 ⟨rfl, hbz0⟩
  have hbw0 := Below_trans' hb hb.size hbz0
  replace hP := hP.below hbz0 hP.lt
  replace hMm := hMm.below hbz0 hMm.lt
  clear p0 p1 p2
  cases hg : great11 l lot with
  | true =>
    clear hg
    go_wp2_with fail
    refine (wakes14_any _).mono ?_
    rintro e w9 ⟨rfl, hb9⟩
    go_wp2
    go_ret
    exact ⟨rfl, Below_trans' hbw0 (hbw0).size hb9⟩
  | false =>
    have hg1 : greatS l = false ∧ lot.length ≤ 60 := by
      unfold great11 at hg
      rw [Bool.or_eq_false_iff, decide_eq_false_iff_not] at hg
      exact ⟨hg.1, by omega⟩
    have G1 := great_no hg1.1
    have hn9 : n ≤ 1000 := by have := h.len; omega
    have hnt : nt ≤ 60 := by have := hl.len; omega
    have hlt := hg1.2
    have M1 := hide (show ∀ r ∈ l, r.1.length ≤ 1000 from fun r hr => by have := G1.2 r hr; omega)
    have hz := h.below hbw0
    have hlz := hl.below hbw0
    have hbnd := hide (fun x (hx : x ∈ lot) => hl.bd hx)
    clear hg hg1 G1
    have cp_0 := hP.cell 0
    have cp_1 := hP.cell 1
    have cp_2 := hP.cell 2
    go_wp2_with fail
    refine (rtwin_any c k A n cp l z0 hz hn9 M1.out).mono ?_
    rintro e z1 ⟨vw, rfl, hOw, hb0⟩
    clear cp_0 cp_1 cp_2
    obtain ⟨Aw, nw, cw, rfl⟩ := orows_slice hOw
    have hba : Below z1.heap.size z1 (z1.alloc (.cells #[] 3)) := below_allocN
    obtain ⟨vo, zz, h41, h42, h43, h44⟩ := run_appInts (z1.alloc (.cells #[] 3)) 28 (Own.litK z1 z1.heap.size (Nat.le_refl _)) ((hlz.below hb0).below hba) (by simp; omega) hba.size
    rw [List.nil_append] at h42
    have hb1 : Below z1.heap.size z1 zz := hba.grown h43 hba.size (fun j hj => by cases hj; exact Nat.le_refl _)
    obtain ⟨Ao, co, rfl⟩ := h42.slice
    have hro := h42.ints hbnd.out
    generalize lot.length = no at h41 h42 hro ⊢
    clear h44 h42
    go_upto_region 4 with (at_builtin; refine list_app rfl rfl rfl rfl h41 ?_)
    clear h41 h43 hba
    have hb2 : Below zz.heap.size zz (zz.alloc (.cells #[.int .i64 c, .int .u8 k, .slice Aw nw cw] 27)) := below_allocN
    have hwas := Has.new zz 27 #[.int .i64 c, .int .u8 k, .slice Aw nw cw]
    generalize World.alloc zz _ = z3 at hb2 hwas ⊢
    have hB1_3 := Below_trans' hb1 hb1.size hb2
    have hB0_3 := Below_trans' hb0 hb0.size hB1_3
    have ldm := (hMm.below hB0_3 hMm.lt)
    go_wp2_with (refine ldMat rfl rfl rfl ldm hDs ?_)
    clear ldm
    refine (order_any D m hD cands At nt ct lot z3 (hlz.below hB0_3) (by omega)).mono ?_
    rintro e z4 ⟨vA, rfl, hvA, hb3⟩
    obtain ⟨AA, cA, rfl⟩ := hvA.slice
    have rA : RAgg ELnk 4 z4 AA _ cA (ordV m cands lot) := hvA.reads
    clear hvA
    go_upto_region 5 with fail
    have hB2_4 := Below_trans' hb2 hb2.size hb3
    have hB1_4 := Below_trans' hb1 hb1.size hB2_4
    have hB0_4 := Below_trans' hb0 hb0.size hB1_4
    have ldm := (hMm.below hB0_4 hMm.lt)
    go_wp2_with (refine ldMat rfl rfl rfl ldm hDs ?_)
    clear ldm
    refine (rorder_any D m hD cands At nt ct lot z4 (hlz.below hB0_4)).mono ?_
    rintro e z5 ⟨vB, rfl, hvB, hb4⟩
    obtain ⟨AB, cB, rfl⟩ := hvB.slice
    have rB : RAgg ELnk 4 z5 AB _ cB (ordV m cands lot) := hvB.reads
    clear hvB
    go_upto_region 6 with fail
    have hB3_5 := Below_trans' hb3 hb3.size hb4
    have hB2_5 := Below_trans' hb2 hb2.size hB3_5
    have hB1_5 := Below_trans' hb1 hb1.size hB2_5
    have hB0_5 := Below_trans' hb0 hb0.size hB1_5
    have ldm := (hMm.below hB0_5 hMm.lt)
    go_wp2_with (refine ldMat rfl rfl rfl ldm hDs ?_)
    clear ldm
    refine (lock_any D m hD cands At nt ct lot z5 (hlz.below hB0_5) (by omega)).mono ?_
    rintro e z6 ⟨vC, rfl, hvC, hb5⟩
    obtain ⟨AC, cC, rfl⟩ := hvC.slice
    have rC : RAgg ELnk 4 z6 AC _ cC (lockV m cands lot) := hvC.reads
    clear hvC
    go_upto_region 7 with fail
    have hB4_6 := Below_trans' hb4 hb4.size hb5
    have hB3_6 := Below_trans' hb3 hb3.size hB4_6
    have hB2_6 := Below_trans' hb2 hb2.size hB3_6
    have hB1_6 := Below_trans' hb1 hb1.size hB2_6
    have hB0_6 := Below_trans' hb0 hb0.size hB1_6
    have ldm := (hMm.below hB0_6 hMm.lt)
    go_wp2_with (refine ldMat rfl rfl rfl ldm hDs ?_)
    clear ldm
    refine (rlock_any D m hD cands At nt ct lot z6 (hlz.below hB0_6)).mono ?_
    rintro e z7 ⟨vD, rfl, hvD, hb6⟩
    obtain ⟨AD, cD, rfl⟩ := hvD.slice
    have rD : RAgg ELnk 4 z7 AD _ cD (lockV m cands lot) := hvD.reads
    clear hvD
    go_upto_region 8 with fail
    have hB5_7 := Below_trans' hb5 hb5.size hb6
    have hB4_7 := Below_trans' hb4 hb4.size hB5_7
    have hB3_7 := Below_trans' hb3 hb3.size hB4_7
    have hB2_7 := Below_trans' hb2 hb2.size hB3_7
    have hB1_7 := Below_trans' hb1 hb1.size hB2_7
    have hB0_7 := Below_trans' hb0 hb0.size hB1_7
    have cp_0 := (hP.below hB0_7 hP.lt).cell 0
    have cp_1 := (hP.below hB0_7 hP.lt).cell 1
    have cp_2 := (hP.below hB0_7 hP.lt).cell 2
    go_wp2_with fail
    refine (ranked_any c k A n cp l seats At nt ct lot z7 (hz.below hB0_7) (hlz.below hB0_7) (by omega)).mono ?_
    rintro e z8 ⟨E1, ne1, ce1, R1, nr1, cr1, V1, nv1, cv1, rfl, hO1, hb7⟩
    clear cp_0 cp_1 cp_2
    go_upto_region 9 with fail
    have hb8 : Below z8.heap.size z8 (z8.alloc (.cells #[.slice E1 ne1 ce1, .slice R1 nr1 cr1, .slice V1 nv1 cv1] 39)) := below_allocN
    have ho1 := Has.new z8 39 #[.slice E1 ne1 ce1, .slice R1 nr1 cr1, .slice V1 nv1 cv1]
    generalize World.alloc z8 _ = z9 at hb8 ho1 ⊢
    have go1 : z8.heap.size < z9.heap.size := ho1.lt
    have hB7_9 := Below_trans' hb7 hb7.size hb8
    have hB6_9 := Below_trans' hb6 hb6.size hB7_9
    have hB5_9 := Below_trans' hb5 hb5.size hB6_9
    have hB4_9 := Below_trans' hb4 hb4.size hB5_9
    have hB3_9 := Below_trans' hb3 hb3.size hB4_9
    have hB2_9 := Below_trans' hb2 hb2.size hB3_9
    have hB1_9 := Below_trans' hb1 hb1.size hB2_9
    have hB0_9 := Below_trans' hb0 hb0.size hB1_9
    have cp_0 := (hP.below hB0_9 hP.lt).cell 0
    have cp_1 := (hP.below hB0_9 hP.lt).cell 1
    have cp_2 := (hP.below hB0_9 hP.lt).cell 2
    go_wp2_with fail
    refine (rranked_any c k A n cp l seats At nt ct lot z9 (hz.below hB0_9) (hlz.below hB0_9)).mono ?_
    rintro e z10 ⟨E2, ne2, ce2, R2, nr2, cr2, V2, nv2, cv2, rfl, hO2, hb9⟩
    clear cp_0 cp_1 cp_2
    go_upto_region 10 with fail
    have hb10 : Below z10.heap.size z10 (z10.alloc (.cells #[.slice E2 ne2 ce2, .slice R2 nr2 cr2, .slice V2 nv2 cv2] 39)) := below_allocN
    have ho2 := Has.new z10 39 #[.slice E2 ne2 ce2, .slice R2 nr2 cr2, .slice V2 nv2 cv2]
    generalize World.alloc z10 _ = z11 at hb10 ho2 ⊢
    have go2 : z10.heap.size < z11.heap.size := ho2.lt
    have e1 : (mayS c k l 1 seats 1 lot == mayS c k l 1 seats 1 lot) = true := by simp
    have e2 : (ordErr m cands lot == ordErr m cands lot) = true := by simp
    generalize ordErr m cands lot = er at *
    go_wp2_with fail
    have hB9_11 := Below_trans' hb9 hb9.size hb10
    have hB8_11 := Below_trans' hb8 hb8.size hB9_11
    have hB7_11 := Below_trans' hb7 hb7.size hB8_11
    have hB6_11 := Below_trans' hb6 hb6.size hB7_11
    have hB5_11 := Below_trans' hb5 hb5.size hB6_11
    have hB4_11 := Below_trans' hb4 hb4.size hB5_11
    refine (same14_eq AA AB _ cA _ cB _ z11 (rA.below below_lnk hB4_11) (rB.below below_lnk hB5_11)).mono ?_
    rintro e z12 ⟨rfl, hb11⟩
    go_wp2_with fail
    have hB10_12 := Below_trans' hb10 hb10.size hb11
    have hB9_12 := Below_trans' hb9 hb9.size hB10_12
    have hB8_12 := Below_trans' hb8 hb8.size hB9_12
    have hB7_12 := Below_trans' hb7 hb7.size hB8_12
    have hB6_12 := Below_trans' hb6 hb6.size hB7_12
    refine (same14_eq AC AD _ cC _ cD _ z12 (rC.below below_lnk hB6_12) (rD.below below_lnk hB7_12)).mono ?_
    rintro e z13 ⟨rfl, hb12⟩
    have hB11_13 := Below_trans' hb11 hb11.size hb12
    have hB10_13 := Below_trans' hb10 hb10.size hB11_13
    have hB9_13 := Below_trans' hb9 hb9.size hB10_13
    have co1_0 := (ho1.below hB9_13 ho1.lt).cell 0
    have co1_1 := (ho1.below hB9_13 ho1.lt).cell 1
    have co1_2 := (ho1.below hB9_13 ho1.lt).cell 2
    have co2_0 := (ho2.below hB11_13 ho2.lt).cell 0
    have co2_1 := (ho2.below hB11_13 ho2.lt).cell 1
    have co2_2 := (ho2.below hB11_13 ho2.lt).cell 2
    go_wp2_with fail
    have hB8_13 := Below_trans' hb8 hb8.size hB9_13
    refine (same_eq _ _ _ _ _ _ _ _ _ _ _ _ _ _ _ _ _ _ _ z13 (hO1.below hB8_13) (hO2.below hB10_13)).mono ?_
    rintro e z14 ⟨rfl, hb13⟩
    clear co1_0 co1_1 co1_2 co2_0 co2_1 co2_2
    have hB12_14 := Below_trans' hb12 hb12.size hb13
    have hB11_14 := Below_trans' hb11 hb11.size hB12_14
    have hB10_14 := Below_trans' hb10 hb10.size hB11_14
    have hB9_14 := Below_trans' hb9 hb9.size hB10_14
    have hB8_14 := Below_trans' hb8 hb8.size hB9_14
    have hB7_14 := Below_trans' hb7 hb7.size hB8_14
    have hB6_14 := Below_trans' hb6 hb6.size hB7_14
    have hB5_14 := Below_trans' hb5 hb5.size hB6_14
    have hB4_14 := Below_trans' hb4 hb4.size hB5_14
    have hB3_14 := Below_trans' hb3 hb3.size hB4_14
    have hB2_14 := Below_trans' hb2 hb2.size hB3_14
    have hB1_14 := Below_trans' hb1 hb1.size hB2_14
    have hB0_14 := Below_trans' hb0 hb0.size hB1_14
    have cp_0 := (hP.below hB0_14 hP.lt).cell 0
    have cp_1 := (hP.below hB0_14 hP.lt).cell 1
    have cp_2 := (hP.below hB0_14 hP.lt).cell 2
    have cwas_0 := (hwas.below hB3_14 hwas.lt).cell 0
    have cwas_1 := (hwas.below hB3_14 hwas.lt).cell 1
    have cwas_2 := (hwas.below hB3_14 hwas.lt).cell 2
    go_wp2_with fail
    have q3 := rsame_any c k A n cp l c k Aw nw cw l z14 (hz.below hB0_14) (hOw.rows.below hB1_14)
    rw [sameB_self] at q3
    refine (q3).mono ?_
    rintro e z15 ⟨rfl, hb14⟩
    clear cp_0 cp_1 cp_2 cwas_0 cwas_1 cwas_2
    go_wp2_with fail
    have hB13_15 := Below_trans' hb13 hb13.size hb14
    have hB12_15 := Below_trans' hb12 hb12.size hB13_15
    have hB11_15 := Below_trans' hb11 hb11.size hB12_15
    have hB10_15 := Below_trans' hb10 hb10.size hB11_15
    have hB9_15 := Below_trans' hb9 hb9.size hB10_15
    have hB8_15 := Below_trans' hb8 hb8.size hB9_15
    have hB7_15 := Below_trans' hb7 hb7.size hB8_15
    have hB6_15 := Below_trans' hb6 hb6.size hB7_15
    have hB5_15 := Below_trans' hb5 hb5.size hB6_15
    have hB4_15 := Below_trans' hb4 hb4.size hB5_15
    have hB3_15 := Below_trans' hb3 hb3.size hB4_15
    have hB2_15 := Below_trans' hb2 hb2.size hB3_15
    have hB1_15 := Below_trans' hb1 hb1.size hB2_15
    have hB0_15 := Below_trans' hb0 hb0.size hB1_15
    refine (ints_eq _ _ _ _ _ _ _ z15 (hlz.below hB0_15) (hro.below hB2_15)).mono ?_
    rintro e z16 ⟨rfl, hb15⟩
    have hB14_16 := Below_trans' hb14 hb14.size hb15
    have hB13_16 := Below_trans' hb13 hb13.size hB14_16
    have hB12_16 := Below_trans' hb12 hb12.size hB13_16
    have hB11_16 := Below_trans' hb11 hb11.size hB12_16
    have hB10_16 := Below_trans' hb10 hb10.size hB11_16
    have hB9_16 := Below_trans' hb9 hb9.size hB10_16
    have hB8_16 := Below_trans' hb8 hb8.size hB9_16
    have hB7_16 := Below_trans' hb7 hb7.size hB8_16
    have hB6_16 := Below_trans' hb6 hb6.size hB7_16
    have hB5_16 := Below_trans' hb5 hb5.size hB6_16
    have hB4_16 := Below_trans' hb4 hb4.size hB5_16
    have hB3_16 := Below_trans' hb3 hb3.size hB4_16
    have hB2_16 := Below_trans' hb2 hb2.size hB3_16
    have hB1_16 := Below_trans' hb1 hb1.size hB2_16
    have hB0_16 := Below_trans' hb0 hb0.size hB1_16
    have hbz := hB0_16
    have hbf := Below_trans' hbw0 hbw0.size hbz
    go_wp2_with fail
    refine (wakes14_any _).mono ?_
    rintro e w9 ⟨rfl, hb9⟩
    go_wp2
    go_ret
    exact ⟨rfl, Below_trans' hbf (hbf).size hb9⟩
end Go.Proofs.YtolbceckbnifmaaGreat
