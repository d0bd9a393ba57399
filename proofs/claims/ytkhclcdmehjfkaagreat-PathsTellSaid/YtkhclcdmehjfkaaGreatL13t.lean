/-
  The law PathsTell.
-/
import Derived.Test.YtkhclcdmehjfkaaGreatW13g
import Derived.Test.YtkhclcdmehjfkaaGreatW13f
import Derived.Test.YtkhclcdmehjfkaaGreatW11t
namespace Go.Proofs.YtkhclcdmehjfkaaGreat
open Go.RowKit Go.Proofs Go.Shelf
attribute [local go_sem] cell?_more cell?_alloc_some cell?_setCell_far frozen?_alloc_some frozen?_more
attribute [local go_sem ↓] ldm_fold
attribute [local go_sem] run_LDM run_LDM_more run_LDM_drew
set_option maxRecDepth 100000 in
set_option maxHeartbeats 4000000 in
theorem pathsTell_any (D : Array Value) (m : M) (hD : Mat D m) (cands : Int) (Ap : Option Addr) (np cpp : Nat) (path : List Int) (c k : Int) (A : Option Addr) (n cp : Nat) (l : List Row) (seats : Int) (At : Option Addr) (nt ct : Nat) (lot : List Int) (w : World) (h : RRows w A n cp l) (hl : RInts w At nt ct lot) (hp : RInts w Ap np cpp path) :
    Calls Tryz.prog 3 #[.agg D, .int .i64 cands, .slice Ap np cpp, .agg #[.int .i64 c, .int .u8 k, .slice A n cp], .int .i64 seats, .slice At nt ct] w fun e w' => e = .returned (.bool true) ∧ Below w.heap.size w w' := by
  have hDs := hD.size
  have hb : Below w.heap.size w ((w.alloc (.cells D 24)).alloc (.cells #[.int .i64 c, .int .u8 k, .slice A n cp] 28)) := ((Below.refl _ _).alloc (Nat.le_refl _) _).alloc (by simp) _
  have hMm : Has ((w.alloc (.cells D 24)).alloc (.cells #[.int .i64 c, .int .u8 k, .slice A n cp] 28)) w.heap.size 24 D := (Has.new _ _ _).alloc _
  have hP : Has ((w.alloc (.cells D 24)).alloc (.cells #[.int .i64 c, .int .u8 k, .slice A n cp] 28)) (w.heap.size + 1) 28 #[.int .i64 c, .int .u8 k, .slice A n cp] := Has.new2 _ _ _ _
  go_enter Tryz.func3, Tryz.ntmps3
  go_upto_region 1 with fail
  generalize World.alloc (World.alloc w _) _ = W0 at hb hMm hP ⊢
  have p0 := hP.cell 0
  have p1 := hP.cell 1
  have p2 := hP.cell 2
  go_wp2_with fail
  refine (great11_any c k A n cp l At nt ct lot W0 (h.below hb) (hl.below hb)).mono ?_
  rintro e z0 ⟨rfl, hbz0⟩
  have hbw0 := Below_trans' hb hb.size hbz0
  replace hP := hP.below hbz0 hP.lt
  replace hMm := hMm.below hbz0 hMm.lt
  clear p0 p1 p2
  cases hg : great11 l lot with
  | true =>
    clear hg
    go_wp2_with fail
    refine (wakes13_any _).mono ?_
    rintro e w9 ⟨rfl, hb9⟩
    go_wp2
    go_ret
    exact ⟨rfl, Below_trans' hbw0 (hbw0).size hb9⟩
  | false =>
    by_cases h6 : (60 : Int) < (np : Int)
    · clear hg
      go_wp2_with fail
      refine (wakes13_any _).mono ?_
      rintro e w9 ⟨rfl, hb9⟩
      go_wp2
      go_ret
      exact ⟨rfl, Below_trans' hbw0 (hbw0).size hb9⟩
    · have hg1 : greatS l = false ∧ lot.length ≤ 60 := by
        unfold great11 at hg
        rw [Bool.or_eq_false_iff, decide_eq_false_iff_not] at hg
        exact ⟨hg.1, by omega⟩
      have G1 := great_no hg1.1
      have hn9 : n ≤ 1000 := by have := h.len; omega
      have hnt : nt ≤ 60 := by have := hl.len; omega
      have hlt := hg1.2
      have M1 := hide (show ∀ r ∈ l, r.1.length ≤ 1000 from fun r hr => by have := G1.2 r hr; omega)
      have hz := h.below hbw0
      have hlz := hl.below hbw0
      have hpz := hp.below hbw0
      have hbnd := hide (fun x (hx : x ∈ lot) => hl.bd hx)
      clear hg hg1 G1
      have cp_0 := hP.cell 0
      have cp_1 := hP.cell 1
      have cp_2 := hP.cell 2
      go_wp2_with fail
      refine (rtwin_any c k A n cp l z0 hz hn9 M1.out).mono ?_
      rintro e z1 ⟨vw, rfl, hOw, hb0⟩
      clear cp_0 cp_1 cp_2
      obtain ⟨Aw, nw, cw, rfl⟩ := orows_slice hOw
      have hba : Below z1.heap.size z1 (z1.alloc (.cells #[] 3)) := below_allocN
      obtain ⟨vo, zz, h41, h42, h43, h44⟩ := run_appInts (z1.alloc (.cells #[] 3)) 25 (Own.lit0 z1 z1.heap.size (Nat.le_refl _)) ((hlz.below hb0).below hba) (by simp; omega) hba.size
      rw [List.nil_append] at h42
      have hb1 : Below z1.heap.size z1 zz := hba.grown h43 hba.size (fun j hj => by cases hj; exact Nat.le_refl _)
      obtain ⟨Ao, co, rfl⟩ := h42.slice
      have hro := h42.ints hbnd.out
      generalize lot.length = no at h41 h42 hro ⊢
      clear h44 h42
      go_upto_region 4 with (at_builtin; refine list_app rfl rfl rfl rfl h41 ?_)
      clear h41 h43 hba
      have hb2 : Below zz.heap.size zz (zz.alloc (.cells #[.int .i64 c, .int .u8 k, .slice Aw nw cw] 28)) := below_allocN
      have hwas := Has.new zz 28 #[.int .i64 c, .int .u8 k, .slice Aw nw cw]
      generalize World.alloc zz _ = z3 at hb2 hwas ⊢
      have hB1_3 := Below_trans' hb1 hb1.size hb2
      have hB0_3 := Below_trans' hb0 hb0.size hB1_3
      have ldm := (hMm.below hB0_3 hMm.lt)
      go_wp2_with (refine ldMat rfl rfl rfl ldm hDs ?_)
      clear ldm
      refine (strengths_any D m hD cands z3).mono ?_
      rintro e z4 ⟨S, rfl, hS, hb3⟩
      have hSs := hS.size
      go_upto_region 5 with (refine stMat rfl rfl rfl rfl (Has.new _ _ _) zeroMat.size hS.size hS.one ?_)
      have hb4 : Below z4.heap.size z4 ((z4.alloc (.cells Tryz.zeroCells24 24)).setRow z4.heap.size S) := below_setRow below_allocN (Nat.le_refl _) _
      have hs : Has ((z4.alloc (.cells Tryz.zeroCells24 24)).setRow z4.heap.size S) z4.heap.size 24 S := (Has.new _ _ _).setRow _
      generalize World.setRow (World.alloc z4 _) _ _ = z5 at hb4 hs ⊢
      have gs : z4.heap.size < z5.heap.size := hs.lt
      have hB3_5 := Below_trans' hb3 hb3.size hb4
      have hB2_5 := Below_trans' hb2 hb2.size hB3_5
      have hB1_5 := Below_trans' hb1 hb1.size hB2_5
      have hB0_5 := Below_trans' hb0 hb0.size hB1_5
      have ldm := (hMm.below hB0_5 hMm.lt)
      go_wp2_with (refine ldMat rfl rfl rfl ldm hDs ?_)
      clear ldm
      refine (rstrengths_any D m hD cands z5).mono ?_
      rintro e z6 ⟨T, rfl, hT, hb5⟩
      obtain rfl : S = T := hS.unique hT (fun _ _ _ _ => rfl)
      go_upto_region 6 with (refine stMat rfl rfl rfl rfl (Has.new _ _ _) zeroMat.size hS.size hS.one ?_)
      have hb6 : Below z6.heap.size z6 ((z6.alloc (.cells Tryz.zeroCells24 24)).setRow z6.heap.size S) := below_setRow below_allocN (Nat.le_refl _) _
      have ht : Has ((z6.alloc (.cells Tryz.zeroCells24 24)).setRow z6.heap.size S) z6.heap.size 24 S := (Has.new _ _ _).setRow _
      generalize World.setRow (World.alloc z6 _) _ _ = z7 at hb6 ht ⊢
      have gt : z6.heap.size < z7.heap.size := ht.lt
      have hB5_7 := Below_trans' hb5 hb5.size hb6
      have hB4_7 := Below_trans' hb4 hb4.size hB5_7
      have hB3_7 := Below_trans' hb3 hb3.size hB4_7
      have hB2_7 := Below_trans' hb2 hb2.size hB3_7
      have hB1_7 := Below_trans' hb1 hb1.size hB2_7
      have hB0_7 := Below_trans' hb0 hb0.size hB1_7
      have cp_0 := (hP.below hB0_7 hP.lt).cell 0
      have cp_1 := (hP.below hB0_7 hP.lt).cell 1
      have cp_2 := (hP.below hB0_7 hP.lt).cell 2
      go_wp2_with fail
      refine (schulze_any c k A n cp l seats At nt ct lot z7 (hz.below hB0_7) (hlz.below hB0_7) (by omega)).mono ?_
      rintro e z8 ⟨E1, ne1, ce1, R1, nr1, cr1, V1, nv1, cv1, rfl, hO1, hb7⟩
      clear cp_0 cp_1 cp_2
      go_upto_region 7 with fail
      have hb8 : Below z8.heap.size z8 (z8.alloc (.cells #[.slice E1 ne1 ce1, .slice R1 nr1 cr1, .slice V1 nv1 cv1] 38)) := below_allocN
      have ho1 := Has.new z8 38 #[.slice E1 ne1 ce1, .slice R1 nr1 cr1, .slice V1 nv1 cv1]
      generalize World.alloc z8 _ = z9 at hb8 ho1 ⊢
      have go1 : z8.heap.size < z9.heap.size := ho1.lt
      have hB7_9 := Below_trans' hb7 hb7.size hb8
      have hB6_9 := Below_trans' hb6 hb6.size hB7_9
      have hB5_9 := Below_trans' hb5 hb5.size hB6_9
      have hB4_9 := Below_trans' hb4 hb4.size hB5_9
      have hB3_9 := Below_trans' hb3 hb3.size hB4_9
      have hB2_9 := Below_trans' hb2 hb2.size hB3_9
      have hB1_9 := Below_trans' hb1 hb1.size hB2_9
      have hB0_9 := Below_trans' hb0 hb0.size hB1_9
      have cp_0 := (hP.below hB0_9 hP.lt).cell 0
      have cp_1 := (hP.below hB0_9 hP.lt).cell 1
      have cp_2 := (hP.below hB0_9 hP.lt).cell 2
      go_wp2_with fail
      refine (rschulze_any c k A n cp l seats At nt ct lot z9 (hz.below hB0_9) (hlz.below hB0_9)).mono ?_
      rintro e z10 ⟨E2, ne2, ce2, R2, nr2, cr2, V2, nv2, cv2, rfl, hO2, hb9⟩
      clear cp_0 cp_1 cp_2
      go_upto_region 8 with fail
      have hb10 : Below z10.heap.size z10 (z10.alloc (.cells #[.slice E2 ne2 ce2, .slice R2 nr2 cr2, .slice V2 nv2 cv2] 38)) := below_allocN
      have ho2 := Has.new z10 38 #[.slice E2 ne2 ce2, .slice R2 nr2 cr2, .slice V2 nv2 cv2]
      generalize World.alloc z10 _ = z11 at hb10 ho2 ⊢
      have go2 : z10.heap.size < z11.heap.size := ho2.lt
      have e1 : (mayS c k l 1 seats 1 lot == mayS c k l 1 seats 1 lot) = true := by simp
      have e2 : (strErr m cands == strErr m cands) = true := by simp
      have e3 : (strP m path == strP m path) = true := by simp
      have hB9_11 := Below_trans' hb9 hb9.size hb10
      have co1_0 := (ho1.below hB9_11 ho1.lt).cell 0
      have co1_1 := (ho1.below hB9_11 ho1.lt).cell 1
      have co1_2 := (ho1.below hB9_11 ho1.lt).cell 2
      have co2_0 := ho2.cell 0
      have co2_1 := ho2.cell 1
      have co2_2 := ho2.cell 2
      have hB8_11 := Below_trans' hb8 hb8.size hB9_11
      have hB7_11 := Below_trans' hb7 hb7.size hB8_11
      have hB6_11 := Below_trans' hb6 hb6.size hB7_11
      have hB5_11 := Below_trans' hb5 hb5.size hB6_11
      have hB4_11 := Below_trans' hb4 hb4.size hB5_11
      have hB3_11 := Below_trans' hb3 hb3.size hB4_11
      have hB2_11 := Below_trans' hb2 hb2.size hB3_11
      have hB1_11 := Below_trans' hb1 hb1.size hB2_11
      have hB0_11 := Below_trans' hb0 hb0.size hB1_11
      have cp_0 := (hP.below hB0_11 hP.lt).cell 0
      have cp_1 := (hP.below hB0_11 hP.lt).cell 1
      have cp_2 := (hP.below hB0_11 hP.lt).cell 2
      have cwas_0 := (hwas.below hB3_11 hwas.lt).cell 0
      have cwas_1 := (hwas.below hB3_11 hwas.lt).cell 1
      have cwas_2 := (hwas.below hB3_11 hwas.lt).cell 2
      have hRs := (hs.below hB5_11 hs.lt)
      have hRt := (ht.below hB7_11 ht.lt)
      have hRm := (hMm.below hB0_11 hMm.lt)
      have gd1 := good_of hRs hSs
      have gc1 := cells_eq hRs
      have gd2 := good_of hRt hSs
      have gc2 := cells_eq hRt
      have gd3 := good_of hRm hDs
      have gc3 := cells_eq hRm
      have he : ∀ w : World, (Op.equalIn 10000 24 (.agg S) (.agg S)).run Tryz.prog w = .ok true w := fun w => by rw [eqMat hS hS w, matEq_self]
      have hgd := eqGuardMat
      have qS := fun q => same_eq _ _ _ _ _ _ _ _ _ _ _ _ _ _ _ _ _ _ _ (More z11 q) (ROut.below (hO1.below hB8_11) (more_below _ q)) (ROut.below (hO2.below hb10) (more_below _ q))
      have q1 := fun q => pstr_any D m hD Ap np cpp path (More z11 q) ((hpz.below hB0_11).more q)
      have q2 := fun q => rstr_any D m hD Ap np cpp path (More z11 q) ((hpz.below hB0_11).more q)
      have q3 := fun q => rsame_any c k A n cp l c k Aw nw cw l (More z11 q) ((hz.below hB0_11).more q) ((hOw.rows.below hB1_11).more q)
      rw [sameB_self] at q3
      have q4 := fun q => ints_eq _ _ _ _ _ _ _ (More z11 q) ((hlz.below hB0_11).more q) ((hro.below hB2_11).more q)
      generalize strP m path = sp at q1 q2 e3
      have hbz := hB0_11
      refine wp_region_more (by kernel_rfl) (by kernel_rfl) ?_
      repeat (go_big_quiet_step (first | (go_at_call 21; with_reducible exact more_of (qS _)) | (go_at_call 22; with_reducible exact more_of (q1 _)) | (go_at_call 23; with_reducible exact more_of (q2 _)) | (go_at_call 24; with_reducible exact more_of (q3 _)) | (go_at_call 25; with_reducible exact more_of (q4 _)) | (go_at_call 15; with_reducible exact more_of (wakes13_any _))))
      refine wpQuiet_nil ?_
      rintro wL ⟨qwL, hwwL⟩
      have hbwL := below_of_eq hwwL
      clear hwwL qwL
      go_wp2
      go_ret
      exact ⟨rfl, Below_trans' hbw0 hbw0.size (Below_trans' hbz hbz.size hbwL)⟩
end Go.Proofs.YtkhclcdmehjfkaaGreat
