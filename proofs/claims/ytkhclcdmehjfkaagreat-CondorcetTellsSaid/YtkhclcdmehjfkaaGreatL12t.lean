/-
  The law CondorcetTells.
-/
import Derived.Test.YtkhclcdmehjfkaaGreatW12h
import Derived.Test.YtkhclcdmehjfkaaGreatW12v
import Derived.Test.YtkhclcdmehjfkaaGreatW11t
namespace Go.Proofs.YtkhclcdmehjfkaaGreat
open Go.RowKit Go.Proofs Go.Shelf
attribute [local go_sem] cell?_more cell?_alloc_some cell?_setCell_far frozen?_alloc_some frozen?_more
set_option maxRecDepth 100000 in
set_option maxHeartbeats 4000000 in
theorem condorcetTells_any (c k : Int) (A : Option Addr) (n cp : Nat) (l : List Row) (seats : Int) (At : Option Addr) (nt ct : Nat) (lot : List Int) (w : World) (h : RRows w A n cp l) (hl : RInts w At nt ct lot) :
    Calls Tryz.prog 7 #[.agg #[.int .i64 c, .int .u8 k, .slice A n cp], .int .i64 seats, .slice At nt ct] w fun e w' => e = .returned (.bool true) ∧ Below w.heap.size w w' := by
  have hb : Below w.heap.size w (w.alloc (.cells #[.int .i64 c, .int .u8 k, .slice A n cp] 28)) := below_allocN
  have hP := Has.new w 28 #[.int .i64 c, .int .u8 k, .slice A n cp]
  go_enter Tryz.func7, Tryz.ntmps7
  go_upto_region 1 with fail
  generalize World.alloc w _ = W0 at hb hP ⊢
  have p0 := hP.cell 0
  have p1 := hP.cell 1
  have p2 := hP.cell 2
  go_wp2_with fail
  refine (great11_any c k A n cp l At nt ct lot W0 (h.below hb) (hl.below hb)).mono ?_
  rintro e z0 ⟨rfl, hbz0⟩
  have hbw0 := Below_trans' hb hb.size hbz0
  replace hP := hP.below hbz0 hP.lt
  clear p0 p1 p2
  cases hg : great11 l lot with
  | true =>
    clear hg
    go_wp2_with fail
    refine (wakes12_any _).mono ?_
    rintro e w9 ⟨rfl, hb9⟩
    go_wp2
    go_ret
    exact ⟨rfl, Below_trans' hbw0 (hbw0).size hb9⟩
  | false =>
    have hg1 : greatS l = false ∧ lot.length ≤ 60 := by
      unfold great11 at hg
      rw [Bool.or_eq_false_iff, decide_eq_false_iff_not] at hg
      exact ⟨hg.1, by omega⟩
    have G1 := great_no hg1.1
    have hn9 : n ≤ 1000 := by have := h.len; omega
    have hnt : nt ≤ 60 := by have := hl.len; omega
    have hlt := hg1.2
    have M1 := hide (show ∀ r ∈ l, r.1.length ≤ 1000 from fun r hr => by have := G1.2 r hr; omega)
    have hz := h.below hbw0
    have hlz := hl.below hbw0
    have hbnd := hide (fun x (hx : x ∈ lot) => hl.bd hx)
    clear hg hg1 G1
    have cp_0 := hP.cell 0
    have cp_1 := hP.cell 1
    have cp_2 := hP.cell 2
    go_wp2_with fail
    refine (rtwin_any c k A n cp l z0 hz hn9 M1.out).mono ?_
    rintro e z1 ⟨vw, rfl, hOw, hb0⟩
    clear cp_0 cp_1 cp_2
    obtain ⟨Aw, nw, cw, rfl⟩ := orows_slice hOw
    have hba : Below z1.heap.size z1 (z1.alloc (.cells #[] 3)) := below_allocN
    obtain ⟨vo, zz, h41, h42, h43, h44⟩ := run_appInts (z1.alloc (.cells #[] 3)) 25 (Own.lit0 z1 z1.heap.size (Nat.le_refl _)) ((hlz.below hb0).below hba) (by simp; omega) hba.size
    rw [List.nil_append] at h42
    have hb1 : Below z1.heap.size z1 zz := hba.grown h43 hba.size (fun j hj => by cases hj; exact Nat.le_refl _)
    obtain ⟨Ao, co, rfl⟩ := h42.slice
    have hro := h42.ints hbnd.out
    generalize lot.length = no at h41 h42 hro ⊢
    clear h44 h42
    go_upto_region 4 with (at_builtin; refine list_app rfl rfl rfl rfl h41 ?_)
    clear h41 h43 hba
    have hb2 : Below zz.heap.size zz (zz.alloc (.cells #[.int .i64 c, .int .u8 k, .slice Aw nw cw] 28)) := below_allocN
    have hwas := Has.new zz 28 #[.int .i64 c, .int .u8 k, .slice Aw nw cw]
    generalize World.alloc zz _ = z3 at hb2 hwas ⊢
    have hB1_3 := Below_trans' hb1 hb1.size hb2
    have hB0_3 := Below_trans' hb0 hb0.size hB1_3
    replace hOw := hOw.rows.below hB1_3
    replace hro := hro.below hb2
    clear hb1 hb2 hb0
    have cp_0 := (hP.below hB0_3 hP.lt).cell 0
    have cp_1 := (hP.below hB0_3 hP.lt).cell 1
    have cp_2 := (hP.below hB0_3 hP.lt).cell 2
    go_wp2_with fail
    refine (copeland_any c k A n cp l seats At nt ct lot z3 (hz.below hB0_3) (hlz.below hB0_3) (by omega)).mono ?_
    rintro e z5 ⟨E1, ne1, ce1, R1, nr1, cr1, V1, nv1, cv1, rfl, hO1, hb5⟩
    clear cp_0 cp_1 cp_2
    go_upto_region 5 with fail
    have hbx5 : Below z5.heap.size z5 (z5.alloc (.cells #[.slice E1 ne1 ce1, .slice R1 nr1 cr1, .slice V1 nv1 cv1] 38)) := below_allocN
    have ho1 := Has.new z5 38 #[.slice E1 ne1 ce1, .slice R1 nr1 cr1, .slice V1 nv1 cv1]
    generalize World.alloc z5 _ = y5 at hbx5 ho1 ⊢
    replace hO1 := hO1.below hbx5
    have hs5 := Below_trans' hb5 hb5.size hbx5
    have hB0y5 := Below_trans' hB0_3 (hB0_3).size hs5
    clear hb5 hbx5
    have cp_0 := (hP.below hB0y5 hP.lt).cell 0
    have cp_1 := (hP.below hB0y5 hP.lt).cell 1
    have cp_2 := (hP.below hB0y5 hP.lt).cell 2
    go_wp2_with fail
    refine (rcopeland_any c k A n cp l seats At nt ct lot y5 (hz.below hB0y5) (hlz.below hB0y5)).mono ?_
    rintro e z6 ⟨E2, ne2, ce2, R2, nr2, cr2, V2, nv2, cv2, rfl, hO2, hb6⟩
    clear cp_0 cp_1 cp_2
    go_upto_region 6 with fail
    have hbx6 : Below z6.heap.size z6 (z6.alloc (.cells #[.slice E2 ne2 ce2, .slice R2 nr2 cr2, .slice V2 nv2 cv2] 38)) := below_allocN
    have ho2 := Has.new z6 38 #[.slice E2 ne2 ce2, .slice R2 nr2 cr2, .slice V2 nv2 cv2]
    generalize World.alloc z6 _ = y6 at hbx6 ho2 ⊢
    replace hO2 := hO2.below hbx6
    have hs6 := Below_trans' hb6 hb6.size hbx6
    have hB0y6 := Below_trans' hB0y5 (hB0y5).size hs6
    clear hb6 hbx6
    replace ho1 := ho1.below hs6 ho1.lt
    replace hO1 := hO1.below hs6
    have cp_0 := (hP.below hB0y6 hP.lt).cell 0
    have cp_1 := (hP.below hB0y6 hP.lt).cell 1
    have cp_2 := (hP.below hB0y6 hP.lt).cell 2
    go_wp2_with fail
    refine (minimax_any c k A n cp l seats At nt ct lot y6 (hz.below hB0y6) (hlz.below hB0y6) (by omega)).mono ?_
    rintro e z7 ⟨E3, ne3, ce3, R3, nr3, cr3, V3, nv3, cv3, rfl, hO3, hb7⟩
    clear cp_0 cp_1 cp_2
    go_upto_region 7 with fail
    have hbx7 : Below z7.heap.size z7 (z7.alloc (.cells #[.slice E3 ne3 ce3, .slice R3 nr3 cr3, .slice V3 nv3 cv3] 38)) := below_allocN
    have ho3 := Has.new z7 38 #[.slice E3 ne3 ce3, .slice R3 nr3 cr3, .slice V3 nv3 cv3]
    generalize World.alloc z7 _ = y7 at hbx7 ho3 ⊢
    replace hO3 := hO3.below hbx7
    have hs7 := Below_trans' hb7 hb7.size hbx7
    have hB0y7 := Below_trans' hB0y6 (hB0y6).size hs7
    clear hb7 hbx7
    replace ho1 := ho1.below hs7 ho1.lt
    replace hO1 := hO1.below hs7
    replace ho2 := ho2.below hs7 ho2.lt
    replace hO2 := hO2.below hs7
    have cp_0 := (hP.below hB0y7 hP.lt).cell 0
    have cp_1 := (hP.below hB0y7 hP.lt).cell 1
    have cp_2 := (hP.below hB0y7 hP.lt).cell 2
    go_wp2_with fail
    refine (rminimax_any c k A n cp l seats At nt ct lot y7 (hz.below hB0y7) (hlz.below hB0y7)).mono ?_
    rintro e z8 ⟨E4, ne4, ce4, R4, nr4, cr4, V4, nv4, cv4, rfl, hO4, hb8⟩
    clear cp_0 cp_1 cp_2
    go_upto_region 8 with fail
    have hbx8 : Below z8.heap.size z8 (z8.alloc (.cells #[.slice E4 ne4 ce4, .slice R4 nr4 cr4, .slice V4 nv4 cv4] 38)) := below_allocN
    have ho4 := Has.new z8 38 #[.slice E4 ne4 ce4, .slice R4 nr4 cr4, .slice V4 nv4 cv4]
    generalize World.alloc z8 _ = y8 at hbx8 ho4 ⊢
    replace hO4 := hO4.below hbx8
    have hs8 := Below_trans' hb8 hb8.size hbx8
    have hB0y8 := Below_trans' hB0y7 (hB0y7).size hs8
    clear hb8 hbx8
    replace ho1 := ho1.below hs8 ho1.lt
    replace hO1 := hO1.below hs8
    replace ho2 := ho2.below hs8 ho2.lt
    replace hO2 := hO2.below hs8
    replace ho3 := ho3.below hs8 ho3.lt
    replace hO3 := hO3.below hs8
    have e1 : (mayS c k l 1 seats 1 lot == mayS c k l 1 seats 1 lot) = true := by simp
    generalize mayS c k l 1 seats 1 lot = er at e1 ⊢
    have h38 := Below_trans' (Below_trans' (Below_trans' hs5 hs5.size hs6) (Below_trans' hs5 hs5.size hs6).size hs7) (Below_trans' (Below_trans' hs5 hs5.size hs6) (Below_trans' hs5 hs5.size hs6).size hs7).size hs8
    replace hwas := hwas.below h38 hwas.lt
    replace hOw := hOw.below h38
    replace hro := hro.below h38
    clear hs5 hs6 hs7 hs8 h38
    have hPe := hP.below hB0y8 hP.lt
    have a0 := ho1.cell 0
    have a1 := ho1.cell 1
    have a2 := ho1.cell 2
    have b0 := ho2.cell 0
    have b1 := ho2.cell 1
    have b2 := ho2.cell 2
    go_wp2_with fail
    refine (same_eq _ _ _ _ _ _ _ _ _ _ _ _ _ _ _ _ _ _ _ y8 hO1 hO2).mono ?_
    rintro e s1 ⟨rfl, ht1⟩
    have a0 := (ho3.below ht1 ho3.lt).cell 0
    have a1 := (ho3.below ht1 ho3.lt).cell 1
    have a2 := (ho3.below ht1 ho3.lt).cell 2
    have b0 := (ho4.below ht1 ho4.lt).cell 0
    have b1 := (ho4.below ht1 ho4.lt).cell 1
    have b2 := (ho4.below ht1 ho4.lt).cell 2
    go_wp2_with fail
    refine (same_eq _ _ _ _ _ _ _ _ _ _ _ _ _ _ _ _ _ _ _ s1 (hO3.below ht1) (hO4.below ht1)).mono ?_
    rintro e s2 ⟨rfl, ht2⟩
    have ht12 := Below_trans' ht1 ht1.size ht2
    have a0 := (hPe.below ht12 hPe.lt).cell 0
    have a1 := (hPe.below ht12 hPe.lt).cell 1
    have a2 := (hPe.below ht12 hPe.lt).cell 2
    have b0 := (hwas.below ht12 hwas.lt).cell 0
    have b1 := (hwas.below ht12 hwas.lt).cell 1
    have b2 := (hwas.below ht12 hwas.lt).cell 2
    go_wp2_with fail
    refine (rsame_any c k A n cp l c k Aw nw cw l s2 ((hz.below hB0y8).below ht12) (hOw.below ht12)).mono ?_
    rintro e s3 ⟨rfl, ht3⟩
    rw [sameB_self]
    have ht13 := Below_trans' ht12 ht12.size ht3
    go_wp2_with fail
    refine (ints_eq _ _ _ _ _ _ _ s3 ((hlz.below hB0y8).below ht13) (hro.below ht13)).mono ?_
    rintro e s4 ⟨rfl, ht4⟩
    have ht14 := Below_trans' ht13 ht13.size ht4
    have hB0e := Below_trans' hB0y8 hB0y8.size ht14
    have hbwe := Below_trans' hbw0 hbw0.size hB0e
    go_wp2_with fail
    refine (wakes12_any _).mono ?_
    rintro e w9 ⟨rfl, hb9⟩
    go_wp2
    go_ret
    exact ⟨rfl, Below_trans' hbwe hbwe.size hb9⟩
end Go.Proofs.YtkhclcdmehjfkaaGreat
