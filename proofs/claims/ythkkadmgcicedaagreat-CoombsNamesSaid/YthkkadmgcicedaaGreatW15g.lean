/-
  The examples of chapter 15.
-/
import Derived.Test.YthkkadmgcicedaaGreatW15e
namespace Go.Proofs.YthkkadmgcicedaaGreat
open Go.RowKit Go.Proofs Go.Shelf
attribute [local go_sem] cell?_more cell?_alloc_some cell?_setCell_far frozen?_alloc_some frozen?_more
def ex15p : List Row := [([0, 1], 4), ([1], 3), ([2, 1], 2)]
def ex15q : List Row := [([0], 1), ([1], 1)]
def ex15o1 : Outc := ([1], [rndS [4, 3, 2] 0 [] [2], rndS [4, 5, 0] 0 [1] []], [])
def ex15o2 : Outc := ([1], [rndS [1, 1] 0 [] [0], rndS [0, 1] 1 [1] []], [([0, 1], 0)])
theorem ex15_m1 : mayS 3 1 ex15p 1 1 1 [0, 1, 2] = 0 := by kernel_rfl
theorem ex15_m2 : mayS 2 1 ex15q 1 1 1 [1, 0] = 0 := by kernel_rfl
theorem ex15_m3 : mayS 3 1 ex15p 1 2 1 [0, 1, 2] = 2 := by kernel_rfl
theorem ex15_m4 : mayS 0 0 [] 1 1 1 [] = 8 := by kernel_rfl
theorem ex15_o1 : runO 3 1 ex15p 1 [0, 1, 2] = ex15o1 := by kernel_rfl
theorem ex15_o2 : runO 2 1 ex15q 1 [1, 0] = ex15o2 := by kernel_rfl
theorem ex15_f1 : firstsL 3 1 ex15p [false, true] = [0, 9, 0] := by kernel_rfl
theorem ex15_f2 : firstsN 3 1 ex15p [false, true] = 0 := by kernel_rfl
theorem ex15_f3 : firstsE 3 1 ex15p = 0 := by kernel_rfl
theorem ex15_f4 : firstsE 1 2 [] = 8 := by kernel_rfl
theorem bools2 {w : World} {g t : Nat} {x y : Bool} (h : Has w g t #[.bool x, .bool y]) : RBools w (some ⟨g, 0, none⟩) 2 2 [x, y] := by
  refine ⟨rfl, Nat.le_refl _, by omega, fun _ => ⟨g, 0, rfl, fun i hi => ?_⟩⟩
  have : i = 0 ∨ i = 1 := by omega
  rcases this with rfl | rfl
  · rw [h.cell]; rfl
  · rw [h.cell]; rfl
theorem bools_nil {w : World} : RBools w none 0 0 [] := ⟨rfl, Nat.le_refl _, by omega, fun h => absurd h (by omega)⟩
theorem ERnd.belowX {w w' : World} {vs : List Value} {x : Rnd} (h : ERnd w vs x) (hb : Below w.heap.size w w') : ERnd w' vs x := below_rnd _ _ _ _ h hb

set_option maxRecDepth 100000 in
set_option maxHeartbeats 8000000 in
theorem wakes15_any (w0 : World) : Calls Tryz.prog 6 #[] w0 fun e w' => e = .returned (.bool true) ∧ Below w0.heap.size w0 w' := by
  have i64 : ∀ x : Int, 0 ≤ x → x ≤ 100 → I64 x := fun x h1 h2 => ⟨by omega, by omega⟩
  have I64s := hide i64
  clear i64
  go_enter Tryz.func6, Tryz.ntmps6
  have hb0 : Below w0.heap.size w0 (w0.alloc (.cells #[.int .i64 0, .int .i64 1] 3)) := below_allocN
  have ha1 := Has.new w0 3 #[.int .i64 0, .int .i64 1]
  generalize hW0 : World.alloc w0 _ = w1 at hb0 ha1
  have ga1 : w0.heap.size < w1.heap.size := ha1.lt
  have ra1 := lit2 ha1 (I64s.out _ (by decide) (by decide)) (I64s.out _ (by decide) (by decide))
  have hb1 : Below w1.heap.size w1 (w1.alloc (.cells #[.int .i64 1] 3)) := below_allocN
  have ha2 := Has.new w1 3 #[.int .i64 1]
  generalize hW1 : World.alloc w1 _ = w2 at hb1 ha2
  have ga2 : w1.heap.size < w2.heap.size := ha2.lt
  have ra2 := lit_ints ha2 (I64s.out _ (by decide) (by decide))
  have hb2 : Below w2.heap.size w2 (w2.alloc (.cells #[.int .i64 2, .int .i64 1] 3)) := below_allocN
  have ha3 := Has.new w2 3 #[.int .i64 2, .int .i64 1]
  generalize hW2 : World.alloc w2 _ = w3 at hb2 ha3
  have ga3 : w2.heap.size < w3.heap.size := ha3.lt
  have ra3 := lit2 ha3 (I64s.out _ (by decide) (by decide)) (I64s.out _ (by decide) (by decide))
  have hb3 : Below w3.heap.size w3 (w3.alloc (.cells #[.slice (some ⟨w0.heap.size, 0, none⟩) 2 2, .int .i64 4, .slice (some ⟨w1.heap.size, 0, none⟩) 1 1, .int .i64 3, .slice (some ⟨w2.heap.size, 0, none⟩) 2 2, .int .i64 2] 45)) := below_allocN
  have hrw := Has.new w3 45 #[.slice (some ⟨w0.heap.size, 0, none⟩) 2 2, .int .i64 4, .slice (some ⟨w1.heap.size, 0, none⟩) 1 1, .int .i64 3, .slice (some ⟨w2.heap.size, 0, none⟩) 2 2, .int .i64 2]
  generalize hW3 : World.alloc w3 _ = w4 at hb3 hrw
  have grw : w3.heap.size < w4.heap.size := hrw.lt
  have hB2_4 := Below_trans' hb2 hb2.size hb3
  have hB1_4 := Below_trans' hb1 hb1.size hB2_4
  have rP := rows3 (ra1.below hB1_4) (ra2.below hB2_4) (ra3.below hb3) (I64s.out _ (by decide) (by decide)) (I64s.out _ (by decide) (by decide)) (I64s.out _ (by decide) (by decide)) hrw
  have hb4 : Below w4.heap.size w4 (w4.alloc (.cells #[.int .i64 3, .int .u8 1, .slice (some ⟨w3.heap.size, 0, none⟩) 3 3] 24)) := below_allocN
  have hp := Has.new w4 24 #[.int .i64 3, .int .u8 1, .slice (some ⟨w3.heap.size, 0, none⟩) 3 3]
  generalize hW4 : World.alloc w4 _ = w5 at hb4 hp
  have gp : w4.heap.size < w5.heap.size := hp.lt
  go_upto_region 2 with fail
  try simp only [hW0, hW1, hW2, hW3, hW4]
  clear hW0 hW1 hW2 hW3 hW4
  have hb5 : Below w5.heap.size w5 (w5.alloc (.cells #[.int .i64 0] 3)) := below_allocN
  have hd1 := Has.new w5 3 #[.int .i64 0]
  generalize hW5 : World.alloc w5 _ = w6 at hb5 hd1
  have gd1 : w5.heap.size < w6.heap.size := hd1.lt
  have rd1 := lit_ints hd1 (I64s.out _ (by decide) (by decide))
  have hb6 : Below w6.heap.size w6 (w6.alloc (.cells #[.int .i64 1] 3)) := below_allocN
  have hd2 := Has.new w6 3 #[.int .i64 1]
  generalize hW6 : World.alloc w6 _ = w7 at hb6 hd2
  have gd2 : w6.heap.size < w7.heap.size := hd2.lt
  have rd2 := lit_ints hd2 (I64s.out _ (by decide) (by decide))
  have hb7 : Below w7.heap.size w7 (w7.alloc (.cells #[.slice (some ⟨w5.heap.size, 0, none⟩) 1 1, .int .i64 1, .slice (some ⟨w6.heap.size, 0, none⟩) 1 1, .int .i64 1] 45)) := below_allocN
  have hrx := Has.new w7 45 #[.slice (some ⟨w5.heap.size, 0, none⟩) 1 1, .int .i64 1, .slice (some ⟨w6.heap.size, 0, none⟩) 1 1, .int .i64 1]
  generalize hW7 : World.alloc w7 _ = w8 at hb7 hrx
  have grx : w7.heap.size < w8.heap.size := hrx.lt
  have hB6_8 := Below_trans' hb6 hb6.size hb7
  have rQ := rows2 (rd1.below hB6_8) (rd2.below hb7) (I64s.out _ (by decide) (by decide)) (I64s.out _ (by decide) (by decide)) hrx
  have hb8 : Below w8.heap.size w8 (w8.alloc (.cells #[.int .i64 2, .int .u8 1, .slice (some ⟨w7.heap.size, 0, none⟩) 2 2] 24)) := below_allocN
  have hq := Has.new w8 24 #[.int .i64 2, .int .u8 1, .slice (some ⟨w7.heap.size, 0, none⟩) 2 2]
  generalize hW8 : World.alloc w8 _ = w9 at hb8 hq
  have gq : w8.heap.size < w9.heap.size := hq.lt
  go_upto_region 3 with fail
  try simp only [hW5, hW6, hW7, hW8]
  clear hW5 hW6 hW7 hW8
  have hB7_9 := Below_trans' hb7 hb7.size hb8
  have hB6_9 := Below_trans' hb6 hb6.size hB7_9
  have hB5_9 := Below_trans' hb5 hb5.size hB6_9
  have cp_0 := (hp.below hB5_9 hp.lt).cell 0
  have cp_1 := (hp.below hB5_9 hp.lt).cell 1
  have cp_2 := (hp.below hB5_9 hp.lt).cell 2
  have hb9 : Below w9.heap.size w9 (w9.alloc (.cells #[.int .i64 0, .int .i64 1, .int .i64 2] 3)) := below_allocN
  have hl1 := Has.new w9 3 #[.int .i64 0, .int .i64 1, .int .i64 2]
  generalize hW9 : World.alloc w9 _ = w10 at hb9 hl1
  have gl1 : w9.heap.size < w10.heap.size := hl1.lt
  have rl1 := lit3 hl1 (I64s.out _ (by decide) (by decide)) (I64s.out _ (by decide) (by decide)) (I64s.out _ (by decide) (by decide))
  go_wp2_with fail
  try simp only [hW9]
  clear hW9
  have hB8_10 := Below_trans' hb8 hb8.size hb9
  have hB7_10 := Below_trans' hb7 hb7.size hB8_10
  have hB6_10 := Below_trans' hb6 hb6.size hB7_10
  have hB5_10 := Below_trans' hb5 hb5.size hB6_10
  have hB4_10 := Below_trans' hb4 hb4.size hB5_10
  refine (pcount_any 3 1 (some ⟨w3.heap.size, 0, none⟩) 3 3 ex15p 1 (some ⟨w9.heap.size, 0, none⟩) 3 3 [0, 1, 2] w10 (rP.below hB4_10) rl1 (by decide)).mono ?_
  rintro e w11 ⟨E1, ne1, ce1, R1, nr1, cr1, V1, nv1, cv1, rfl, hO1, hb10⟩
  clear cp_0 cp_1 cp_2
  rw [ex15_o1] at hO1
  rw [ex15_m1]
  have hb11 : Below w11.heap.size w11 (w11.alloc (.cells #[.slice E1 ne1 ce1, .slice R1 nr1 cr1, .slice V1 nv1 cv1] 31)) := below_allocN
  have ho1 := Has.new w11 31 #[.slice E1 ne1 ce1, .slice R1 nr1 cr1, .slice V1 nv1 cv1]
  generalize hW11 : World.alloc w11 _ = w12 at hb11 ho1
  have go1 : w11.heap.size < w12.heap.size := ho1.lt
  go_upto_region 4 with fail
  try simp only [hW11]
  clear hW11
  have hB10_12 := Below_trans' hb10 hb10.size hb11
  have hB9_12 := Below_trans' hb9 hb9.size hB10_12
  have cq_0 := (hq.below hB9_12 hq.lt).cell 0
  have cq_1 := (hq.below hB9_12 hq.lt).cell 1
  have cq_2 := (hq.below hB9_12 hq.lt).cell 2
  have hb12 : Below w12.heap.size w12 (w12.alloc (.cells #[.int .i64 1, .int .i64 0] 3)) := below_allocN
  have hl2 := Has.new w12 3 #[.int .i64 1, .int .i64 0]
  generalize hW12 : World.alloc w12 _ = w13 at hb12 hl2
  have gl2 : w12.heap.size < w13.heap.size := hl2.lt
  have rl2 := lit2 hl2 (I64s.out _ (by decide) (by decide)) (I64s.out _ (by decide) (by decide))
  go_wp2_with fail
  try simp only [hW12]
  clear hW12
  have hB11_13 := Below_trans' hb11 hb11.size hb12
  have hB10_13 := Below_trans' hb10 hb10.size hB11_13
  have hB9_13 := Below_trans' hb9 hb9.size hB10_13
  have hB8_13 := Below_trans' hb8 hb8.size hB9_13
  refine (pcount_any 2 1 (some ⟨w7.heap.size, 0, none⟩) 2 2 ex15q 1 (some ⟨w12.heap.size, 0, none⟩) 2 2 [1, 0] w13 (rQ.below hB8_13) rl2 (by decide)).mono ?_
  rintro e w14 ⟨E2, ne2, ce2, R2, nr2, cr2, V2, nv2, cv2, rfl, hO2, hb13⟩
  clear cq_0 cq_1 cq_2
  rw [ex15_o2] at hO2
  rw [ex15_m2]
  have hb14 : Below w14.heap.size w14 (w14.alloc (.cells #[.slice E2 ne2 ce2, .slice R2 nr2 cr2, .slice V2 nv2 cv2] 31)) := below_allocN
  have ho2 := Has.new w14 31 #[.slice E2 ne2 ce2, .slice R2 nr2 cr2, .slice V2 nv2 cv2]
  generalize hW14 : World.alloc w14 _ = w15 at hb14 ho2
  have go2 : w14.heap.size < w15.heap.size := ho2.lt
  go_upto_region 5 with fail
  try simp only [hW14]
  clear hW14
  have hB13_15 := Below_trans' hb13 hb13.size hb14
  have hB12_15 := Below_trans' hb12 hb12.size hB13_15
  have hB11_15 := Below_trans' hb11 hb11.size hB12_15
  have hB10_15 := Below_trans' hb10 hb10.size hB11_15
  have hB9_15 := Below_trans' hb9 hb9.size hB10_15
  have hB8_15 := Below_trans' hb8 hb8.size hB9_15
  have hB7_15 := Below_trans' hb7 hb7.size hB8_15
  have hB6_15 := Below_trans' hb6 hb6.size hB7_15
  have hB5_15 := Below_trans' hb5 hb5.size hB6_15
  have cp_0 := (hp.below hB5_15 hp.lt).cell 0
  have cp_1 := (hp.below hB5_15 hp.lt).cell 1
  have cp_2 := (hp.below hB5_15 hp.lt).cell 2
  have hb15 : Below w15.heap.size w15 (w15.alloc (.cells #[.int .i64 0, .int .i64 1, .int .i64 2] 3)) := below_allocN
  have hl3 := Has.new w15 3 #[.int .i64 0, .int .i64 1, .int .i64 2]
  generalize hW15 : World.alloc w15 _ = w16 at hb15 hl3
  have gl3 : w15.heap.size < w16.heap.size := hl3.lt
  have rl3 := lit3 hl3 (I64s.out _ (by decide) (by decide)) (I64s.out _ (by decide) (by decide)) (I64s.out _ (by decide) (by decide))
  go_wp2_with fail
  try simp only [hW15]
  clear hW15
  have hB14_16 := Below_trans' hb14 hb14.size hb15
  have hB13_16 := Below_trans' hb13 hb13.size hB14_16
  have hB12_16 := Below_trans' hb12 hb12.size hB13_16
  have hB11_16 := Below_trans' hb11 hb11.size hB12_16
  have hB10_16 := Below_trans' hb10 hb10.size hB11_16
  have hB9_16 := Below_trans' hb9 hb9.size hB10_16
  have hB8_16 := Below_trans' hb8 hb8.size hB9_16
  have hB7_16 := Below_trans' hb7 hb7.size hB8_16
  have hB6_16 := Below_trans' hb6 hb6.size hB7_16
  have hB5_16 := Below_trans' hb5 hb5.size hB6_16
  have hB4_16 := Below_trans' hb4 hb4.size hB5_16
  refine (pcount_any 3 1 (some ⟨w3.heap.size, 0, none⟩) 3 3 ex15p 2 (some ⟨w15.heap.size, 0, none⟩) 3 3 [0, 1, 2] w16 (rP.below hB4_16) rl3 (by decide)).mono ?_
  rintro e w17 ⟨E3, ne3, ce3, R3, nr3, cr3, V3, nv3, cv3, rfl, hO3, hb16⟩
  clear cp_0 cp_1 cp_2
  rw [runO_bad (by rw [ex15_m3]; decide)] at hO3
  rw [ex15_m3]
  have hb17 : Below w17.heap.size w17 (w17.alloc (.cells #[.slice E3 ne3 ce3, .slice R3 nr3 cr3, .slice V3 nv3 cv3] 31)) := below_allocN
  have ho3 := Has.new w17 31 #[.slice E3 ne3 ce3, .slice R3 nr3 cr3, .slice V3 nv3 cv3]
  generalize hW17 : World.alloc w17 _ = w18 at hb17 ho3
  have go3 : w17.heap.size < w18.heap.size := ho3.lt
  go_upto_region 6 with fail
  try simp only [hW17]
  clear hW17
  go_wp2_with fail
  refine (pcount_any 0 0 none 0 0 [] 1 none 0 0 [] w18 (RRows.nil_ _) (RInts.nil_ _) (by decide)).mono ?_
  rintro e w19 ⟨E4, ne4, ce4, R4, nr4, cr4, V4, nv4, cv4, rfl, hO4, hb18⟩
  rw [ex15_m4]
  have hb19 : Below w19.heap.size w19 (w19.alloc (.cells #[.slice E4 ne4 ce4, .slice R4 nr4 cr4, .slice V4 nv4 cv4] 31)) := below_allocN
  have ho4 := Has.new w19 31 #[.slice E4 ne4 ce4, .slice R4 nr4 cr4, .slice V4 nv4 cv4]
  generalize hW19 : World.alloc w19 _ = w20 at hb19 ho4
  have go4 : w19.heap.size < w20.heap.size := ho4.lt
  go_upto_region 7 with fail
  try simp only [hW19]
  clear hW19
  have hB18_20 := Below_trans' hb18 hb18.size hb19
  have hB17_20 := Below_trans' hb17 hb17.size hB18_20
  have hB16_20 := Below_trans' hb16 hb16.size hB17_20
  have hB15_20 := Below_trans' hb15 hb15.size hB16_20
  have hB14_20 := Below_trans' hb14 hb14.size hB15_20
  have hB13_20 := Below_trans' hb13 hb13.size hB14_20
  have hB12_20 := Below_trans' hb12 hb12.size hB13_20
  have hB11_20 := Below_trans' hb11 hb11.size hB12_20
  have hB10_20 := Below_trans' hb10 hb10.size hB11_20
  have hB9_20 := Below_trans' hb9 hb9.size hB10_20
  have hB8_20 := Below_trans' hb8 hb8.size hB9_20
  have hB7_20 := Below_trans' hb7 hb7.size hB8_20
  have hB6_20 := Below_trans' hb6 hb6.size hB7_20
  have hB5_20 := Below_trans' hb5 hb5.size hB6_20
  have cp_0 := (hp.below hB5_20 hp.lt).cell 0
  have cp_1 := (hp.below hB5_20 hp.lt).cell 1
  have cp_2 := (hp.below hB5_20 hp.lt).cell 2
  have hb20 : Below w20.heap.size w20 (w20.alloc (.cells #[.bool false, .bool true] 4)) := below_allocN
  have hbl := Has.new w20 4 #[.bool false, .bool true]
  generalize hW20 : World.alloc w20 _ = w21 at hb20 hbl
  have gbl : w20.heap.size < w21.heap.size := hbl.lt
  have rbl := bools2 hbl
  go_wp2_with fail
  try simp only [hW20]
  clear hW20
  have hB19_21 := Below_trans' hb19 hb19.size hb20
  have hB18_21 := Below_trans' hb18 hb18.size hB19_21
  have hB17_21 := Below_trans' hb17 hb17.size hB18_21
  have hB16_21 := Below_trans' hb16 hb16.size hB17_21
  have hB15_21 := Below_trans' hb15 hb15.size hB16_21
  have hB14_21 := Below_trans' hb14 hb14.size hB15_21
  have hB13_21 := Below_trans' hb13 hb13.size hB14_21
  have hB12_21 := Below_trans' hb12 hb12.size hB13_21
  have hB11_21 := Below_trans' hb11 hb11.size hB12_21
  have hB10_21 := Below_trans' hb10 hb10.size hB11_21
  have hB9_21 := Below_trans' hb9 hb9.size hB10_21
  have hB8_21 := Below_trans' hb8 hb8.size hB9_21
  have hB7_21 := Below_trans' hb7 hb7.size hB8_21
  have hB6_21 := Below_trans' hb6 hb6.size hB7_21
  have hB5_21 := Below_trans' hb5 hb5.size hB6_21
  have hB4_21 := Below_trans' hb4 hb4.size hB5_21
  refine (pfirsts_any 3 1 (some ⟨w3.heap.size, 0, none⟩) 3 3 ex15p (some ⟨w20.heap.size, 0, none⟩) 2 2 [false, true] w21 (rP.below hB4_21) rbl).mono ?_
  rintro e w22 ⟨v5, rfl, hF5, hb21⟩
  clear cp_0 cp_1 cp_2
  rw [ex15_f1] at hF5
  rw [ex15_f2, ex15_f3]
  obtain ⟨A5, c5, rfl⟩ := hF5.slice
  have rF5 := hF5.ints (fun x hx => by simp at hx; omega)
  simp only [List.length_cons, List.length_nil] at rF5 hF5 ⊢
  clear hF5
  go_upto_region 8 with fail
  go_wp2_with fail
  refine (pfirsts_any 1 2 none 0 0 [] none 0 0 [] w22 (RRows.nil_ _) bools_nil).mono ?_
  rintro e w23 ⟨v6, rfl, hF6, hb22⟩
  rw [ex15_f4]
  obtain ⟨A6, n6, c6, rfl⟩ : ∃ A n c, v6 = .slice A n c := let ⟨A, c, e⟩ := hF6.slice; ⟨A, _, c, e⟩
  clear hF6
  go_upto_region 9 with fail
  have hb23 : Below w23.heap.size w23 (w23.alloc (.cells #[.int .i64 1] 3)) := below_allocN
  have hxe := Has.new w23 3 #[.int .i64 1]
  generalize hW23 : World.alloc w23 _ = w24 at hb23 hxe
  have gxe : w23.heap.size < w24.heap.size := hxe.lt
  have rxe := lit_ints hxe (I64s.out _ (by decide) (by decide))
  have hb24 : Below w24.heap.size w24 (w24.alloc (.cells #[.int .i64 4, .int .i64 3, .int .i64 2] 3)) := below_allocN
  have hxh := Has.new w24 3 #[.int .i64 4, .int .i64 3, .int .i64 2]
  generalize hW24 : World.alloc w24 _ = w25 at hb24 hxh
  have gxh : w24.heap.size < w25.heap.size := hxh.lt
  have rxh := lit3 hxh (I64s.out _ (by decide) (by decide)) (I64s.out _ (by decide) (by decide)) (I64s.out _ (by decide) (by decide))
  have hb25 : Below w25.heap.size w25 (w25.alloc (.cells #[.int .i64 2] 3)) := below_allocN
  have hxo := Has.new w25 3 #[.int .i64 2]
  generalize hW25 : World.alloc w25 _ = w26 at hb25 hxo
  have gxo : w25.heap.size < w26.heap.size := hxo.lt
  have rxo := lit_ints hxo (I64s.out _ (by decide) (by decide))
  go_wp2_with fail
  try simp only [hW23, hW24, hW25]
  clear hW23 hW24 hW25
  refine (rnd15_any (some ⟨w24.heap.size, 0, none⟩) 3 3 [4, 3, 2] 0 none 0 0 [] (some ⟨w25.heap.size, 0, none⟩) 1 1 [2] w26 (rxh.below hb25) (RInts.nil_ _) rxo (by decide) (by decide) (by decide) (by decide)).mono ?_
  rintro e w27 ⟨Ahx1, nhx1, chx1, Anx1, nnx1, cnx1, Adx1, ndx1, cdx1, rfl, hEx1, hb26⟩
  have hb27 : Below w27.heap.size w27 (w27.alloc (.cells #[.int .i64 4, .int .i64 5, .int .i64 0] 3)) := below_allocN
  have hxi := Has.new w27 3 #[.int .i64 4, .int .i64 5, .int .i64 0]
  generalize hW27 : World.alloc w27 _ = w28 at hb27 hxi
  have gxi : w27.heap.size < w28.heap.size := hxi.lt
  have rxi := lit3 hxi (I64s.out _ (by decide) (by decide)) (I64s.out _ (by decide) (by decide)) (I64s.out _ (by decide) (by decide))
  have hb28 : Below w28.heap.size w28 (w28.alloc (.cells #[.int .i64 1] 3)) := below_allocN
  have hxg := Has.new w28 3 #[.int .i64 1]
  generalize hW28 : World.alloc w28 _ = w29 at hb28 hxg
  have gxg : w28.heap.size < w29.heap.size := hxg.lt
  have rxg := lit_ints hxg (I64s.out _ (by decide) (by decide))
  go_wp2_with fail
  try simp only [hW27, hW28]
  clear hW27 hW28
  refine (rnd15_any (some ⟨w27.heap.size, 0, none⟩) 3 3 [4, 5, 0] 0 (some ⟨w28.heap.size, 0, none⟩) 1 1 [1] none 0 0 [] w29 (rxi.below hb28) rxg (RInts.nil_ _) (by decide) (by decide) (by decide) (by decide)).mono ?_
  rintro e w30 ⟨Ahx2, nhx2, chx2, Anx2, nnx2, cnx2, Adx2, ndx2, cdx2, rfl, hEx2, hb29⟩
  have hb30 : Below w30.heap.size w30 (w30.alloc (.cells #[.slice Ahx1 nhx1 chx1, .bool false, .slice Anx1 nnx1 cnx1, .slice Adx1 ndx1 cdx1, .slice none 0 0, .slice (some ⟨w25.heap.size, 0, none⟩) 1 1, .slice Ahx2 nhx2 chx2, .bool false, .slice Anx2 nnx2 cnx2, .slice Adx2 ndx2 cdx2, .slice (some ⟨w28.heap.size, 0, none⟩) 1 1, .slice none 0 0] 41)) := below_allocN
  have hxr := Has.new w30 41 #[.slice Ahx1 nhx1 chx1, .bool false, .slice Anx1 nnx1 cnx1, .slice Adx1 ndx1 cdx1, .slice none 0 0, .slice (some ⟨w25.heap.size, 0, none⟩) 1 1, .slice Ahx2 nhx2 chx2, .bool false, .slice Anx2 nnx2 cnx2, .slice Adx2 ndx2 cdx2, .slice (some ⟨w28.heap.size, 0, none⟩) 1 1, .slice none 0 0]
  generalize hW30 : World.alloc w30 _ = w31 at hb30 hxr
  have gxr : w30.heap.size < w31.heap.size := hxr.lt
  have hB29_31 := Below_trans' hb29 hb29.size hb30
  have hB28_31 := Below_trans' hb28 hb28.size hB29_31
  have hB27_31 := Below_trans' hb27 hb27.size hB28_31
  have rrx := ragg2 (E := ERnd) (size := 6) (us := [.slice Ahx1 nhx1 chx1, .bool false, .slice Anx1 nnx1 cnx1, .slice Adx1 ndx1 cdx1, .slice none 0 0, .slice (some ⟨w25.heap.size, 0, none⟩) 1 1]) (vs := [.slice Ahx2 nhx2 chx2, .bool false, .slice Anx2 nnx2 cnx2, .slice Adx2 ndx2 cdx2, .slice (some ⟨w28.heap.size, 0, none⟩) 1 1, .slice none 0 0]) hxr rfl rfl (hEx1.belowX hB27_31) (hEx2.belowX hb30)
  go_upto_region 10 with fail
  try simp only [hW30]
  clear hW30
  have hb31 : Below w31.heap.size w31 (w31.alloc (.cells #[.slice (some ⟨w23.heap.size, 0, none⟩) 1 1, .slice (some ⟨w30.heap.size, 0, none⟩) 2 2, .slice none 0 0] 31)) := below_allocN
  have hx := Has.new w31 31 #[.slice (some ⟨w23.heap.size, 0, none⟩) 1 1, .slice (some ⟨w30.heap.size, 0, none⟩) 2 2, .slice none 0 0]
  generalize World.alloc w31 _ = w32 at hb31 hx ⊢
  have gx : w31.heap.size < w32.heap.size := hx.lt
  have hb32 : Below w32.heap.size w32 (w32.alloc (.cells #[.int .i64 1] 3)) := below_allocN
  have hyye := Has.new w32 3 #[.int .i64 1]
  generalize hW32 : World.alloc w32 _ = w33 at hb32 hyye
  have gyye : w32.heap.size < w33.heap.size := hyye.lt
  have ryye := lit_ints hyye (I64s.out _ (by decide) (by decide))
  have hb33 : Below w33.heap.size w33 (w33.alloc (.cells #[.int .i64 1, .int .i64 1] 3)) := below_allocN
  have hyyh := Has.new w33 3 #[.int .i64 1, .int .i64 1]
  generalize hW33 : World.alloc w33 _ = w34 at hb33 hyyh
  have gyyh : w33.heap.size < w34.heap.size := hyyh.lt
  have ryyh := lit2 hyyh (I64s.out _ (by decide) (by decide)) (I64s.out _ (by decide) (by decide))
  have hb34 : Below w34.heap.size w34 (w34.alloc (.cells #[.int .i64 0] 3)) := below_allocN
  have hyyo := Has.new w34 3 #[.int .i64 0]
  generalize hW34 : World.alloc w34 _ = w35 at hb34 hyyo
  have gyyo : w34.heap.size < w35.heap.size := hyyo.lt
  have ryyo := lit_ints hyyo (I64s.out _ (by decide) (by decide))
  go_wp2_with fail
  try simp only [hW32, hW33, hW34]
  clear hW32 hW33 hW34
  refine (rnd15_any (some ⟨w33.heap.size, 0, none⟩) 2 2 [1, 1] 0 none 0 0 [] (some ⟨w34.heap.size, 0, none⟩) 1 1 [0] w35 (ryyh.below hb34) (RInts.nil_ _) ryyo (by decide) (by decide) (by decide) (by decide)).mono ?_
  rintro e w36 ⟨Ahyy1, nhyy1, chyy1, Anyy1, nnyy1, cnyy1, Adyy1, ndyy1, cdyy1, rfl, hEyy1, hb35⟩
  have hb36 : Below w36.heap.size w36 (w36.alloc (.cells #[.int .i64 0, .int .i64 1] 3)) := below_allocN
  have hyyi := Has.new w36 3 #[.int .i64 0, .int .i64 1]
  generalize hW36 : World.alloc w36 _ = w37 at hb36 hyyi
  have gyyi : w36.heap.size < w37.heap.size := hyyi.lt
  have ryyi := lit2 hyyi (I64s.out _ (by decide) (by decide)) (I64s.out _ (by decide) (by decide))
  have hb37 : Below w37.heap.size w37 (w37.alloc (.cells #[.int .i64 1] 3)) := below_allocN
  have hyyg := Has.new w37 3 #[.int .i64 1]
  generalize hW37 : World.alloc w37 _ = w38 at hb37 hyyg
  have gyyg : w37.heap.size < w38.heap.size := hyyg.lt
  have ryyg := lit_ints hyyg (I64s.out _ (by decide) (by decide))
  go_wp2_with fail
  try simp only [hW36, hW37]
  clear hW36 hW37
  refine (rnd15_any (some ⟨w36.heap.size, 0, none⟩) 2 2 [0, 1] 1 (some ⟨w37.heap.size, 0, none⟩) 1 1 [1] none 0 0 [] w38 (ryyi.below hb37) ryyg (RInts.nil_ _) (by decide) (by decide) (by decide) (by decide)).mono ?_
  rintro e w39 ⟨Ahyy2, nhyy2, chyy2, Anyy2, nnyy2, cnyy2, Adyy2, ndyy2, cdyy2, rfl, hEyy2, hb38⟩
  have hb39 : Below w39.heap.size w39 (w39.alloc (.cells #[.slice Ahyy1 nhyy1 chyy1, .bool false, .slice Anyy1 nnyy1 cnyy1, .slice Adyy1 ndyy1 cdyy1, .slice none 0 0, .slice (some ⟨w34.heap.size, 0, none⟩) 1 1, .slice Ahyy2 nhyy2 chyy2, .bool false, .slice Anyy2 nnyy2 cnyy2, .slice Adyy2 ndyy2 cdyy2, .slice (some ⟨w37.heap.size, 0, none⟩) 1 1, .slice none 0 0] 41)) := below_allocN
  have hyyr := Has.new w39 41 #[.slice Ahyy1 nhyy1 chyy1, .bool false, .slice Anyy1 nnyy1 cnyy1, .slice Adyy1 ndyy1 cdyy1, .slice none 0 0, .slice (some ⟨w34.heap.size, 0, none⟩) 1 1, .slice Ahyy2 nhyy2 chyy2, .bool false, .slice Anyy2 nnyy2 cnyy2, .slice Adyy2 ndyy2 cdyy2, .slice (some ⟨w37.heap.size, 0, none⟩) 1 1, .slice none 0 0]
  generalize hW39 : World.alloc w39 _ = w40 at hb39 hyyr
  have gyyr : w39.heap.size < w40.heap.size := hyyr.lt
  have hB38_40 := Below_trans' hb38 hb38.size hb39
  have hB37_40 := Below_trans' hb37 hb37.size hB38_40
  have hB36_40 := Below_trans' hb36 hb36.size hB37_40
  have rryy := ragg2 (E := ERnd) (size := 6) (us := [.slice Ahyy1 nhyy1 chyy1, .bool false, .slice Anyy1 nnyy1 cnyy1, .slice Adyy1 ndyy1 cdyy1, .slice none 0 0, .slice (some ⟨w34.heap.size, 0, none⟩) 1 1]) (vs := [.slice Ahyy2 nhyy2 chyy2, .bool false, .slice Anyy2 nnyy2 cnyy2, .slice Adyy2 ndyy2 cdyy2, .slice (some ⟨w37.heap.size, 0, none⟩) 1 1, .slice none 0 0]) hyyr rfl rfl (hEyy1.belowX hB36_40) (hEyy2.belowX hb39)
  have hb40 : Below w40.heap.size w40 (w40.alloc (.cells #[.int .i64 0, .int .i64 1] 3)) := below_allocN
  have hyyt := Has.new w40 3 #[.int .i64 0, .int .i64 1]
  generalize hW40 : World.alloc w40 _ = w41 at hb40 hyyt
  have gyyt : w40.heap.size < w41.heap.size := hyyt.lt
  have ryyt := lit2 hyyt (I64s.out _ (by decide) (by decide)) (I64s.out _ (by decide) (by decide))
  have hb41 : Below w41.heap.size w41 (w41.alloc (.cells #[.slice (some ⟨w40.heap.size, 0, none⟩) 2 2, .int .i64 0] 65)) := below_allocN
  have hyyu := Has.new w41 65 #[.slice (some ⟨w40.heap.size, 0, none⟩) 2 2, .int .i64 0]
  generalize hW41 : World.alloc w41 _ = w42 at hb41 hyyu
  have gyyu : w41.heap.size < w42.heap.size := hyyu.lt
  have rtyy := ragg1 (E := ETie) (size := 2) (us := [.slice (some ⟨w40.heap.size, 0, none⟩) 2 2, .int .i64 0]) (x := (([0, 1], 0) : Row)) hyyu rfl ⟨_, _, _, rfl, (ryyt.below hb41), (I64s.out _ (by decide) (by decide))⟩
  go_upto_region 11 with fail
  try simp only [hW39, hW40, hW41]
  clear hW39 hW40 hW41
  have hb42 : Below w42.heap.size w42 (w42.alloc (.cells #[.slice (some ⟨w32.heap.size, 0, none⟩) 1 1, .slice (some ⟨w39.heap.size, 0, none⟩) 2 2, .slice (some ⟨w41.heap.size, 0, none⟩) 1 1] 31)) := below_allocN
  have hyy := Has.new w42 31 #[.slice (some ⟨w32.heap.size, 0, none⟩) 1 1, .slice (some ⟨w39.heap.size, 0, none⟩) 2 2, .slice (some ⟨w41.heap.size, 0, none⟩) 1 1]
  generalize World.alloc w42 _ = w43 at hb42 hyy ⊢
  have gyy : w42.heap.size < w43.heap.size := hyy.lt
  have hB41_43 := Below_trans' hb41 hb41.size hb42
  have hB40_43 := Below_trans' hb40 hb40.size hB41_43
  have hB39_43 := Below_trans' hb39 hb39.size hB40_43
  have hB38_43 := Below_trans' hb38 hb38.size hB39_43
  have hB37_43 := Below_trans' hb37 hb37.size hB38_43
  have hB36_43 := Below_trans' hb36 hb36.size hB37_43
  have hB35_43 := Below_trans' hb35 hb35.size hB36_43
  have hB34_43 := Below_trans' hb34 hb34.size hB35_43
  have hB33_43 := Below_trans' hb33 hb33.size hB34_43
  have hB32_43 := Below_trans' hb32 hb32.size hB33_43
  have hB31_43 := Below_trans' hb31 hb31.size hB32_43
  have hB30_43 := Below_trans' hb30 hb30.size hB31_43
  have hB29_43 := Below_trans' hb29 hb29.size hB30_43
  have hB28_43 := Below_trans' hb28 hb28.size hB29_43
  have hB27_43 := Below_trans' hb27 hb27.size hB28_43
  have hB26_43 := Below_trans' hb26 hb26.size hB27_43
  have hB25_43 := Below_trans' hb25 hb25.size hB26_43
  have hB24_43 := Below_trans' hb24 hb24.size hB25_43
  have hB23_43 := Below_trans' hb23 hb23.size hB24_43
  have hB22_43 := Below_trans' hb22 hb22.size hB23_43
  have hB21_43 := Below_trans' hb21 hb21.size hB22_43
  have hB20_43 := Below_trans' hb20 hb20.size hB21_43
  have hB19_43 := Below_trans' hb19 hb19.size hB20_43
  have hB18_43 := Below_trans' hb18 hb18.size hB19_43
  have hB17_43 := Below_trans' hb17 hb17.size hB18_43
  have hB16_43 := Below_trans' hb16 hb16.size hB17_43
  have hB15_43 := Below_trans' hb15 hb15.size hB16_43
  have hB14_43 := Below_trans' hb14 hb14.size hB15_43
  have hB13_43 := Below_trans' hb13 hb13.size hB14_43
  have hB12_43 := Below_trans' hb12 hb12.size hB13_43
  have co1_0 := (ho1.below hB12_43 ho1.lt).cell 0
  have co1_1 := (ho1.below hB12_43 ho1.lt).cell 1
  have co1_2 := (ho1.below hB12_43 ho1.lt).cell 2
  have cx_0 := (hx.below hB32_43 hx.lt).cell 0
  have cx_1 := (hx.below hB32_43 hx.lt).cell 1
  have cx_2 := (hx.below hB32_43 hx.lt).cell 2
  go_wp2_with fail
  have hB11_43 := Below_trans' hb11 hb11.size hB12_43
  refine (same_eq _ _ _ _ _ _ _ _ _ _ _ _ _ _ _ _ _ _ ex15o1 w43 (hO1.below hB11_43) ⟨(rxe.below hB24_43), (rrx.below below_rnd hB31_43), (RAgg.nil_ _ _ _)⟩).mono ?_
  rintro e w44 ⟨rfl, hb43⟩
  clear co1_0 co1_1 co1_2 cx_0 cx_1 cx_2
  have hB42_44 := Below_trans' hb42 hb42.size hb43
  have hB41_44 := Below_trans' hb41 hb41.size hB42_44
  have hB40_44 := Below_trans' hb40 hb40.size hB41_44
  have hB39_44 := Below_trans' hb39 hb39.size hB40_44
  have hB38_44 := Below_trans' hb38 hb38.size hB39_44
  have hB37_44 := Below_trans' hb37 hb37.size hB38_44
  have hB36_44 := Below_trans' hb36 hb36.size hB37_44
  have hB35_44 := Below_trans' hb35 hb35.size hB36_44
  have hB34_44 := Below_trans' hb34 hb34.size hB35_44
  have hB33_44 := Below_trans' hb33 hb33.size hB34_44
  have hB32_44 := Below_trans' hb32 hb32.size hB33_44
  have hB31_44 := Below_trans' hb31 hb31.size hB32_44
  have hB30_44 := Below_trans' hb30 hb30.size hB31_44
  have hB29_44 := Below_trans' hb29 hb29.size hB30_44
  have hB28_44 := Below_trans' hb28 hb28.size hB29_44
  have hB27_44 := Below_trans' hb27 hb27.size hB28_44
  have hB26_44 := Below_trans' hb26 hb26.size hB27_44
  have hB25_44 := Below_trans' hb25 hb25.size hB26_44
  have hB24_44 := Below_trans' hb24 hb24.size hB25_44
  have hB23_44 := Below_trans' hb23 hb23.size hB24_44
  have hB22_44 := Below_trans' hb22 hb22.size hB23_44
  have hB21_44 := Below_trans' hb21 hb21.size hB22_44
  have hB20_44 := Below_trans' hb20 hb20.size hB21_44
  have hB19_44 := Below_trans' hb19 hb19.size hB20_44
  have hB18_44 := Below_trans' hb18 hb18.size hB19_44
  have hB17_44 := Below_trans' hb17 hb17.size hB18_44
  have hB16_44 := Below_trans' hb16 hb16.size hB17_44
  have hB15_44 := Below_trans' hb15 hb15.size hB16_44
  have co2_0 := (ho2.below hB15_44 ho2.lt).cell 0
  have co2_1 := (ho2.below hB15_44 ho2.lt).cell 1
  have co2_2 := (ho2.below hB15_44 ho2.lt).cell 2
  have cyy_0 := (hyy.below hb43 hyy.lt).cell 0
  have cyy_1 := (hyy.below hb43 hyy.lt).cell 1
  have cyy_2 := (hyy.below hb43 hyy.lt).cell 2
  go_wp2_with fail
  have hB14_44 := Below_trans' hb14 hb14.size hB15_44
  refine (same_eq _ _ _ _ _ _ _ _ _ _ _ _ _ _ _ _ _ _ ex15o2 w44 (hO2.below hB14_44) ⟨(ryye.below hB33_44), (rryy.below below_rnd hB40_44), (rtyy.below below_tie hB42_44)⟩).mono ?_
  rintro e w45 ⟨rfl, hb44⟩
  clear co2_0 co2_1 co2_2 cyy_0 cyy_1 cyy_2
  have hb45 : Below w45.heap.size w45 (w45.alloc (.cells #[.int .i64 0, .int .i64 9, .int .i64 0] 3)) := below_allocN
  have hz := Has.new w45 3 #[.int .i64 0, .int .i64 9, .int .i64 0]
  generalize hW45 : World.alloc w45 _ = w46 at hb45 hz
  have gz : w45.heap.size < w46.heap.size := hz.lt
  have rz := lit3 hz (I64s.out _ (by decide) (by decide)) (I64s.out _ (by decide) (by decide)) (I64s.out _ (by decide) (by decide))
  go_wp2_with fail
  try simp only [hW45]
  clear hW45
  have hB44_46 := Below_trans' hb44 hb44.size hb45
  have hB43_46 := Below_trans' hb43 hb43.size hB44_46
  have hB42_46 := Below_trans' hb42 hb42.size hB43_46
  have hB41_46 := Below_trans' hb41 hb41.size hB42_46
  have hB40_46 := Below_trans' hb40 hb40.size hB41_46
  have hB39_46 := Below_trans' hb39 hb39.size hB40_46
  have hB38_46 := Below_trans' hb38 hb38.size hB39_46
  have hB37_46 := Below_trans' hb37 hb37.size hB38_46
  have hB36_46 := Below_trans' hb36 hb36.size hB37_46
  have hB35_46 := Below_trans' hb35 hb35.size hB36_46
  have hB34_46 := Below_trans' hb34 hb34.size hB35_46
  have hB33_46 := Below_trans' hb33 hb33.size hB34_46
  have hB32_46 := Below_trans' hb32 hb32.size hB33_46
  have hB31_46 := Below_trans' hb31 hb31.size hB32_46
  have hB30_46 := Below_trans' hb30 hb30.size hB31_46
  have hB29_46 := Below_trans' hb29 hb29.size hB30_46
  have hB28_46 := Below_trans' hb28 hb28.size hB29_46
  have hB27_46 := Below_trans' hb27 hb27.size hB28_46
  have hB26_46 := Below_trans' hb26 hb26.size hB27_46
  have hB25_46 := Below_trans' hb25 hb25.size hB26_46
  have hB24_46 := Below_trans' hb24 hb24.size hB25_46
  have hB23_46 := Below_trans' hb23 hb23.size hB24_46
  have hB22_46 := Below_trans' hb22 hb22.size hB23_46
  refine (ints_eq _ _ _ _ _ _ [0, 9, 0] w46 (rF5.below hB22_46) rz).mono ?_
  rintro e w47 ⟨rfl, hb46⟩
  go_wp2
  go_ret
  have hB45_47 := Below_trans' hb45 hb45.size hb46
  have hB44_47 := Below_trans' hb44 hb44.size hB45_47
  have hB43_47 := Below_trans' hb43 hb43.size hB44_47
  have hB42_47 := Below_trans' hb42 hb42.size hB43_47
  have hB41_47 := Below_trans' hb41 hb41.size hB42_47
  have hB40_47 := Below_trans' hb40 hb40.size hB41_47
  have hB39_47 := Below_trans' hb39 hb39.size hB40_47
  have hB38_47 := Below_trans' hb38 hb38.size hB39_47
  have hB37_47 := Below_trans' hb37 hb37.size hB38_47
  have hB36_47 := Below_trans' hb36 hb36.size hB37_47
  have hB35_47 := Below_trans' hb35 hb35.size hB36_47
  have hB34_47 := Below_trans' hb34 hb34.size hB35_47
  have hB33_47 := Below_trans' hb33 hb33.size hB34_47
  have hB32_47 := Below_trans' hb32 hb32.size hB33_47
  have hB31_47 := Below_trans' hb31 hb31.size hB32_47
  have hB30_47 := Below_trans' hb30 hb30.size hB31_47
  have hB29_47 := Below_trans' hb29 hb29.size hB30_47
  have hB28_47 := Below_trans' hb28 hb28.size hB29_47
  have hB27_47 := Below_trans' hb27 hb27.size hB28_47
  have hB26_47 := Below_trans' hb26 hb26.size hB27_47
  have hB25_47 := Below_trans' hb25 hb25.size hB26_47
  have hB24_47 := Below_trans' hb24 hb24.size hB25_47
  have hB23_47 := Below_trans' hb23 hb23.size hB24_47
  have hB22_47 := Below_trans' hb22 hb22.size hB23_47
  have hB21_47 := Below_trans' hb21 hb21.size hB22_47
  have hB20_47 := Below_trans' hb20 hb20.size hB21_47
  have hB19_47 := Below_trans' hb19 hb19.size hB20_47
  have hB18_47 := Below_trans' hb18 hb18.size hB19_47
  have hB17_47 := Below_trans' hb17 hb17.size hB18_47
  have hB16_47 := Below_trans' hb16 hb16.size hB17_47
  have hB15_47 := Below_trans' hb15 hb15.size hB16_47
  have hB14_47 := Below_trans' hb14 hb14.size hB15_47
  have hB13_47 := Below_trans' hb13 hb13.size hB14_47
  have hB12_47 := Below_trans' hb12 hb12.size hB13_47
  have hB11_47 := Below_trans' hb11 hb11.size hB12_47
  have hB10_47 := Below_trans' hb10 hb10.size hB11_47
  have hB9_47 := Below_trans' hb9 hb9.size hB10_47
  have hB8_47 := Below_trans' hb8 hb8.size hB9_47
  have hB7_47 := Below_trans' hb7 hb7.size hB8_47
  have hB6_47 := Below_trans' hb6 hb6.size hB7_47
  have hB5_47 := Below_trans' hb5 hb5.size hB6_47
  have hB4_47 := Below_trans' hb4 hb4.size hB5_47
  have hB3_47 := Below_trans' hb3 hb3.size hB4_47
  have hB2_47 := Below_trans' hb2 hb2.size hB3_47
  have hB1_47 := Below_trans' hb1 hb1.size hB2_47
  have hB0_47 := Below_trans' hb0 hb0.size hB1_47
  exact ⟨rfl, hB0_47⟩
end Go.Proofs.YthkkadmgcicedaaGreat
