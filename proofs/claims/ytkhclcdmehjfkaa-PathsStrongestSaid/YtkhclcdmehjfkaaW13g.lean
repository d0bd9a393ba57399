/-
  The numbers of chapter 13's examples.
  The examples of chapter 13.
-/
import Derived.Test.YtkhclcdmehjfkaaW13e
import Derived.Test.YtkhclcdmehjfkaaW11g
import Derived.Test.YtkhclcdmehjfkaaMat
namespace Go.Proofs.Ytkhclcdmehjfkaa
open Go.RowKit Go.Proofs

def ex13p : List Row := [([0, 1, 2], 3), ([1, 2, 0], 2), ([2, 0, 1], 2)]
def ex13m : M := fun x y => if x = 0 ∧ y = 1 then 5 else if x = 0 ∧ y = 2 then 3 else if x = 1 ∧ y = 0 then 2 else if x = 1 ∧ y = 2 then 5 else if x = 2 ∧ y = 0 then 4 else if x = 2 ∧ y = 1 then 2 else 0
def ex13s : M := fun x y => if x = 0 ∧ y = 1 then 5 else if x = 0 ∧ y = 2 then 5 else if x = 1 ∧ y = 0 then 4 else if x = 1 ∧ y = 2 then 5 else if x = 2 ∧ y = 0 then 4 else if x = 2 ∧ y = 1 then 4 else 0
theorem ex13_c : checkS 3 1 ex13p = 0 := by kernel_rfl
theorem ex13_of : matEq (ofR 3 1 ex13p) ex13m = true := by kernel_rfl
theorem ex13_e3 : strErr ex13m 3 = 0 := by kernel_rfl
theorem ex13_e0 : strErr ex13m 0 = 2 := by kernel_rfl
theorem ex13_e2 : strErr ex13m 2 = 8 := by kernel_rfl
theorem ex13_s : matEq (strV ex13m 3) ex13s = true := by kernel_rfl
theorem ex13_m1 : mayS 3 1 ex13p 1 1 1 [2, 1, 0] = 0 := by kernel_rfl
theorem ex13_m2 : mayS 3 1 ex13p 1 2 1 [2, 1, 0] = 2 := by kernel_rfl
theorem ex13_m3 : mayS 0 0 [] 1 1 1 [] = 8 := by kernel_rfl
theorem ex13_p1 : strP ex13m [0, 1, 2] = 5 := by kernel_rfl
theorem ex13_p2 : strP ex13m [1, 2, 0] = 4 := by kernel_rfl
theorem ex13_p3 : strP ex13m [1, 0] = 0 := by kernel_rfl
theorem ex13_p4 : strP ex13m [1] = 0 := by kernel_rfl
theorem ex13_p5 : strP ex13m [0, 10] = 0 := by kernel_rfl
def ex13o : Outc := ([0], [rndS [2, 1, 0] 0 [0] []], [])
theorem ex13_o : pathR 3 1 ex13p 1 [2, 1, 0] = ex13o := by kernel_rfl
end Go.Proofs.Ytkhclcdmehjfkaa

namespace Go.Proofs.Ytkhclcdmehjfkaa
open Go.RowKit Go.Proofs Go.Shelf
attribute [local go_sem] cell?_more cell?_alloc_some cell?_setCell_far frozen?_alloc_some frozen?_more
/-- A build without memory, by an operation with a guard. -/
theorem bdG {o : Oper} {a : Act} {w : World} {K : Act → World → Prop} {Q : Exit → Act → World → Prop} {T : TypeId} {ps : Array (Nat × Operand)} (ho : o.op = .build T ps) (cells : Array Value) (hc : Try.prog.built T (ps.map fun (i, x) => (i, a.eval x)).toList = some cells)
    (h : K (a.put o.dst (.agg cells)) w) : o.wp Try.prog a w K Q := by
  unfold Oper.wp execOp
  have hz := run_build w _ _ _ hc
  simp only [ho, Sem.run_bind, Result.andThen_ok, hz]
  exact h

set_option maxRecDepth 100000 in
set_option maxHeartbeats 8000000 in
theorem wakes13_any (w0 : World) : Calls Try.prog 5 #[] w0 fun e w' => e = .returned (.bool true) ∧ Below w0.heap.size w0 w' := by
  have i64 : ∀ x : Int, 0 ≤ x → x ≤ 100 → I64 x := fun x h1 h2 => ⟨by omega, by omega⟩
  have I64s := hide i64
  clear i64
  go_enter Try.func5, Try.ntmps5
  have hb0 : Below w0.heap.size w0 (w0.alloc (.cells #[.int .i64 0, .int .i64 1, .int .i64 2] 3)) := below_allocN
  have ha1 := Has.new w0 3 #[.int .i64 0, .int .i64 1, .int .i64 2]
  generalize hW0 : World.alloc w0 _ = w1 at hb0 ha1
  have ga1 : w0.heap.size < w1.heap.size := ha1.lt
  have ra1 := lit3 ha1 (I64s.out _ (by decide) (by decide)) (I64s.out _ (by decide) (by decide)) (I64s.out _ (by decide) (by decide))
  have hb1 : Below w1.heap.size w1 (w1.alloc (.cells #[.int .i64 1, .int .i64 2, .int .i64 0] 3)) := below_allocN
  have ha2 := Has.new w1 3 #[.int .i64 1, .int .i64 2, .int .i64 0]
  generalize hW1 : World.alloc w1 _ = w2 at hb1 ha2
  have ga2 : w1.heap.size < w2.heap.size := ha2.lt
  have ra2 := lit3 ha2 (I64s.out _ (by decide) (by decide)) (I64s.out _ (by decide) (by decide)) (I64s.out _ (by decide) (by decide))
  have hb2 : Below w2.heap.size w2 (w2.alloc (.cells #[.int .i64 2, .int .i64 0, .int .i64 1] 3)) := below_allocN
  have ha3 := Has.new w2 3 #[.int .i64 2, .int .i64 0, .int .i64 1]
  generalize hW2 : World.alloc w2 _ = w3 at hb2 ha3
  have ga3 : w2.heap.size < w3.heap.size := ha3.lt
  have ra3 := lit3 ha3 (I64s.out _ (by decide) (by decide)) (I64s.out _ (by decide) (by decide)) (I64s.out _ (by decide) (by decide))
  have hb3 : Below w3.heap.size w3 (w3.alloc (.cells #[.slice (some ⟨w0.heap.size, 0, none⟩) 3 3, .int .i64 3, .slice (some ⟨w1.heap.size, 0, none⟩) 3 3, .int .i64 2, .slice (some ⟨w2.heap.size, 0, none⟩) 3 3, .int .i64 2] 33)) := below_allocN
  have hrw := Has.new w3 33 #[.slice (some ⟨w0.heap.size, 0, none⟩) 3 3, .int .i64 3, .slice (some ⟨w1.heap.size, 0, none⟩) 3 3, .int .i64 2, .slice (some ⟨w2.heap.size, 0, none⟩) 3 3, .int .i64 2]
  generalize hW3 : World.alloc w3 _ = w4 at hb3 hrw
  have grw : w3.heap.size < w4.heap.size := hrw.lt
  have hB2_4 := Below_trans' hb2 hb2.size hb3
  have hB1_4 := Below_trans' hb1 hb1.size hB2_4
  have rP := rows3 (ra1.below hB1_4) (ra2.below hB2_4) (ra3.below hb3) (I64s.out _ (by decide) (by decide)) (I64s.out _ (by decide) (by decide)) (I64s.out _ (by decide) (by decide)) hrw
  have hb4 : Below w4.heap.size w4 (w4.alloc (.cells #[.int .i64 3, .int .u8 1, .slice (some ⟨w3.heap.size, 0, none⟩) 3 3] 36)) := below_allocN
  have hp := Has.new w4 36 #[.int .i64 3, .int .u8 1, .slice (some ⟨w3.heap.size, 0, none⟩) 3 3]
  generalize hW4 : World.alloc w4 _ = w5 at hb4 hp
  have gp : w4.heap.size < w5.heap.size := hp.lt
  go_upto_region 2 with fail
  try simp only [hW0, hW1, hW2, hW3, hW4]
  clear hW0 hW1 hW2 hW3 hW4
  have cp_0 := hp.cell 0
  have cp_1 := hp.cell 1
  have cp_2 := hp.cell 2
  go_wp2_with fail
  have hof := pof_any 3 1 (some ⟨w3.heap.size, 0, none⟩) 3 3 ex13p w5 (rP.below hb4)
  unfold POfPost at hof
  refine (hof).mono ?_
  rintro e w6 ⟨D, rfl, hD0, hb5⟩
  clear cp_0 cp_1 cp_2
  clear hof
  rw [ex13_c]
  have hD : Mat D ex13m := hD0.congr (matEq_iff.1 ex13_of)
  have hDs := hD.size
  clear hD0
  go_upto_region 3 with (refine stMat rfl rfl rfl rfl (Has.new _ _ _) zeroMat.size hD.size hD.one ?_)
  have hb6 : Below w6.heap.size w6 ((w6.alloc (.cells Try.zeroCells24 24)).setRow w6.heap.size D) := below_setRow below_allocN (Nat.le_refl _) _
  have hm : Has ((w6.alloc (.cells Try.zeroCells24 24)).setRow w6.heap.size D) w6.heap.size 24 D := (Has.new _ _ _).setRow _
  generalize World.setRow (World.alloc w6 _) _ _ = w7 at hb6 hm ⊢
  have gm : w6.heap.size < w7.heap.size := hm.lt
  have ldm := hm
  go_wp2_with (refine ldMat rfl rfl rfl ldm hDs ?_)
  clear ldm
  refine (strengths_any D ex13m hD 3 w7).mono ?_
  rintro e w8 ⟨S, rfl, hS0, hb7⟩
  rw [ex13_e3]
  have hS : Mat S ex13s := hS0.congr (matEq_iff.1 ex13_s)
  have hSs := hS.size
  clear hS0
  go_upto_region 4 with (refine stMat rfl rfl rfl rfl (Has.new _ _ _) zeroMat.size hS.size hS.one ?_)
  have hb8 : Below w8.heap.size w8 ((w8.alloc (.cells Try.zeroCells24 24)).setRow w8.heap.size S) := below_setRow below_allocN (Nat.le_refl _) _
  have hs : Has ((w8.alloc (.cells Try.zeroCells24 24)).setRow w8.heap.size S) w8.heap.size 24 S := (Has.new _ _ _).setRow _
  generalize World.setRow (World.alloc w8 _) _ _ = w9 at hb8 hs ⊢
  have gs : w8.heap.size < w9.heap.size := hs.lt
  have hB7_9 := Below_trans' hb7 hb7.size hb8
  have hB6_9 := Below_trans' hb6 hb6.size hB7_9
  have hB5_9 := Below_trans' hb5 hb5.size hB6_9
  have cp_0 := (hp.below hB5_9 hp.lt).cell 0
  have cp_1 := (hp.below hB5_9 hp.lt).cell 1
  have cp_2 := (hp.below hB5_9 hp.lt).cell 2
  have hb9 : Below w9.heap.size w9 (w9.alloc (.cells #[.int .i64 2, .int .i64 1, .int .i64 0] 3)) := below_allocN
  have hl1 := Has.new w9 3 #[.int .i64 2, .int .i64 1, .int .i64 0]
  generalize hW9 : World.alloc w9 _ = w10 at hb9 hl1
  have gl1 : w9.heap.size < w10.heap.size := hl1.lt
  have rl1 := lit3 hl1 (I64s.out _ (by decide) (by decide)) (I64s.out _ (by decide) (by decide)) (I64s.out _ (by decide) (by decide))
  go_wp2_with fail
  try simp only [hW9]
  clear hW9
  have hB8_10 := Below_trans' hb8 hb8.size hb9
  have hB7_10 := Below_trans' hb7 hb7.size hB8_10
  have hB6_10 := Below_trans' hb6 hb6.size hB7_10
  have hB5_10 := Below_trans' hb5 hb5.size hB6_10
  have hB4_10 := Below_trans' hb4 hb4.size hB5_10
  refine (schulze_any 3 1 (some ⟨w3.heap.size, 0, none⟩) 3 3 ex13p 1 (some ⟨w9.heap.size, 0, none⟩) 3 3 [2, 1, 0] w10 (rP.below hB4_10) rl1 (by decide)).mono ?_
  rintro e w11 ⟨E1, ne1, ce1, R1, nr1, cr1, V1, nv1, cv1, rfl, hO1, hb10⟩
  clear cp_0 cp_1 cp_2
  rw [ex13_o] at hO1
  rw [ex13_m1]
  have hb11 : Below w11.heap.size w11 (w11.alloc (.cells #[.slice E1 ne1 ce1, .slice R1 nr1 cr1, .slice V1 nv1 cv1] 41)) := below_allocN
  have ho1 := Has.new w11 41 #[.slice E1 ne1 ce1, .slice R1 nr1 cr1, .slice V1 nv1 cv1]
  generalize hW11 : World.alloc w11 _ = w12 at hb11 ho1
  have go1 : w11.heap.size < w12.heap.size := ho1.lt
  go_upto_region 5 with fail
  try simp only [hW11]
  clear hW11
  have hB10_12 := Below_trans' hb10 hb10.size hb11
  have hB9_12 := Below_trans' hb9 hb9.size hB10_12
  have hB8_12 := Below_trans' hb8 hb8.size hB9_12
  have hB7_12 := Below_trans' hb7 hb7.size hB8_12
  have hB6_12 := Below_trans' hb6 hb6.size hB7_12
  have hB5_12 := Below_trans' hb5 hb5.size hB6_12
  have cp_0 := (hp.below hB5_12 hp.lt).cell 0
  have cp_1 := (hp.below hB5_12 hp.lt).cell 1
  have cp_2 := (hp.below hB5_12 hp.lt).cell 2
  have hb12 : Below w12.heap.size w12 (w12.alloc (.cells #[.int .i64 2, .int .i64 1, .int .i64 0] 3)) := below_allocN
  have hl2 := Has.new w12 3 #[.int .i64 2, .int .i64 1, .int .i64 0]
  generalize hW12 : World.alloc w12 _ = w13 at hb12 hl2
  have gl2 : w12.heap.size < w13.heap.size := hl2.lt
  have rl2 := lit3 hl2 (I64s.out _ (by decide) (by decide)) (I64s.out _ (by decide) (by decide)) (I64s.out _ (by decide) (by decide))
  go_wp2_with fail
  try simp only [hW12]
  clear hW12
  have hB11_13 := Below_trans' hb11 hb11.size hb12
  have hB10_13 := Below_trans' hb10 hb10.size hB11_13
  have hB9_13 := Below_trans' hb9 hb9.size hB10_13
  have hB8_13 := Below_trans' hb8 hb8.size hB9_13
  have hB7_13 := Below_trans' hb7 hb7.size hB8_13
  have hB6_13 := Below_trans' hb6 hb6.size hB7_13
  have hB5_13 := Below_trans' hb5 hb5.size hB6_13
  have hB4_13 := Below_trans' hb4 hb4.size hB5_13
  refine (schulze_any 3 1 (some ⟨w3.heap.size, 0, none⟩) 3 3 ex13p 2 (some ⟨w12.heap.size, 0, none⟩) 3 3 [2, 1, 0] w13 (rP.below hB4_13) rl2 (by decide)).mono ?_
  rintro e w14 ⟨E2, ne2, ce2, R2, nr2, cr2, V2, nv2, cv2, rfl, hO2, hb13⟩
  clear cp_0 cp_1 cp_2
  rw [pathR_bad (by rw [ex13_m2]; decide)] at hO2
  rw [ex13_m2]
  have hb14 : Below w14.heap.size w14 (w14.alloc (.cells #[.slice E2 ne2 ce2, .slice R2 nr2 cr2, .slice V2 nv2 cv2] 41)) := below_allocN
  have ho2 := Has.new w14 41 #[.slice E2 ne2 ce2, .slice R2 nr2 cr2, .slice V2 nv2 cv2]
  generalize hW14 : World.alloc w14 _ = w15 at hb14 ho2
  have go2 : w14.heap.size < w15.heap.size := ho2.lt
  go_upto_region 6 with fail
  try simp only [hW14]
  clear hW14
  go_wp2_with fail
  refine (schulze_any 0 0 none 0 0 [] 1 none 0 0 [] w15 (RRows.nil_ _) (RInts.nil_ _) (by decide)).mono ?_
  rintro e w16 ⟨E4, ne4, ce4, R4, nr4, cr4, V4, nv4, cv4, rfl, hO4, hb15⟩
  rw [ex13_m3]
  have hb16 : Below w16.heap.size w16 (w16.alloc (.cells #[.slice E4 ne4 ce4, .slice R4 nr4 cr4, .slice V4 nv4 cv4] 41)) := below_allocN
  have ho4 := Has.new w16 41 #[.slice E4 ne4 ce4, .slice R4 nr4 cr4, .slice V4 nv4 cv4]
  generalize hW16 : World.alloc w16 _ = w17 at hb16 ho4
  have go4 : w16.heap.size < w17.heap.size := ho4.lt
  go_upto_region 7 with fail
  try simp only [hW16]
  clear hW16
  have hB15_17 := Below_trans' hb15 hb15.size hb16
  have hB14_17 := Below_trans' hb14 hb14.size hB15_17
  have hB13_17 := Below_trans' hb13 hb13.size hB14_17
  have hB12_17 := Below_trans' hb12 hb12.size hB13_17
  have hB11_17 := Below_trans' hb11 hb11.size hB12_17
  have hB10_17 := Below_trans' hb10 hb10.size hB11_17
  have hB9_17 := Below_trans' hb9 hb9.size hB10_17
  have hB8_17 := Below_trans' hb8 hb8.size hB9_17
  have hB7_17 := Below_trans' hb7 hb7.size hB8_17
  have ldm := (hm.below hB7_17 hm.lt)
  go_wp2_with (refine ldMat rfl rfl rfl ldm hDs ?_)
  clear ldm
  refine (strengths_any D ex13m hD 0 w17).mono ?_
  rintro e w18 ⟨S0, rfl, hS0, hb17⟩
  rw [ex13_e0]
  go_upto_region 8 with (refine stMat rfl rfl rfl rfl (Has.new _ _ _) zeroMat.size hS0.size hS0.one ?_)
  have hb18 : Below w18.heap.size w18 ((w18.alloc (.cells Try.zeroCells24 24)).setRow w18.heap.size S0) := below_setRow below_allocN (Nat.le_refl _) _
  have hs0 : Has ((w18.alloc (.cells Try.zeroCells24 24)).setRow w18.heap.size S0) w18.heap.size 24 S0 := (Has.new _ _ _).setRow _
  generalize World.setRow (World.alloc w18 _) _ _ = w19 at hb18 hs0 ⊢
  have gs0 : w18.heap.size < w19.heap.size := hs0.lt
  have hB17_19 := Below_trans' hb17 hb17.size hb18
  have hB16_19 := Below_trans' hb16 hb16.size hB17_19
  have hB15_19 := Below_trans' hb15 hb15.size hB16_19
  have hB14_19 := Below_trans' hb14 hb14.size hB15_19
  have hB13_19 := Below_trans' hb13 hb13.size hB14_19
  have hB12_19 := Below_trans' hb12 hb12.size hB13_19
  have hB11_19 := Below_trans' hb11 hb11.size hB12_19
  have hB10_19 := Below_trans' hb10 hb10.size hB11_19
  have hB9_19 := Below_trans' hb9 hb9.size hB10_19
  have hB8_19 := Below_trans' hb8 hb8.size hB9_19
  have hB7_19 := Below_trans' hb7 hb7.size hB8_19
  have ldm := (hm.below hB7_19 hm.lt)
  go_wp2_with (refine ldMat rfl rfl rfl ldm hDs ?_)
  clear ldm
  refine (strengths_any D ex13m hD 2 w19).mono ?_
  rintro e w20 ⟨S2, rfl, hS2, hb19⟩
  rw [ex13_e2]
  go_upto_region 9 with (refine stMat rfl rfl rfl rfl (Has.new _ _ _) zeroMat.size hS2.size hS2.one ?_)
  have hb20 : Below w20.heap.size w20 ((w20.alloc (.cells Try.zeroCells24 24)).setRow w20.heap.size S2) := below_setRow below_allocN (Nat.le_refl _) _
  have hs2 : Has ((w20.alloc (.cells Try.zeroCells24 24)).setRow w20.heap.size S2) w20.heap.size 24 S2 := (Has.new _ _ _).setRow _
  generalize World.setRow (World.alloc w20 _) _ _ = w21 at hb20 hs2 ⊢
  have gs2 : w20.heap.size < w21.heap.size := hs2.lt
  have hb21 : Below w21.heap.size w21 (w21.alloc (.cells #[.int .i64 0] 3)) := below_allocN
  have hwe := Has.new w21 3 #[.int .i64 0]
  generalize hW21 : World.alloc w21 _ = w22 at hb21 hwe
  have gwe : w21.heap.size < w22.heap.size := hwe.lt
  have rwe := lit_ints hwe (I64s.out _ (by decide) (by decide))
  have hb22 : Below w22.heap.size w22 (w22.alloc (.cells #[.int .i64 2, .int .i64 1, .int .i64 0] 3)) := below_allocN
  have hwh := Has.new w22 3 #[.int .i64 2, .int .i64 1, .int .i64 0]
  generalize hW22 : World.alloc w22 _ = w23 at hb22 hwh
  have gwh : w22.heap.size < w23.heap.size := hwh.lt
  have rwh := lit3 hwh (I64s.out _ (by decide) (by decide)) (I64s.out _ (by decide) (by decide)) (I64s.out _ (by decide) (by decide))
  go_wp2_with fail
  try simp only [hW21, hW22]
  clear hW21 hW22
  refine (rwholes_any (some ⟨w22.heap.size, 0, none⟩) 3 3 [2, 1, 0] w23 rwh (by decide) (by decide)).mono ?_
  rintro e w24 ⟨vW, fpW, rfl, hOW, hfW, hb23⟩
  obtain ⟨AW, cW, rfl⟩ := hOW.slice
  simp only [List.length_map, List.length_cons, List.length_nil] at hOW ⊢
  have rW := hOW.reads
  go_wp2_with fail
  refine (rwhole_any 0 w24 (by decide) (by decide)).mono ?_
  rintro e w25 ⟨An, nn, cn, Ad, nd, cd, rfl, hN, hDn, hb24, hfN⟩
  have hb25 : Below w25.heap.size w25 (w25.alloc (.cells #[.int .i64 0] 3)) := below_allocN
  have hwf := Has.new w25 3 #[.int .i64 0]
  generalize hW25 : World.alloc w25 _ = w26 at hb25 hwf
  have gwf : w25.heap.size < w26.heap.size := hwf.lt
  have rwf := lit_ints hwf (I64s.out _ (by decide) (by decide))
  have hb26 : Below w26.heap.size w26 (w26.alloc (.cells #[.slice AW 3 cW, .bool false, .slice An nn cn, .slice Ad nd cd, .slice (some ⟨w25.heap.size, 0, none⟩) 1 1, .slice none 0 0] 51)) := below_allocN
  have hwr := Has.new w26 51 #[.slice AW 3 cW, .bool false, .slice An nn cn, .slice Ad nd cd, .slice (some ⟨w25.heap.size, 0, none⟩) 1 1, .slice none 0 0]
  generalize hW26 : World.alloc w26 _ = w27 at hb26 hwr
  have gwr : w26.heap.size < w27.heap.size := hwr.lt
  have hB25_27 := Below_trans' hb25 hb25.size hb26
  have hB24_27 := Below_trans' hb24 hb24.size hB25_27
  have rR := ragg1 (E := ERnd) (size := 6) (us := [.slice AW 3 cW, .bool false, .slice An nn cn, .slice Ad nd cd, .slice (some ⟨w25.heap.size, 0, none⟩) 1 1, .slice none 0 0]) (x := rndS [2, 1, 0] 0 [0] []) hwr rfl ⟨AW, 3, cW, _, _, _, _, 1, 1, none, 0, 0, rfl, (rW.below below_rat hB24_27), ⟨An, nn, cn, Ad, nd, cd, rfl, (hN.below hB25_27), (hDn.below hB25_27)⟩, (rwf.below hb26), RInts.nil_ _⟩
  go_upto_region 10 with fail
  try simp only [hW25, hW26]
  clear hW25 hW26
  have hb27 : Below w27.heap.size w27 (w27.alloc (.cells #[.slice (some ⟨w21.heap.size, 0, none⟩) 1 1, .slice (some ⟨w26.heap.size, 0, none⟩) 1 1, .slice none 0 0] 41)) := below_allocN
  have hx := Has.new w27 41 #[.slice (some ⟨w21.heap.size, 0, none⟩) 1 1, .slice (some ⟨w26.heap.size, 0, none⟩) 1 1, .slice none 0 0]
  generalize World.alloc w27 _ = w28 at hb27 hx ⊢
  have gx : w27.heap.size < w28.heap.size := hx.lt
  simp only [List.append]
  have he : ∀ w : World, (Op.equalIn 10000 24 (.agg S) (.agg (canon ex13s))).run Try.prog w = .ok true w := by
    have := eqMat hS (canon_mat hS.bd)
    rwa [show matEq ex13s ex13s = true from matEq_self _] at this
  have hgd := eqGuardMat
  go_wp2
  have hB26_28 := Below_trans' hb26 hb26.size hb27
  have hB25_28 := Below_trans' hb25 hb25.size hB26_28
  have hB24_28 := Below_trans' hb24 hb24.size hB25_28
  have hB23_28 := Below_trans' hb23 hb23.size hB24_28
  have hB22_28 := Below_trans' hb22 hb22.size hB23_28
  have hB21_28 := Below_trans' hb21 hb21.size hB22_28
  have hB20_28 := Below_trans' hb20 hb20.size hB21_28
  have hB19_28 := Below_trans' hb19 hb19.size hB20_28
  have hB18_28 := Below_trans' hb18 hb18.size hB19_28
  have hB17_28 := Below_trans' hb17 hb17.size hB18_28
  have hB16_28 := Below_trans' hb16 hb16.size hB17_28
  have hB15_28 := Below_trans' hb15 hb15.size hB16_28
  have hB14_28 := Below_trans' hb14 hb14.size hB15_28
  have hB13_28 := Below_trans' hb13 hb13.size hB14_28
  have hB12_28 := Below_trans' hb12 hb12.size hB13_28
  have hB11_28 := Below_trans' hb11 hb11.size hB12_28
  have hB10_28 := Below_trans' hb10 hb10.size hB11_28
  have hB9_28 := Below_trans' hb9 hb9.size hB10_28
  refine ldMatG rfl rfl (hs.below hB9_28 hs.lt) hSs ?_
  go_wp2
  generalize hZ : Array.setIfInBounds _ 29 (Value.int IntKind.i64 0) = Z
  obtain rfl : Z = canon ex13s := hZ.symm.trans (by kernel_rfl)
  clear hZ
  simp only [he, Result.andThen_ok, Oper.upon]
  have co1_0 := (ho1.below hB12_28 ho1.lt).cell 0
  have co1_1 := (ho1.below hB12_28 ho1.lt).cell 1
  have co1_2 := (ho1.below hB12_28 ho1.lt).cell 2
  have cx_0 := hx.cell 0
  have cx_1 := hx.cell 1
  have cx_2 := hx.cell 2
  go_wp2_with fail
  clear he hgd
  refine (same_eq _ _ _ _ _ _ _ _ _ _ _ _ _ _ _ _ _ _ ex13o w28 (hO1.below hB11_28) ⟨(rwe.below hB22_28), (rR.below below_rnd hb27), RAgg.nil_ _ _ _⟩).mono ?_
  rintro e w29 ⟨rfl, hb28⟩
  clear co1_0 co1_1 co1_2 cx_0 cx_1 cx_2
  go_wp2
  have hB27_29 := Below_trans' hb27 hb27.size hb28
  have hB26_29 := Below_trans' hb26 hb26.size hB27_29
  have hB25_29 := Below_trans' hb25 hb25.size hB26_29
  have hB24_29 := Below_trans' hb24 hb24.size hB25_29
  have hB23_29 := Below_trans' hb23 hb23.size hB24_29
  have hB22_29 := Below_trans' hb22 hb22.size hB23_29
  have hB21_29 := Below_trans' hb21 hb21.size hB22_29
  have hB20_29 := Below_trans' hb20 hb20.size hB21_29
  have hB19_29 := Below_trans' hb19 hb19.size hB20_29
  have hB18_29 := Below_trans' hb18 hb18.size hB19_29
  have hB17_29 := Below_trans' hb17 hb17.size hB18_29
  have hB16_29 := Below_trans' hb16 hb16.size hB17_29
  have hB15_29 := Below_trans' hb15 hb15.size hB16_29
  have hB14_29 := Below_trans' hb14 hb14.size hB15_29
  have hB13_29 := Below_trans' hb13 hb13.size hB14_29
  have hB12_29 := Below_trans' hb12 hb12.size hB13_29
  have hB11_29 := Below_trans' hb11 hb11.size hB12_29
  have hB10_29 := Below_trans' hb10 hb10.size hB11_29
  have hB9_29 := Below_trans' hb9 hb9.size hB10_29
  have hB8_29 := Below_trans' hb8 hb8.size hB9_29
  have hB7_29 := Below_trans' hb7 hb7.size hB8_29
  refine ldMatG rfl rfl (hm.below hB7_29 hm.lt) hDs ?_
  have hb29 : Below w29.heap.size w29 (w29.alloc (.cells #[.int .i64 0, .int .i64 1, .int .i64 2] 3)) := below_allocN
  have hz0 := Has.new w29 3 #[.int .i64 0, .int .i64 1, .int .i64 2]
  generalize hW29 : World.alloc w29 _ = w30 at hb29 hz0
  have gz0 : w29.heap.size < w30.heap.size := hz0.lt
  have rz0 := lit3 hz0 (I64s.out _ (by decide) (by decide)) (I64s.out _ (by decide) (by decide)) (I64s.out _ (by decide) (by decide))
  go_wp2_with fail
  try simp only [hW29]
  clear hW29
  refine (pstr_any D ex13m hD (some ⟨w29.heap.size, 0, none⟩) 3 3 [0, 1, 2] w30 rz0).mono ?_
  rintro e w31 ⟨rfl, hb30⟩
  rw [ex13_p1]
  go_wp2
  have hB29_31 := Below_trans' hb29 hb29.size hb30
  have hB28_31 := Below_trans' hb28 hb28.size hB29_31
  have hB27_31 := Below_trans' hb27 hb27.size hB28_31
  have hB26_31 := Below_trans' hb26 hb26.size hB27_31
  have hB25_31 := Below_trans' hb25 hb25.size hB26_31
  have hB24_31 := Below_trans' hb24 hb24.size hB25_31
  have hB23_31 := Below_trans' hb23 hb23.size hB24_31
  have hB22_31 := Below_trans' hb22 hb22.size hB23_31
  have hB21_31 := Below_trans' hb21 hb21.size hB22_31
  have hB20_31 := Below_trans' hb20 hb20.size hB21_31
  have hB19_31 := Below_trans' hb19 hb19.size hB20_31
  have hB18_31 := Below_trans' hb18 hb18.size hB19_31
  have hB17_31 := Below_trans' hb17 hb17.size hB18_31
  have hB16_31 := Below_trans' hb16 hb16.size hB17_31
  have hB15_31 := Below_trans' hb15 hb15.size hB16_31
  have hB14_31 := Below_trans' hb14 hb14.size hB15_31
  have hB13_31 := Below_trans' hb13 hb13.size hB14_31
  have hB12_31 := Below_trans' hb12 hb12.size hB13_31
  have hB11_31 := Below_trans' hb11 hb11.size hB12_31
  have hB10_31 := Below_trans' hb10 hb10.size hB11_31
  have hB9_31 := Below_trans' hb9 hb9.size hB10_31
  have hB8_31 := Below_trans' hb8 hb8.size hB9_31
  have hB7_31 := Below_trans' hb7 hb7.size hB8_31
  refine ldMatG rfl rfl (hm.below hB7_31 hm.lt) hDs ?_
  have hb31 : Below w31.heap.size w31 (w31.alloc (.cells #[.int .i64 1, .int .i64 2, .int .i64 0] 3)) := below_allocN
  have hz1 := Has.new w31 3 #[.int .i64 1, .int .i64 2, .int .i64 0]
  generalize hW31 : World.alloc w31 _ = w32 at hb31 hz1
  have gz1 : w31.heap.size < w32.heap.size := hz1.lt
  have rz1 := lit3 hz1 (I64s.out _ (by decide) (by decide)) (I64s.out _ (by decide) (by decide)) (I64s.out _ (by decide) (by decide))
  go_wp2_with fail
  try simp only [hW31]
  clear hW31
  refine (pstr_any D ex13m hD (some ⟨w31.heap.size, 0, none⟩) 3 3 [1, 2, 0] w32 rz1).mono ?_
  rintro e w33 ⟨rfl, hb32⟩
  rw [ex13_p2]
  go_wp2
  have hB31_33 := Below_trans' hb31 hb31.size hb32
  have hB30_33 := Below_trans' hb30 hb30.size hB31_33
  have hB29_33 := Below_trans' hb29 hb29.size hB30_33
  have hB28_33 := Below_trans' hb28 hb28.size hB29_33
  have hB27_33 := Below_trans' hb27 hb27.size hB28_33
  have hB26_33 := Below_trans' hb26 hb26.size hB27_33
  have hB25_33 := Below_trans' hb25 hb25.size hB26_33
  have hB24_33 := Below_trans' hb24 hb24.size hB25_33
  have hB23_33 := Below_trans' hb23 hb23.size hB24_33
  have hB22_33 := Below_trans' hb22 hb22.size hB23_33
  have hB21_33 := Below_trans' hb21 hb21.size hB22_33
  have hB20_33 := Below_trans' hb20 hb20.size hB21_33
  have hB19_33 := Below_trans' hb19 hb19.size hB20_33
  have hB18_33 := Below_trans' hb18 hb18.size hB19_33
  have hB17_33 := Below_trans' hb17 hb17.size hB18_33
  have hB16_33 := Below_trans' hb16 hb16.size hB17_33
  have hB15_33 := Below_trans' hb15 hb15.size hB16_33
  have hB14_33 := Below_trans' hb14 hb14.size hB15_33
  have hB13_33 := Below_trans' hb13 hb13.size hB14_33
  have hB12_33 := Below_trans' hb12 hb12.size hB13_33
  have hB11_33 := Below_trans' hb11 hb11.size hB12_33
  have hB10_33 := Below_trans' hb10 hb10.size hB11_33
  have hB9_33 := Below_trans' hb9 hb9.size hB10_33
  have hB8_33 := Below_trans' hb8 hb8.size hB9_33
  have hB7_33 := Below_trans' hb7 hb7.size hB8_33
  refine ldMatG rfl rfl (hm.below hB7_33 hm.lt) hDs ?_
  have hb33 : Below w33.heap.size w33 (w33.alloc (.cells #[.int .i64 1, .int .i64 0] 3)) := below_allocN
  have hz2 := Has.new w33 3 #[.int .i64 1, .int .i64 0]
  generalize hW33 : World.alloc w33 _ = w34 at hb33 hz2
  have gz2 : w33.heap.size < w34.heap.size := hz2.lt
  have rz2 := lit2 hz2 (I64s.out _ (by decide) (by decide)) (I64s.out _ (by decide) (by decide))
  go_wp2_with fail
  try simp only [hW33]
  clear hW33
  refine (pstr_any D ex13m hD (some ⟨w33.heap.size, 0, none⟩) 2 2 [1, 0] w34 rz2).mono ?_
  rintro e w35 ⟨rfl, hb34⟩
  rw [ex13_p3]
  go_wp2
  have hB33_35 := Below_trans' hb33 hb33.size hb34
  have hB32_35 := Below_trans' hb32 hb32.size hB33_35
  have hB31_35 := Below_trans' hb31 hb31.size hB32_35
  have hB30_35 := Below_trans' hb30 hb30.size hB31_35
  have hB29_35 := Below_trans' hb29 hb29.size hB30_35
  have hB28_35 := Below_trans' hb28 hb28.size hB29_35
  have hB27_35 := Below_trans' hb27 hb27.size hB28_35
  have hB26_35 := Below_trans' hb26 hb26.size hB27_35
  have hB25_35 := Below_trans' hb25 hb25.size hB26_35
  have hB24_35 := Below_trans' hb24 hb24.size hB25_35
  have hB23_35 := Below_trans' hb23 hb23.size hB24_35
  have hB22_35 := Below_trans' hb22 hb22.size hB23_35
  have hB21_35 := Below_trans' hb21 hb21.size hB22_35
  have hB20_35 := Below_trans' hb20 hb20.size hB21_35
  have hB19_35 := Below_trans' hb19 hb19.size hB20_35
  have hB18_35 := Below_trans' hb18 hb18.size hB19_35
  have hB17_35 := Below_trans' hb17 hb17.size hB18_35
  have hB16_35 := Below_trans' hb16 hb16.size hB17_35
  have hB15_35 := Below_trans' hb15 hb15.size hB16_35
  have hB14_35 := Below_trans' hb14 hb14.size hB15_35
  have hB13_35 := Below_trans' hb13 hb13.size hB14_35
  have hB12_35 := Below_trans' hb12 hb12.size hB13_35
  have hB11_35 := Below_trans' hb11 hb11.size hB12_35
  have hB10_35 := Below_trans' hb10 hb10.size hB11_35
  have hB9_35 := Below_trans' hb9 hb9.size hB10_35
  have hB8_35 := Below_trans' hb8 hb8.size hB9_35
  have hB7_35 := Below_trans' hb7 hb7.size hB8_35
  refine ldMatG rfl rfl (hm.below hB7_35 hm.lt) hDs ?_
  have hb35 : Below w35.heap.size w35 (w35.alloc (.cells #[.int .i64 1] 3)) := below_allocN
  have hz3 := Has.new w35 3 #[.int .i64 1]
  generalize hW35 : World.alloc w35 _ = w36 at hb35 hz3
  have gz3 : w35.heap.size < w36.heap.size := hz3.lt
  have rz3 := lit_ints hz3 (I64s.out _ (by decide) (by decide))
  go_wp2_with fail
  try simp only [hW35]
  clear hW35
  refine (pstr_any D ex13m hD (some ⟨w35.heap.size, 0, none⟩) 1 1 [1] w36 rz3).mono ?_
  rintro e w37 ⟨rfl, hb36⟩
  rw [ex13_p4]
  go_wp2
  have hB35_37 := Below_trans' hb35 hb35.size hb36
  have hB34_37 := Below_trans' hb34 hb34.size hB35_37
  have hB33_37 := Below_trans' hb33 hb33.size hB34_37
  have hB32_37 := Below_trans' hb32 hb32.size hB33_37
  have hB31_37 := Below_trans' hb31 hb31.size hB32_37
  have hB30_37 := Below_trans' hb30 hb30.size hB31_37
  have hB29_37 := Below_trans' hb29 hb29.size hB30_37
  have hB28_37 := Below_trans' hb28 hb28.size hB29_37
  have hB27_37 := Below_trans' hb27 hb27.size hB28_37
  have hB26_37 := Below_trans' hb26 hb26.size hB27_37
  have hB25_37 := Below_trans' hb25 hb25.size hB26_37
  have hB24_37 := Below_trans' hb24 hb24.size hB25_37
  have hB23_37 := Below_trans' hb23 hb23.size hB24_37
  have hB22_37 := Below_trans' hb22 hb22.size hB23_37
  have hB21_37 := Below_trans' hb21 hb21.size hB22_37
  have hB20_37 := Below_trans' hb20 hb20.size hB21_37
  have hB19_37 := Below_trans' hb19 hb19.size hB20_37
  have hB18_37 := Below_trans' hb18 hb18.size hB19_37
  have hB17_37 := Below_trans' hb17 hb17.size hB18_37
  have hB16_37 := Below_trans' hb16 hb16.size hB17_37
  have hB15_37 := Below_trans' hb15 hb15.size hB16_37
  have hB14_37 := Below_trans' hb14 hb14.size hB15_37
  have hB13_37 := Below_trans' hb13 hb13.size hB14_37
  have hB12_37 := Below_trans' hb12 hb12.size hB13_37
  have hB11_37 := Below_trans' hb11 hb11.size hB12_37
  have hB10_37 := Below_trans' hb10 hb10.size hB11_37
  have hB9_37 := Below_trans' hb9 hb9.size hB10_37
  have hB8_37 := Below_trans' hb8 hb8.size hB9_37
  have hB7_37 := Below_trans' hb7 hb7.size hB8_37
  refine ldMatG rfl rfl (hm.below hB7_37 hm.lt) hDs ?_
  have hb37 : Below w37.heap.size w37 (w37.alloc (.cells #[.int .i64 0, .int .i64 10] 3)) := below_allocN
  have hz4 := Has.new w37 3 #[.int .i64 0, .int .i64 10]
  generalize hW37 : World.alloc w37 _ = w38 at hb37 hz4
  have gz4 : w37.heap.size < w38.heap.size := hz4.lt
  have rz4 := lit2 hz4 (I64s.out _ (by decide) (by decide)) (I64s.out _ (by decide) (by decide))
  go_wp2_with fail
  try simp only [hW37]
  clear hW37
  refine (pstr_any D ex13m hD (some ⟨w37.heap.size, 0, none⟩) 2 2 [0, 10] w38 rz4).mono ?_
  rintro e w39 ⟨rfl, hb38⟩
  rw [ex13_p5]
  go_wp2
  go_ret
  have hB37_39 := Below_trans' hb37 hb37.size hb38
  have hB36_39 := Below_trans' hb36 hb36.size hB37_39
  have hB35_39 := Below_trans' hb35 hb35.size hB36_39
  have hB34_39 := Below_trans' hb34 hb34.size hB35_39
  have hB33_39 := Below_trans' hb33 hb33.size hB34_39
  have hB32_39 := Below_trans' hb32 hb32.size hB33_39
  have hB31_39 := Below_trans' hb31 hb31.size hB32_39
  have hB30_39 := Below_trans' hb30 hb30.size hB31_39
  have hB29_39 := Below_trans' hb29 hb29.size hB30_39
  have hB28_39 := Below_trans' hb28 hb28.size hB29_39
  have hB27_39 := Below_trans' hb27 hb27.size hB28_39
  have hB26_39 := Below_trans' hb26 hb26.size hB27_39
  have hB25_39 := Below_trans' hb25 hb25.size hB26_39
  have hB24_39 := Below_trans' hb24 hb24.size hB25_39
  have hB23_39 := Below_trans' hb23 hb23.size hB24_39
  have hB22_39 := Below_trans' hb22 hb22.size hB23_39
  have hB21_39 := Below_trans' hb21 hb21.size hB22_39
  have hB20_39 := Below_trans' hb20 hb20.size hB21_39
  have hB19_39 := Below_trans' hb19 hb19.size hB20_39
  have hB18_39 := Below_trans' hb18 hb18.size hB19_39
  have hB17_39 := Below_trans' hb17 hb17.size hB18_39
  have hB16_39 := Below_trans' hb16 hb16.size hB17_39
  have hB15_39 := Below_trans' hb15 hb15.size hB16_39
  have hB14_39 := Below_trans' hb14 hb14.size hB15_39
  have hB13_39 := Below_trans' hb13 hb13.size hB14_39
  have hB12_39 := Below_trans' hb12 hb12.size hB13_39
  have hB11_39 := Below_trans' hb11 hb11.size hB12_39
  have hB10_39 := Below_trans' hb10 hb10.size hB11_39
  have hB9_39 := Below_trans' hb9 hb9.size hB10_39
  have hB8_39 := Below_trans' hb8 hb8.size hB9_39
  have hB7_39 := Below_trans' hb7 hb7.size hB8_39
  have hB6_39 := Below_trans' hb6 hb6.size hB7_39
  have hB5_39 := Below_trans' hb5 hb5.size hB6_39
  have hB4_39 := Below_trans' hb4 hb4.size hB5_39
  have hB3_39 := Below_trans' hb3 hb3.size hB4_39
  have hB2_39 := Below_trans' hb2 hb2.size hB3_39
  have hB1_39 := Below_trans' hb1 hb1.size hB2_39
  have hB0_39 := Below_trans' hb0 hb0.size hB1_39
  exact ⟨rfl, hB0_39⟩
end Go.Proofs.Ytkhclcdmehjfkaa
