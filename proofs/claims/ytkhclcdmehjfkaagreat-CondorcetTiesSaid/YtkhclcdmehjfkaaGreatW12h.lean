/-
  The examples of chapter 12.
  The laws of chapter 12: whether a count may be.
-/
import Derived.Test.YtkhclcdmehjfkaaGreatW12e
import Derived.Test.YtkhclcdmehjfkaaGreatW12c
namespace Go.Proofs.YtkhclcdmehjfkaaGreat
open Go.RowKit Go.Proofs

def ex12p : List Row := [([0, 1, 2], 3), ([1, 2, 0], 2), ([2, 0, 1], 2)]
def ex12m : M := fun x y => if x = 0 ∧ y = 1 then 5 else if x = 0 ∧ y = 2 then 3 else if x = 1 ∧ y = 0 then 2 else if x = 1 ∧ y = 2 then 5 else if x = 2 ∧ y = 0 then 4 else if x = 2 ∧ y = 1 then 2 else 0
def ex12w : M := fun x y => if x = 0 ∧ y = 1 then 2 else if x = 1 ∧ y = 0 then 1 else 0
theorem ex12_c : checkS 3 1 ex12p = 0 := by kernel_rfl
theorem ex12_of : matEq (ofR 3 1 ex12p) ex12m = true := by kernel_rfl
theorem ex12_l3 : loneV ex12m 3 = (0, false) := by kernel_rfl
theorem ex12_lw : loneV ex12w 2 = (0, true) := by kernel_rfl
theorem ex12_ll : loneV (fun x y => ex12w y x) 2 = (1, true) := by kernel_rfl
theorem ex12_e3 : smithErr ex12m 3 = 0 := by kernel_rfl
theorem ex12_e0 : smithErr ex12m 0 = 2 := by kernel_rfl
theorem ex12_e2 : smithErr ex12m 2 = 8 := by kernel_rfl
theorem ex12_s3 : smithV ex12m 3 = [0, 1, 2] := by kernel_rfl
theorem ex12_m1 : mayS 3 1 ex12p 1 1 1 [2, 1, 0] = 0 := by kernel_rfl
theorem ex12_m2 : mayS 3 1 ex12p 1 2 1 [2, 1, 0] = 2 := by kernel_rfl
theorem ex12_m3 : mayS 0 0 [] 1 1 1 [2, 1, 0] = 8 := by kernel_rfl
def ex12o1 : Outc := ([2], [rndS [1, 1, 1] 0 [2] []], [([0, 1, 2], 2)])
def ex12o2 : Outc := ([0], [rndS [1, 3, 3] 0 [0] []], [])
theorem ex12_x : copR 3 1 ex12p 1 [2, 1, 0] = ex12o1 := by kernel_rfl
theorem ex12_y : minR 3 1 ex12p 1 [2, 1, 0] = ex12o2 := by kernel_rfl
theorem ex12_wm : Mat (canon ex12w) ex12w := canon_mat fun x y _ _ => by
  unfold ex12w I64; repeat' split
  all_goals omega
end Go.Proofs.YtkhclcdmehjfkaaGreat

namespace Go.Proofs.YtkhclcdmehjfkaaGreat
open Go.RowKit Go.Proofs Go.Shelf
attribute [local go_sem] cell?_more cell?_alloc_some cell?_setCell_far frozen?_alloc_some frozen?_more
section
variable {ops : Array Oper} {rest : List Oper} {o : Oper} {a : Act} {w : World} {Q : Exit → Act → World → Prop}
theorem bdRow12 (hgd : o.guard = none) {ps : Array (Nat × Operand)} (ho : o.op = .build 22 ps) (cells : Array Value) (hc : Tryz.prog.built 22 (ps.map fun (i, x) => (i, a.eval x)).toList = some cells)
    (h : wpList Tryz.prog ops Q rest (a.put o.dst (.agg cells)) w) : wpList Tryz.prog ops Q (o :: rest) a w :=
  wpList_plain hgd fun _ hK => by
    unfold Oper.wp execOp
    have hz := run_build w _ _ _ hc
    simp only [ho, Sem.run_bind, Result.andThen_ok, hz]
    exact hK _ _ h
theorem bdPairs12 (hgd : o.guard = none) {ps : Array (Nat × Operand)} (ho : o.op = .build 24 ps) (cells : Array Value) (hc : Tryz.prog.built 24 (ps.map fun (i, x) => (i, a.eval x)).toList = some cells)
    (h : wpList Tryz.prog ops Q rest (a.put o.dst (.agg cells)) w) : wpList Tryz.prog ops Q (o :: rest) a w :=
  wpList_plain hgd fun _ hK => by
    unfold Oper.wp execOp
    have hz := run_build w _ _ _ hc
    simp only [ho, Sem.run_bind, Result.andThen_ok, hz]
    exact hK _ _ h
end

set_option maxRecDepth 100000 in
set_option maxHeartbeats 8000000 in
theorem wakes12_any (w0 : World) : Calls Tryz.prog 40 #[] w0 fun e w' => e = .returned (.bool true) ∧ Below w0.heap.size w0 w' := by
  have i64 : ∀ x : Int, 0 ≤ x → x ≤ 100 → I64 x := fun x h1 h2 => ⟨by omega, by omega⟩
  have I64s := hide i64
  clear i64
  go_enter Tryz.func40, Tryz.ntmps40
  have hb0 : Below w0.heap.size w0 (w0.alloc (.cells #[.int .i64 0, .int .i64 1, .int .i64 2] 3)) := below_allocN
  have ha1 := Has.new w0 3 #[.int .i64 0, .int .i64 1, .int .i64 2]
  generalize hW0 : World.alloc w0 _ = w1 at hb0 ha1
  have ga1 : w0.heap.size < w1.heap.size := ha1.lt
  have ra1 := lit3 ha1 (I64s.out _ (by decide) (by decide)) (I64s.out _ (by decide) (by decide)) (I64s.out _ (by decide) (by decide))
  have hb1 : Below w1.heap.size w1 (w1.alloc (.cells #[.int .i64 1, .int .i64 2, .int .i64 0] 3)) := below_allocN
  have ha2 := Has.new w1 3 #[.int .i64 1, .int .i64 2, .int .i64 0]
  generalize hW1 : World.alloc w1 _ = w2 at hb1 ha2
  have ga2 : w1.heap.size < w2.heap.size := ha2.lt
  have ra2 := lit3 ha2 (I64s.out _ (by decide) (by decide)) (I64s.out _ (by decide) (by decide)) (I64s.out _ (by decide) (by decide))
  have hb2 : Below w2.heap.size w2 (w2.alloc (.cells #[.int .i64 2, .int .i64 0, .int .i64 1] 3)) := below_allocN
  have ha3 := Has.new w2 3 #[.int .i64 2, .int .i64 0, .int .i64 1]
  generalize hW2 : World.alloc w2 _ = w3 at hb2 ha3
  have ga3 : w2.heap.size < w3.heap.size := ha3.lt
  have ra3 := lit3 ha3 (I64s.out _ (by decide) (by decide)) (I64s.out _ (by decide) (by decide)) (I64s.out _ (by decide) (by decide))
  have hb3 : Below w3.heap.size w3 (w3.alloc (.cells #[.slice (some ⟨w0.heap.size, 0, none⟩) 3 3, .int .i64 3, .slice (some ⟨w1.heap.size, 0, none⟩) 3 3, .int .i64 2, .slice (some ⟨w2.heap.size, 0, none⟩) 3 3, .int .i64 2] 80)) := below_allocN
  have hrw := Has.new w3 80 #[.slice (some ⟨w0.heap.size, 0, none⟩) 3 3, .int .i64 3, .slice (some ⟨w1.heap.size, 0, none⟩) 3 3, .int .i64 2, .slice (some ⟨w2.heap.size, 0, none⟩) 3 3, .int .i64 2]
  generalize hW3 : World.alloc w3 _ = w4 at hb3 hrw
  have grw : w3.heap.size < w4.heap.size := hrw.lt
  have hB2_4 := Below_trans' hb2 hb2.size hb3
  have hB1_4 := Below_trans' hb1 hb1.size hB2_4
  have rP := rows3 (ra1.below hB1_4) (ra2.below hB2_4) (ra3.below hb3) (I64s.out _ (by decide) (by decide)) (I64s.out _ (by decide) (by decide)) (I64s.out _ (by decide) (by decide)) hrw
  have hb4 : Below w4.heap.size w4 (w4.alloc (.cells #[.int .i64 3, .int .u8 1, .slice (some ⟨w3.heap.size, 0, none⟩) 3 3] 28)) := below_allocN
  have hp := Has.new w4 28 #[.int .i64 3, .int .u8 1, .slice (some ⟨w3.heap.size, 0, none⟩) 3 3]
  generalize hW4 : World.alloc w4 _ = w5 at hb4 hp
  have gp : w4.heap.size < w5.heap.size := hp.lt
  go_upto_region 2 with fail
  try simp only [hW0, hW1, hW2, hW3, hW4]
  clear hW0 hW1 hW2 hW3 hW4
  have hb5 : Below w5.heap.size w5 (w5.alloc (.cells #[.int .i64 2, .int .i64 1, .int .i64 0] 3)) := below_allocN
  have hlt := Has.new w5 3 #[.int .i64 2, .int .i64 1, .int .i64 0]
  generalize hW5 : World.alloc w5 _ = w6 at hb5 hlt
  have glt : w5.heap.size < w6.heap.size := hlt.lt
  have rlt := lit3 hlt (I64s.out _ (by decide) (by decide)) (I64s.out _ (by decide) (by decide)) (I64s.out _ (by decide) (by decide))
  have cp_0 := (hp.below hb5 hp.lt).cell 0
  have cp_1 := (hp.below hb5 hp.lt).cell 1
  have cp_2 := (hp.below hb5 hp.lt).cell 2
  go_wp2_with fail
  try simp only [hW5]
  clear hW5
  have hB4_6 := Below_trans' hb4 hb4.size hb5
  have hof := pof_any 3 1 (some ⟨w3.heap.size, 0, none⟩) 3 3 ex12p w6 (rP.below hB4_6)
  unfold POfPost at hof
  refine (hof).mono ?_
  rintro e w7 ⟨D, rfl, hD0, hb6⟩
  clear cp_0 cp_1 cp_2
  clear hof
  rw [ex12_c]
  have hD : Mat D ex12m := hD0.congr (matEq_iff.1 ex12_of)
  have hDs := hD.size
  clear hD0
  go_upto_region 4 with (refine stMat rfl rfl rfl rfl (Has.new _ _ _) zeroMat.size hD.size hD.one ?_)
  have hb7 : Below w7.heap.size w7 ((w7.alloc (.cells Tryz.zeroCells24 24)).setRow w7.heap.size D) := below_setRow below_allocN (Nat.le_refl _) _
  have hm : Has ((w7.alloc (.cells Tryz.zeroCells24 24)).setRow w7.heap.size D) w7.heap.size 24 D := (Has.new _ _ _).setRow _
  generalize World.setRow (World.alloc w7 _) _ _ = w8 at hb7 hm ⊢
  have gm : w7.heap.size < w8.heap.size := hm.lt
  have ldm := hm
  go_wp2_with (refine ldMat rfl rfl rfl ldm hDs ?_)
  clear ldm
  refine (winner_any D ex12m hD 3 w8).mono ?_
  rintro e w9 ⟨rfl, hb8⟩
  rw [ex12_l3]
  go_upto_region 5 with fail
  have ldm := (hm.below hb8 hm.lt)
  go_wp2_with (refine ldMat rfl rfl rfl ldm hDs ?_)
  clear ldm
  refine (smith_any D ex12m hD 3 w9).mono ?_
  rintro e w10 ⟨vs, rfl, hOs, hb9⟩
  rw [ex12_s3] at hOs
  rw [ex12_e3]
  obtain ⟨As, cs, rfl⟩ := hOs.slice
  simp only [List.length_cons, List.length_nil, Nat.zero_add, Nat.reduceAdd] at hOs ⊢
  have rS := hOs.ints (fun x hx => by have := I64s.out x; simp only [List.mem_cons, List.not_mem_nil, or_false] at hx; rcases hx with rfl | rfl | rfl <;> decide)
  go_upto_region 6 with fail
  have hB8_10 := Below_trans' hb8 hb8.size hb9
  have hB7_10 := Below_trans' hb7 hb7.size hB8_10
  have hB6_10 := Below_trans' hb6 hb6.size hB7_10
  have hB5_10 := Below_trans' hb5 hb5.size hB6_10
  have cp_0 := (hp.below hB5_10 hp.lt).cell 0
  have cp_1 := (hp.below hB5_10 hp.lt).cell 1
  have cp_2 := (hp.below hB5_10 hp.lt).cell 2
  go_wp2_with fail
  have hB4_10 := Below_trans' hb4 hb4.size hB5_10
  refine (copeland_any 3 1 (some ⟨w3.heap.size, 0, none⟩) 3 3 ex12p 1 (some ⟨w5.heap.size, 0, none⟩) 3 3 [2, 1, 0] w10 (rP.below hB4_10) (rlt.below hB6_10) (by decide)).mono ?_
  rintro e w11 ⟨E1, ne1, ce1, R1, nr1, cr1, V1, nv1, cv1, rfl, hO1, hb10⟩
  clear cp_0 cp_1 cp_2
  rw [ex12_x] at hO1
  rw [ex12_m1]
  have hb11 : Below w11.heap.size w11 (w11.alloc (.cells #[.slice E1 ne1 ce1, .slice R1 nr1 cr1, .slice V1 nv1 cv1] 38)) := below_allocN
  have ho1 := Has.new w11 38 #[.slice E1 ne1 ce1, .slice R1 nr1 cr1, .slice V1 nv1 cv1]
  generalize hW11 : World.alloc w11 _ = w12 at hb11 ho1
  have go1 : w11.heap.size < w12.heap.size := ho1.lt
  go_upto_region 7 with fail
  try simp only [hW11]
  clear hW11
  have hB10_12 := Below_trans' hb10 hb10.size hb11
  have hB9_12 := Below_trans' hb9 hb9.size hB10_12
  have hB8_12 := Below_trans' hb8 hb8.size hB9_12
  have hB7_12 := Below_trans' hb7 hb7.size hB8_12
  have hB6_12 := Below_trans' hb6 hb6.size hB7_12
  have hB5_12 := Below_trans' hb5 hb5.size hB6_12
  have cp_0 := (hp.below hB5_12 hp.lt).cell 0
  have cp_1 := (hp.below hB5_12 hp.lt).cell 1
  have cp_2 := (hp.below hB5_12 hp.lt).cell 2
  go_wp2_with fail
  have hB4_12 := Below_trans' hb4 hb4.size hB5_12
  refine (minimax_any 3 1 (some ⟨w3.heap.size, 0, none⟩) 3 3 ex12p 1 (some ⟨w5.heap.size, 0, none⟩) 3 3 [2, 1, 0] w12 (rP.below hB4_12) (rlt.below hB6_12) (by decide)).mono ?_
  rintro e w13 ⟨E2, ne2, ce2, R2, nr2, cr2, V2, nv2, cv2, rfl, hO2, hb12⟩
  clear cp_0 cp_1 cp_2
  rw [ex12_y] at hO2
  rw [ex12_m1]
  have hb13 : Below w13.heap.size w13 (w13.alloc (.cells #[.slice E2 ne2 ce2, .slice R2 nr2 cr2, .slice V2 nv2 cv2] 38)) := below_allocN
  have ho2 := Has.new w13 38 #[.slice E2 ne2 ce2, .slice R2 nr2 cr2, .slice V2 nv2 cv2]
  generalize hW13 : World.alloc w13 _ = w14 at hb13 ho2
  have go2 : w13.heap.size < w14.heap.size := ho2.lt
  go_upto_region 8 with fail
  try simp only [hW13]
  clear hW13
  have hB12_14 := Below_trans' hb12 hb12.size hb13
  have hB11_14 := Below_trans' hb11 hb11.size hB12_14
  have hB10_14 := Below_trans' hb10 hb10.size hB11_14
  have hB9_14 := Below_trans' hb9 hb9.size hB10_14
  have hB8_14 := Below_trans' hb8 hb8.size hB9_14
  have hB7_14 := Below_trans' hb7 hb7.size hB8_14
  have hB6_14 := Below_trans' hb6 hb6.size hB7_14
  have hB5_14 := Below_trans' hb5 hb5.size hB6_14
  have cp_0 := (hp.below hB5_14 hp.lt).cell 0
  have cp_1 := (hp.below hB5_14 hp.lt).cell 1
  have cp_2 := (hp.below hB5_14 hp.lt).cell 2
  go_wp2_with fail
  have hB4_14 := Below_trans' hb4 hb4.size hB5_14
  refine (copeland_any 3 1 (some ⟨w3.heap.size, 0, none⟩) 3 3 ex12p 2 (some ⟨w5.heap.size, 0, none⟩) 3 3 [2, 1, 0] w14 (rP.below hB4_14) (rlt.below hB6_14) (by decide)).mono ?_
  rintro e w15 ⟨E3, ne3, ce3, R3, nr3, cr3, V3, nv3, cv3, rfl, hO3, hb14⟩
  clear cp_0 cp_1 cp_2
  rw [ex12_m2]
  have hb15 : Below w15.heap.size w15 (w15.alloc (.cells #[.slice E3 ne3 ce3, .slice R3 nr3 cr3, .slice V3 nv3 cv3] 38)) := below_allocN
  have ho3 := Has.new w15 38 #[.slice E3 ne3 ce3, .slice R3 nr3 cr3, .slice V3 nv3 cv3]
  generalize hW15 : World.alloc w15 _ = w16 at hb15 ho3
  have go3 : w15.heap.size < w16.heap.size := ho3.lt
  go_upto_region 9 with fail
  try simp only [hW15]
  clear hW15
  go_wp2_with fail
  have hB14_16 := Below_trans' hb14 hb14.size hb15
  have hB13_16 := Below_trans' hb13 hb13.size hB14_16
  have hB12_16 := Below_trans' hb12 hb12.size hB13_16
  have hB11_16 := Below_trans' hb11 hb11.size hB12_16
  have hB10_16 := Below_trans' hb10 hb10.size hB11_16
  have hB9_16 := Below_trans' hb9 hb9.size hB10_16
  have hB8_16 := Below_trans' hb8 hb8.size hB9_16
  have hB7_16 := Below_trans' hb7 hb7.size hB8_16
  have hB6_16 := Below_trans' hb6 hb6.size hB7_16
  refine (minimax_any 0 0 none 0 0 [] 1 (some ⟨w5.heap.size, 0, none⟩) 3 3 [2, 1, 0] w16 (RRows.nil_ _) (rlt.below hB6_16) (by decide)).mono ?_
  rintro e w17 ⟨E4, ne4, ce4, R4, nr4, cr4, V4, nv4, cv4, rfl, hO4, hb16⟩
  rw [ex12_m3]
  have hb17 : Below w17.heap.size w17 (w17.alloc (.cells #[.slice E4 ne4 ce4, .slice R4 nr4 cr4, .slice V4 nv4 cv4] 38)) := below_allocN
  have ho4 := Has.new w17 38 #[.slice E4 ne4 ce4, .slice R4 nr4 cr4, .slice V4 nv4 cv4]
  generalize hW17 : World.alloc w17 _ = w18 at hb17 ho4
  have go4 : w17.heap.size < w18.heap.size := ho4.lt
  go_upto_region 10 with fail
  try simp only [hW17]
  clear hW17
  have hB16_18 := Below_trans' hb16 hb16.size hb17
  have hB15_18 := Below_trans' hb15 hb15.size hB16_18
  have hB14_18 := Below_trans' hb14 hb14.size hB15_18
  have hB13_18 := Below_trans' hb13 hb13.size hB14_18
  have hB12_18 := Below_trans' hb12 hb12.size hB13_18
  have hB11_18 := Below_trans' hb11 hb11.size hB12_18
  have hB10_18 := Below_trans' hb10 hb10.size hB11_18
  have hB9_18 := Below_trans' hb9 hb9.size hB10_18
  have hB8_18 := Below_trans' hb8 hb8.size hB9_18
  have ldm := (hm.below hB8_18 hm.lt)
  go_wp2_with (refine ldMat rfl rfl rfl ldm hDs ?_)
  clear ldm
  refine (smith_any D ex12m hD 0 w18).mono ?_
  rintro e w19 ⟨vs0, rfl, hOs0, hb18⟩
  rw [ex12_e0]
  obtain ⟨As0, cs0, rfl⟩ := hOs0.slice
  generalize (smithV ex12m 0).length = ns0 at *
  go_upto_region 11 with fail
  have hB17_19 := Below_trans' hb17 hb17.size hb18
  have hB16_19 := Below_trans' hb16 hb16.size hB17_19
  have hB15_19 := Below_trans' hb15 hb15.size hB16_19
  have hB14_19 := Below_trans' hb14 hb14.size hB15_19
  have hB13_19 := Below_trans' hb13 hb13.size hB14_19
  have hB12_19 := Below_trans' hb12 hb12.size hB13_19
  have hB11_19 := Below_trans' hb11 hb11.size hB12_19
  have hB10_19 := Below_trans' hb10 hb10.size hB11_19
  have hB9_19 := Below_trans' hb9 hb9.size hB10_19
  have hB8_19 := Below_trans' hb8 hb8.size hB9_19
  have ldm := (hm.below hB8_19 hm.lt)
  go_wp2_with (refine ldMat rfl rfl rfl ldm hDs ?_)
  clear ldm
  refine (smith_any D ex12m hD 2 w19).mono ?_
  rintro e w20 ⟨vs1, rfl, hOs1, hb19⟩
  rw [ex12_e2]
  obtain ⟨As1, cs1, rfl⟩ := hOs1.slice
  generalize (smithV ex12m 2).length = ns1 at *
  go_upto_region 12 with fail
  go_wp2_with (first
      | (refine bdRow12 (ps := #[(0, .const (.int .i64 0)), (1, .const (.int .i64 2))]) rfl rfl #[.int .i64 0, .int .i64 2, .int .i64 0, .int .i64 0, .int .i64 0, .int .i64 0, .int .i64 0, .int .i64 0, .int .i64 0, .int .i64 0] (by kernel_rfl) ?_)
      | (refine bdRow12 (ps := #[(0, .const (.int .i64 1))]) rfl rfl #[.int .i64 1, .int .i64 0, .int .i64 0, .int .i64 0, .int .i64 0, .int .i64 0, .int .i64 0, .int .i64 0, .int .i64 0, .int .i64 0] (by kernel_rfl) ?_)
      | (refine bdPairs12 rfl rfl (canon ex12w) (by kernel_rfl) ?_))
  refine (winner_any _ ex12w ex12_wm 2 w20).mono ?_
  rintro e w21 ⟨rfl, hb20⟩
  rw [ex12_lw]
  go_upto_region 13 with fail
  go_wp2_with (first
      | (refine bdRow12 (ps := #[(0, .const (.int .i64 0)), (1, .const (.int .i64 2))]) rfl rfl #[.int .i64 0, .int .i64 2, .int .i64 0, .int .i64 0, .int .i64 0, .int .i64 0, .int .i64 0, .int .i64 0, .int .i64 0, .int .i64 0] (by kernel_rfl) ?_)
      | (refine bdRow12 (ps := #[(0, .const (.int .i64 1))]) rfl rfl #[.int .i64 1, .int .i64 0, .int .i64 0, .int .i64 0, .int .i64 0, .int .i64 0, .int .i64 0, .int .i64 0, .int .i64 0, .int .i64 0] (by kernel_rfl) ?_)
      | (refine bdPairs12 rfl rfl (canon ex12w) (by kernel_rfl) ?_))
  refine (loser_any _ ex12w ex12_wm 2 w21).mono ?_
  rintro e w22 ⟨rfl, hb21⟩
  rw [ex12_ll]
  go_upto_region 14 with fail
  have hb22 : Below w22.heap.size w22 (w22.alloc (.cells #[.int .i64 2] 3)) := below_allocN
  have hwe1 := Has.new w22 3 #[.int .i64 2]
  generalize hW22 : World.alloc w22 _ = w23 at hb22 hwe1
  have gwe1 : w22.heap.size < w23.heap.size := hwe1.lt
  have rwe1 := lit_ints hwe1 (I64s.out _ (by decide) (by decide))
  have hb23 : Below w23.heap.size w23 (w23.alloc (.cells #[.int .i64 1, .int .i64 1, .int .i64 1] 3)) := below_allocN
  have hwh1 := Has.new w23 3 #[.int .i64 1, .int .i64 1, .int .i64 1]
  generalize hW23 : World.alloc w23 _ = w24 at hb23 hwh1
  have gwh1 : w23.heap.size < w24.heap.size := hwh1.lt
  have rwh1 := lit3 hwh1 (I64s.out _ (by decide) (by decide)) (I64s.out _ (by decide) (by decide)) (I64s.out _ (by decide) (by decide))
  go_wp2_with fail
  try simp only [hW22, hW23]
  clear hW22 hW23
  refine (rwholes_any (some ⟨w23.heap.size, 0, none⟩) 3 3 [1, 1, 1] w24 rwh1 (by decide) (by decide)).mono ?_
  rintro e w25 ⟨vW1, fpW1, rfl, hOW1, hfW1, hb24⟩
  obtain ⟨AW1, cW1, rfl⟩ := hOW1.slice
  simp only [List.length_map, List.length_cons, List.length_nil] at hOW1 ⊢
  have rW1 := hOW1.reads
  go_wp2_with fail
  refine (rwhole_any 0 w25 (by decide) (by decide)).mono ?_
  rintro e w26 ⟨An1, nn1, cn1, Ad1, nd1, cd1, rfl, hN1, hDn1, hb25, hfN1⟩
  have hb26 : Below w26.heap.size w26 (w26.alloc (.cells #[.int .i64 2] 3)) := below_allocN
  have hwf1 := Has.new w26 3 #[.int .i64 2]
  generalize hW26 : World.alloc w26 _ = w27 at hb26 hwf1
  have gwf1 : w26.heap.size < w27.heap.size := hwf1.lt
  have rwf1 := lit_ints hwf1 (I64s.out _ (by decide) (by decide))
  have hb27 : Below w27.heap.size w27 (w27.alloc (.cells #[.slice AW1 3 cW1, .bool false, .slice An1 nn1 cn1, .slice Ad1 nd1 cd1, .slice (some ⟨w26.heap.size, 0, none⟩) 1 1, .slice none 0 0] 53)) := below_allocN
  have hwr1 := Has.new w27 53 #[.slice AW1 3 cW1, .bool false, .slice An1 nn1 cn1, .slice Ad1 nd1 cd1, .slice (some ⟨w26.heap.size, 0, none⟩) 1 1, .slice none 0 0]
  generalize hW27 : World.alloc w27 _ = w28 at hb27 hwr1
  have gwr1 : w27.heap.size < w28.heap.size := hwr1.lt
  have hB26_28 := Below_trans' hb26 hb26.size hb27
  have hB25_28 := Below_trans' hb25 hb25.size hB26_28
  have rR1 := ragg1 (E := ERnd) (size := 6) (us := [.slice AW1 3 cW1, .bool false, .slice An1 nn1 cn1, .slice Ad1 nd1 cd1, .slice (some ⟨w26.heap.size, 0, none⟩) 1 1, .slice none 0 0]) (x := rndS [1, 1, 1] 0 [2] []) hwr1 rfl ⟨AW1, 3, cW1, _, _, _, _, 1, 1, none, 0, 0, rfl, (rW1.below below_rat hB25_28), ⟨An1, nn1, cn1, Ad1, nd1, cd1, rfl, (hN1.below hB26_28), (hDn1.below hB26_28)⟩, (rwf1.below hb27), RInts.nil_ _⟩
  have hb28 : Below w28.heap.size w28 (w28.alloc (.cells #[.int .i64 0, .int .i64 1, .int .i64 2] 3)) := below_allocN
  have hwt1 := Has.new w28 3 #[.int .i64 0, .int .i64 1, .int .i64 2]
  generalize hW28 : World.alloc w28 _ = w29 at hb28 hwt1
  have gwt1 : w28.heap.size < w29.heap.size := hwt1.lt
  have rwt1 := lit3 hwt1 (I64s.out _ (by decide) (by decide)) (I64s.out _ (by decide) (by decide)) (I64s.out _ (by decide) (by decide))
  have hb29 : Below w29.heap.size w29 (w29.alloc (.cells #[.slice (some ⟨w28.heap.size, 0, none⟩) 3 3, .int .i64 2] 101)) := below_allocN
  have hwu1 := Has.new w29 101 #[.slice (some ⟨w28.heap.size, 0, none⟩) 3 3, .int .i64 2]
  generalize hW29 : World.alloc w29 _ = w30 at hb29 hwu1
  have gwu1 : w29.heap.size < w30.heap.size := hwu1.lt
  have rT1 := ragg1 (E := ETie) (size := 2) (us := [.slice (some ⟨w28.heap.size, 0, none⟩) 3 3, .int .i64 2]) (x := ([0, 1, 2], 2)) hwu1 rfl ⟨_, 3, 3, rfl, (rwt1.below hb29), (I64s.out _ (by decide) (by decide))⟩
  go_upto_region 15 with fail
  try simp only [hW26, hW27, hW28, hW29]
  clear hW26 hW27 hW28 hW29
  have hb30 : Below w30.heap.size w30 (w30.alloc (.cells #[.slice (some ⟨w22.heap.size, 0, none⟩) 1 1, .slice (some ⟨w27.heap.size, 0, none⟩) 1 1, .slice (some ⟨w29.heap.size, 0, none⟩) 1 1] 38)) := below_allocN
  have hx1 := Has.new w30 38 #[.slice (some ⟨w22.heap.size, 0, none⟩) 1 1, .slice (some ⟨w27.heap.size, 0, none⟩) 1 1, .slice (some ⟨w29.heap.size, 0, none⟩) 1 1]
  generalize World.alloc w30 _ = w31 at hb30 hx1 ⊢
  have gx1 : w30.heap.size < w31.heap.size := hx1.lt
  have hb31 : Below w31.heap.size w31 (w31.alloc (.cells #[.int .i64 0] 3)) := below_allocN
  have hwe2 := Has.new w31 3 #[.int .i64 0]
  generalize hW31 : World.alloc w31 _ = w32 at hb31 hwe2
  have gwe2 : w31.heap.size < w32.heap.size := hwe2.lt
  have rwe2 := lit_ints hwe2 (I64s.out _ (by decide) (by decide))
  have hb32 : Below w32.heap.size w32 (w32.alloc (.cells #[.int .i64 1, .int .i64 3, .int .i64 3] 3)) := below_allocN
  have hwh2 := Has.new w32 3 #[.int .i64 1, .int .i64 3, .int .i64 3]
  generalize hW32 : World.alloc w32 _ = w33 at hb32 hwh2
  have gwh2 : w32.heap.size < w33.heap.size := hwh2.lt
  have rwh2 := lit3 hwh2 (I64s.out _ (by decide) (by decide)) (I64s.out _ (by decide) (by decide)) (I64s.out _ (by decide) (by decide))
  go_wp2_with fail
  try simp only [hW31, hW32]
  clear hW31 hW32
  refine (rwholes_any (some ⟨w32.heap.size, 0, none⟩) 3 3 [1, 3, 3] w33 rwh2 (by decide) (by decide)).mono ?_
  rintro e w34 ⟨vW2, fpW2, rfl, hOW2, hfW2, hb33⟩
  obtain ⟨AW2, cW2, rfl⟩ := hOW2.slice
  simp only [List.length_map, List.length_cons, List.length_nil] at hOW2 ⊢
  have rW2 := hOW2.reads
  go_wp2_with fail
  refine (rwhole_any 0 w34 (by decide) (by decide)).mono ?_
  rintro e w35 ⟨An2, nn2, cn2, Ad2, nd2, cd2, rfl, hN2, hDn2, hb34, hfN2⟩
  have hb35 : Below w35.heap.size w35 (w35.alloc (.cells #[.int .i64 0] 3)) := below_allocN
  have hwf2 := Has.new w35 3 #[.int .i64 0]
  generalize hW35 : World.alloc w35 _ = w36 at hb35 hwf2
  have gwf2 : w35.heap.size < w36.heap.size := hwf2.lt
  have rwf2 := lit_ints hwf2 (I64s.out _ (by decide) (by decide))
  have hb36 : Below w36.heap.size w36 (w36.alloc (.cells #[.slice AW2 3 cW2, .bool false, .slice An2 nn2 cn2, .slice Ad2 nd2 cd2, .slice (some ⟨w35.heap.size, 0, none⟩) 1 1, .slice none 0 0] 53)) := below_allocN
  have hwr2 := Has.new w36 53 #[.slice AW2 3 cW2, .bool false, .slice An2 nn2 cn2, .slice Ad2 nd2 cd2, .slice (some ⟨w35.heap.size, 0, none⟩) 1 1, .slice none 0 0]
  generalize hW36 : World.alloc w36 _ = w37 at hb36 hwr2
  have gwr2 : w36.heap.size < w37.heap.size := hwr2.lt
  have hB35_37 := Below_trans' hb35 hb35.size hb36
  have hB34_37 := Below_trans' hb34 hb34.size hB35_37
  have rR2 := ragg1 (E := ERnd) (size := 6) (us := [.slice AW2 3 cW2, .bool false, .slice An2 nn2 cn2, .slice Ad2 nd2 cd2, .slice (some ⟨w35.heap.size, 0, none⟩) 1 1, .slice none 0 0]) (x := rndS [1, 3, 3] 0 [0] []) hwr2 rfl ⟨AW2, 3, cW2, _, _, _, _, 1, 1, none, 0, 0, rfl, (rW2.below below_rat hB34_37), ⟨An2, nn2, cn2, Ad2, nd2, cd2, rfl, (hN2.below hB35_37), (hDn2.below hB35_37)⟩, (rwf2.below hb36), RInts.nil_ _⟩
  go_upto_region 16 with fail
  try simp only [hW35, hW36]
  clear hW35 hW36
  have hb37 : Below w37.heap.size w37 (w37.alloc (.cells #[.slice (some ⟨w31.heap.size, 0, none⟩) 1 1, .slice (some ⟨w36.heap.size, 0, none⟩) 1 1, .slice none 0 0] 38)) := below_allocN
  have hx2 := Has.new w37 38 #[.slice (some ⟨w31.heap.size, 0, none⟩) 1 1, .slice (some ⟨w36.heap.size, 0, none⟩) 1 1, .slice none 0 0]
  generalize World.alloc w37 _ = w38 at hb37 hx2 ⊢
  have gx2 : w37.heap.size < w38.heap.size := hx2.lt
  try simp only [List.append]
  have hb38 : Below w38.heap.size w38 (w38.alloc (.cells #[.int .i64 0, .int .i64 1, .int .i64 2] 3)) := below_allocN
  have hq := Has.new w38 3 #[.int .i64 0, .int .i64 1, .int .i64 2]
  generalize hW38 : World.alloc w38 _ = w39 at hb38 hq
  have gq : w38.heap.size < w39.heap.size := hq.lt
  have rq := lit3 hq (I64s.out _ (by decide) (by decide)) (I64s.out _ (by decide) (by decide)) (I64s.out _ (by decide) (by decide))
  go_wp2_with fail
  try simp only [hW38]
  clear hW38
  have hB37_39 := Below_trans' hb37 hb37.size hb38
  have hB36_39 := Below_trans' hb36 hb36.size hB37_39
  have hB35_39 := Below_trans' hb35 hb35.size hB36_39
  have hB34_39 := Below_trans' hb34 hb34.size hB35_39
  have hB33_39 := Below_trans' hb33 hb33.size hB34_39
  have hB32_39 := Below_trans' hb32 hb32.size hB33_39
  have hB31_39 := Below_trans' hb31 hb31.size hB32_39
  have hB30_39 := Below_trans' hb30 hb30.size hB31_39
  have hB29_39 := Below_trans' hb29 hb29.size hB30_39
  have hB28_39 := Below_trans' hb28 hb28.size hB29_39
  have hB27_39 := Below_trans' hb27 hb27.size hB28_39
  have hB26_39 := Below_trans' hb26 hb26.size hB27_39
  have hB25_39 := Below_trans' hb25 hb25.size hB26_39
  have hB24_39 := Below_trans' hb24 hb24.size hB25_39
  have hB23_39 := Below_trans' hb23 hb23.size hB24_39
  have hB22_39 := Below_trans' hb22 hb22.size hB23_39
  have hB21_39 := Below_trans' hb21 hb21.size hB22_39
  have hB20_39 := Below_trans' hb20 hb20.size hB21_39
  have hB19_39 := Below_trans' hb19 hb19.size hB20_39
  have hB18_39 := Below_trans' hb18 hb18.size hB19_39
  have hB17_39 := Below_trans' hb17 hb17.size hB18_39
  have hB16_39 := Below_trans' hb16 hb16.size hB17_39
  have hB15_39 := Below_trans' hb15 hb15.size hB16_39
  have hB14_39 := Below_trans' hb14 hb14.size hB15_39
  have hB13_39 := Below_trans' hb13 hb13.size hB14_39
  have hB12_39 := Below_trans' hb12 hb12.size hB13_39
  have hB11_39 := Below_trans' hb11 hb11.size hB12_39
  have hB10_39 := Below_trans' hb10 hb10.size hB11_39
  refine (ints_eq As (some ⟨w38.heap.size, 0, none⟩) 3 cs 3 3 [0, 1, 2] w39 (rS.below hB10_39) rq).mono ?_
  rintro e w40 ⟨rfl, hb39⟩
  have hB38_40 := Below_trans' hb38 hb38.size hb39
  have hB37_40 := Below_trans' hb37 hb37.size hB38_40
  have hB36_40 := Below_trans' hb36 hb36.size hB37_40
  have hB35_40 := Below_trans' hb35 hb35.size hB36_40
  have hB34_40 := Below_trans' hb34 hb34.size hB35_40
  have hB33_40 := Below_trans' hb33 hb33.size hB34_40
  have hB32_40 := Below_trans' hb32 hb32.size hB33_40
  have hB31_40 := Below_trans' hb31 hb31.size hB32_40
  have hB30_40 := Below_trans' hb30 hb30.size hB31_40
  have hB29_40 := Below_trans' hb29 hb29.size hB30_40
  have hB28_40 := Below_trans' hb28 hb28.size hB29_40
  have hB27_40 := Below_trans' hb27 hb27.size hB28_40
  have hB26_40 := Below_trans' hb26 hb26.size hB27_40
  have hB25_40 := Below_trans' hb25 hb25.size hB26_40
  have hB24_40 := Below_trans' hb24 hb24.size hB25_40
  have hB23_40 := Below_trans' hb23 hb23.size hB24_40
  have hB22_40 := Below_trans' hb22 hb22.size hB23_40
  have hB21_40 := Below_trans' hb21 hb21.size hB22_40
  have hB20_40 := Below_trans' hb20 hb20.size hB21_40
  have hB19_40 := Below_trans' hb19 hb19.size hB20_40
  have hB18_40 := Below_trans' hb18 hb18.size hB19_40
  have hB17_40 := Below_trans' hb17 hb17.size hB18_40
  have hB16_40 := Below_trans' hb16 hb16.size hB17_40
  have hB15_40 := Below_trans' hb15 hb15.size hB16_40
  have hB14_40 := Below_trans' hb14 hb14.size hB15_40
  have hB13_40 := Below_trans' hb13 hb13.size hB14_40
  have hB12_40 := Below_trans' hb12 hb12.size hB13_40
  have co1_0 := (ho1.below hB12_40 ho1.lt).cell 0
  have co1_1 := (ho1.below hB12_40 ho1.lt).cell 1
  have co1_2 := (ho1.below hB12_40 ho1.lt).cell 2
  have cx1_0 := (hx1.below hB31_40 hx1.lt).cell 0
  have cx1_1 := (hx1.below hB31_40 hx1.lt).cell 1
  have cx1_2 := (hx1.below hB31_40 hx1.lt).cell 2
  go_wp2_with fail
  have hB11_40 := Below_trans' hb11 hb11.size hB12_40
  refine (same_eq _ _ _ _ _ _ _ _ _ _ _ _ _ _ _ _ _ _ ex12o1 w40 (hO1.below hB11_40) ⟨(rwe1.below hB23_40), (rR1.below below_rnd hB28_40), (rT1.below below_tie hB30_40)⟩).mono ?_
  rintro e w41 ⟨rfl, hb40⟩
  clear co1_0 co1_1 co1_2 cx1_0 cx1_1 cx1_2
  have hB39_41 := Below_trans' hb39 hb39.size hb40
  have hB38_41 := Below_trans' hb38 hb38.size hB39_41
  have hB37_41 := Below_trans' hb37 hb37.size hB38_41
  have hB36_41 := Below_trans' hb36 hb36.size hB37_41
  have hB35_41 := Below_trans' hb35 hb35.size hB36_41
  have hB34_41 := Below_trans' hb34 hb34.size hB35_41
  have hB33_41 := Below_trans' hb33 hb33.size hB34_41
  have hB32_41 := Below_trans' hb32 hb32.size hB33_41
  have hB31_41 := Below_trans' hb31 hb31.size hB32_41
  have hB30_41 := Below_trans' hb30 hb30.size hB31_41
  have hB29_41 := Below_trans' hb29 hb29.size hB30_41
  have hB28_41 := Below_trans' hb28 hb28.size hB29_41
  have hB27_41 := Below_trans' hb27 hb27.size hB28_41
  have hB26_41 := Below_trans' hb26 hb26.size hB27_41
  have hB25_41 := Below_trans' hb25 hb25.size hB26_41
  have hB24_41 := Below_trans' hb24 hb24.size hB25_41
  have hB23_41 := Below_trans' hb23 hb23.size hB24_41
  have hB22_41 := Below_trans' hb22 hb22.size hB23_41
  have hB21_41 := Below_trans' hb21 hb21.size hB22_41
  have hB20_41 := Below_trans' hb20 hb20.size hB21_41
  have hB19_41 := Below_trans' hb19 hb19.size hB20_41
  have hB18_41 := Below_trans' hb18 hb18.size hB19_41
  have hB17_41 := Below_trans' hb17 hb17.size hB18_41
  have hB16_41 := Below_trans' hb16 hb16.size hB17_41
  have hB15_41 := Below_trans' hb15 hb15.size hB16_41
  have hB14_41 := Below_trans' hb14 hb14.size hB15_41
  have co2_0 := (ho2.below hB14_41 ho2.lt).cell 0
  have co2_1 := (ho2.below hB14_41 ho2.lt).cell 1
  have co2_2 := (ho2.below hB14_41 ho2.lt).cell 2
  have cx2_0 := (hx2.below hB38_41 hx2.lt).cell 0
  have cx2_1 := (hx2.below hB38_41 hx2.lt).cell 1
  have cx2_2 := (hx2.below hB38_41 hx2.lt).cell 2
  go_wp2_with fail
  have hB13_41 := Below_trans' hb13 hb13.size hB14_41
  refine (same_eq _ _ _ _ _ _ _ _ _ _ _ _ _ _ _ _ _ _ ex12o2 w41 (hO2.below hB13_41) ⟨(rwe2.below hB32_41), (rR2.below below_rnd hB37_41), RAgg.nil_ _ _ _⟩).mono ?_
  rintro e w42 ⟨rfl, hb41⟩
  clear co2_0 co2_1 co2_2 cx2_0 cx2_1 cx2_2
  go_wp2
  go_ret
  have hB40_42 := Below_trans' hb40 hb40.size hb41
  have hB39_42 := Below_trans' hb39 hb39.size hB40_42
  have hB38_42 := Below_trans' hb38 hb38.size hB39_42
  have hB37_42 := Below_trans' hb37 hb37.size hB38_42
  have hB36_42 := Below_trans' hb36 hb36.size hB37_42
  have hB35_42 := Below_trans' hb35 hb35.size hB36_42
  have hB34_42 := Below_trans' hb34 hb34.size hB35_42
  have hB33_42 := Below_trans' hb33 hb33.size hB34_42
  have hB32_42 := Below_trans' hb32 hb32.size hB33_42
  have hB31_42 := Below_trans' hb31 hb31.size hB32_42
  have hB30_42 := Below_trans' hb30 hb30.size hB31_42
  have hB29_42 := Below_trans' hb29 hb29.size hB30_42
  have hB28_42 := Below_trans' hb28 hb28.size hB29_42
  have hB27_42 := Below_trans' hb27 hb27.size hB28_42
  have hB26_42 := Below_trans' hb26 hb26.size hB27_42
  have hB25_42 := Below_trans' hb25 hb25.size hB26_42
  have hB24_42 := Below_trans' hb24 hb24.size hB25_42
  have hB23_42 := Below_trans' hb23 hb23.size hB24_42
  have hB22_42 := Below_trans' hb22 hb22.size hB23_42
  have hB21_42 := Below_trans' hb21 hb21.size hB22_42
  have hB20_42 := Below_trans' hb20 hb20.size hB21_42
  have hB19_42 := Below_trans' hb19 hb19.size hB20_42
  have hB18_42 := Below_trans' hb18 hb18.size hB19_42
  have hB17_42 := Below_trans' hb17 hb17.size hB18_42
  have hB16_42 := Below_trans' hb16 hb16.size hB17_42
  have hB15_42 := Below_trans' hb15 hb15.size hB16_42
  have hB14_42 := Below_trans' hb14 hb14.size hB15_42
  have hB13_42 := Below_trans' hb13 hb13.size hB14_42
  have hB12_42 := Below_trans' hb12 hb12.size hB13_42
  have hB11_42 := Below_trans' hb11 hb11.size hB12_42
  have hB10_42 := Below_trans' hb10 hb10.size hB11_42
  have hB9_42 := Below_trans' hb9 hb9.size hB10_42
  have hB8_42 := Below_trans' hb8 hb8.size hB9_42
  have hB7_42 := Below_trans' hb7 hb7.size hB8_42
  have hB6_42 := Below_trans' hb6 hb6.size hB7_42
  have hB5_42 := Below_trans' hb5 hb5.size hB6_42
  have hB4_42 := Below_trans' hb4 hb4.size hB5_42
  have hB3_42 := Below_trans' hb3 hb3.size hB4_42
  have hB2_42 := Below_trans' hb2 hb2.size hB3_42
  have hB1_42 := Below_trans' hb1 hb1.size hB2_42
  have hB0_42 := Below_trans' hb0 hb0.size hB1_42
  exact ⟨rfl, hB0_42⟩
end Go.Proofs.YtkhclcdmehjfkaaGreat

namespace Go.Proofs.YtkhclcdmehjfkaaGreat
open Go.RowKit Go.Proofs Go.Shelf
attribute [local go_sem] cell?_more cell?_alloc_some cell?_setCell_far frozen?_alloc_some frozen?_more
theorem may12_any (c k : Int) (A : Option Addr) (n cp : Nat) (l : List Row) (At : Option Addr) (nt ct : Nat) (lot : List Int) (w : World) (h : RRows w A n cp l) (h' : RInts w At nt ct lot) :
    Calls Tryz.prog 49 #[.agg #[.int .i64 c, .int .u8 k, .slice A n cp], .slice At nt ct] w fun e w' => e = .returned (.bool (mayS c k l 1 1 1 lot == 0)) ∧ Below w.heap.size w w' := by
  have hb0 : Below w.heap.size w (w.alloc (.cells #[.int .i64 c, .int .u8 k, .slice A n cp] 28)) := below_allocN
  have hP0 := Has.new w 28 #[.int .i64 c, .int .u8 k, .slice A n cp]
  generalize hW : World.alloc w _ = W0 at hb0 hP0
  have p0 := hP0.cell 0
  have p1 := hP0.cell 1
  have p2 := hP0.cell 2
  go_enter Tryz.func49, Tryz.ntmps49
  go_wp2_with fail
  try simp only [hW]
  clear hW
  refine (may_any c k A n cp l 1 1 1 At nt ct lot W0 (h.below hb0) (h'.below hb0)).mono ?_
  rintro e w1 ⟨rfl, hb1⟩
  go_wp2
  go_ret
  exact ⟨rfl, Below_trans' hb0 hb0.size hb1⟩
end Go.Proofs.YtkhclcdmehjfkaaGreat
