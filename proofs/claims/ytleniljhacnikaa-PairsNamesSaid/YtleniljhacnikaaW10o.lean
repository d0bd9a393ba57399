/-
  The chapter's examples.
-/
import Derived.Test.YtleniljhacnikaaW10n
import Derived.Test.YtleniljhacnikaaEx10
namespace Go.Proofs.Ytleniljhacnikaa
open Go.RowKit Go.Proofs
attribute [local go_sem] cell?_more cell?_alloc_some cell?_setCell_far frozen?_alloc_some frozen?_more

def wC : Array Value := (Array.range 100).map fun k => .int .i64 (wM (k / 10) (k % 10))
theorem wMat : Mat wC wM := by
  refine ⟨by simp [wC], fun x y hx hy => ?_, fun x y _ _ => ?_⟩
  · unfold wC
    rw [Array.getElem?_map, Array.getElem?_range, if_pos (by omega)]
    simp only [Option.map_some]
    rw [show (x * 10 + y) / 10 = x by omega, show (x * 10 + y) % 10 = y by omega]
  · unfold wM I64; repeat' split
    all_goals omega

section
variable {ops : Array Oper} {rest : List Oper} {o : Oper} {a : Act} {w : World} {Q : Exit → Act → World → Prop}
theorem bdRow (hgd : o.guard = none) {ps : Array (Nat × Operand)} (ho : o.op = .build 25 ps) (cells : Array Value) (hc : Try.prog.built 25 (ps.map fun (i, x) => (i, a.eval x)).toList = some cells)
    (h : wpList Try.prog ops Q rest (a.put o.dst (.agg cells)) w) : wpList Try.prog ops Q (o :: rest) a w :=
  wpList_plain hgd fun _ hK => by
    unfold Oper.wp execOp
    have hz := run_build w _ _ _ hc
    simp only [ho, Sem.run_bind, Result.andThen_ok, hz]
    exact hK _ _ h
theorem bdPairs (hgd : o.guard = none) {ps : Array (Nat × Operand)} (ho : o.op = .build 27 ps) (cells : Array Value) (hc : Try.prog.built 27 (ps.map fun (i, x) => (i, a.eval x)).toList = some cells)
    (h : wpList Try.prog ops Q rest (a.put o.dst (.agg cells)) w) : wpList Try.prog ops Q (o :: rest) a w :=
  wpList_plain hgd fun _ hK => by
    unfold Oper.wp execOp
    have hz := run_build w _ _ _ hc
    simp only [ho, Sem.run_bind, Result.andThen_ok, hz]
    exact hK _ _ h
end

/-- A block of numbers is a slice of them. -/
theorem ints_of {w : World} {g t : Nat} (xs : List Int) (h : Has w g t (icells xs)) (hn : xs.length ≤ 9223372036854775807) (hx : ∀ x ∈ xs, -9223372036854775808 ≤ x ∧ x ≤ 9223372036854775807) : RInts w (some ⟨g, 0, none⟩) xs.length xs.length xs := by
  refine ⟨rfl, Nat.le_refl _, hn, hx, fun _ => ⟨g, 0, rfl, fun i hi => ?_⟩⟩
  rw [Nat.zero_add, h.cell]
  simp [icells, List.getD, hi]

theorem rows0 {w : World} {a b g : Nat} (ha : Has w a 3 #[.int .i64 0, .int .i64 1]) (hb : Has w b 3 #[.int .i64 1, .int .i64 2])
    (hg : Has w g 48 #[.slice (some ⟨a, 0, none⟩) 2 2, .int .i64 3, .slice (some ⟨b, 0, none⟩) 2 2, .int .i64 2]) : RRows w (some ⟨g, 0, none⟩) 2 2 l0 := by
  have h1 : RInts w (some ⟨a, 0, none⟩) 2 2 [0, 1] := ints_of [0, 1] ha (by decide) (by intro x hx; simp at hx; omega)
  have h2 : RInts w (some ⟨b, 0, none⟩) 2 2 [1, 2] := ints_of [1, 2] hb (by decide) (by intro x hx; simp at hx; omega)
  refine ⟨rfl, Nat.le_refl _, by omega, fun _ => ⟨g, 0, rfl, fun i hi => ?_⟩⟩
  have : i = 0 ∨ i = 1 := by omega
  rcases this with rfl | rfl
  · exact ⟨_, 2, 2, hg.cell 0, h1, hg.cell 1, by simp [l0]⟩
  · exact ⟨_, 2, 2, hg.cell 2, h2, hg.cell 3, by simp [l0]⟩

set_option maxRecDepth 100000 in
set_option maxHeartbeats 8000000 in
theorem wakes_any (w : World) :
    Calls Try.prog 15 #[] w fun e w' => e = .returned (.bool true) ∧ Below w.heap.size w w' := by
  go_enter Try.func15, Try.ntmps15
  go_wp2_with fail
  have hb0 : Below w.heap.size w ((((w.alloc (.cells #[.int .i64 0, .int .i64 1] 3)).alloc (.cells #[.int .i64 1, .int .i64 2] 3)).alloc (.cells #[.slice (some ⟨w.heap.size, 0, none⟩) 2 2, .int .i64 3, .slice (some ⟨w.heap.size + 1, 0, none⟩) 2 2, .int .i64 2] 48)).alloc
      (.cells #[.int .i64 3, .int .u8 1, .slice (some ⟨w.heap.size + 1 + 1, 0, none⟩) 2 2] 24)) :=
    ((((Below.refl _ _).alloc (Nat.le_refl _) _).alloc (by simp) _).alloc (by simp; omega) _).alloc (by simp; omega) _
  have hr0 := rows0 (w := (((w.alloc (.cells #[.int .i64 0, .int .i64 1] 3)).alloc (.cells #[.int .i64 1, .int .i64 2] 3)).alloc (.cells #[.slice (some ⟨w.heap.size, 0, none⟩) 2 2, .int .i64 3, .slice (some ⟨w.heap.size + 1, 0, none⟩) 2 2, .int .i64 2] 48)).alloc
      (.cells #[.int .i64 3, .int .u8 1, .slice (some ⟨w.heap.size + 1 + 1, 0, none⟩) 2 2] 24)) (((Has.new _ _ _).alloc _).alloc _ |>.alloc _) (((Has.new2 _ _ _ _).alloc _).alloc _) ((Has.new3 _ _ _ _ _).alloc _)
  refine (pof_any 3 1 _ 2 2 l0 _ hr0).mono ?_
  rintro e w1 ⟨R, rfl, hM0, hbw⟩
  rw [ex_of]
  have hM : Mat R wM := hM0.congr (matEq_iff.1 ex_ofM)
  have hb1 := Below_trans' hb0 hb0.size hbw
  have hsR := hM.size
  clear hr0 hb0 hM0 hbw
  go_upto_region 3 with (refine stMat rfl rfl rfl rfl (Has.new _ _ _) zeroMat.size hM.size hM.one ?_)
  generalize hW : World.setRow _ _ _ = W2
  have hm2 : Has W2 w1.heap.size 27 R := by rw [← hW]; exact (Has.new _ _ _).setRow _
  have hb2 : Below w.heap.size w W2 := by rw [← hW]; exact below_setRow (hb1.alloc hb1.size _) hb1.size _
  clear hW hb1
  generalize w1.heap.size = gm at hm2
  go_upto_region 4 with (first
    | (refine bdRow (ps := #[(0, .const (.int .i64 0)), (1, .const (.int .i64 3)), (2, .const (.int .i64 3))]) rfl rfl #[.int .i64 0, .int .i64 3, .int .i64 3, .int .i64 0, .int .i64 0, .int .i64 0, .int .i64 0, .int .i64 0, .int .i64 0, .int .i64 0] (by kernel_rfl) ?_)
    | (refine bdRow (ps := #[(0, .const (.int .i64 2)), (1, .const (.int .i64 0)), (2, .const (.int .i64 5))]) rfl rfl #[.int .i64 2, .int .i64 0, .int .i64 5, .int .i64 0, .int .i64 0, .int .i64 0, .int .i64 0, .int .i64 0, .int .i64 0, .int .i64 0] (by kernel_rfl) ?_)
    | (refine bdRow (ps := #[(0, .const (.int .i64 2)), (1, .const (.int .i64 0)), (2, .const (.int .i64 0))]) rfl rfl #[.int .i64 2, .int .i64 0, .int .i64 0, .int .i64 0, .int .i64 0, .int .i64 0, .int .i64 0, .int .i64 0, .int .i64 0, .int .i64 0] (by kernel_rfl) ?_)
    | (refine bdPairs rfl rfl wC (by kernel_rfl) ?_)
    | (refine stMat rfl rfl rfl rfl (Has.new _ _ _) zeroMat.size wMat.size wMat.one ?_))
  generalize hW : World.setRow _ _ _ = W3
  have hw3 : Has W3 W2.heap.size 27 wC := by rw [← hW]; exact (Has.new _ _ _).setRow _
  have hm3 : Has W3 gm 27 R := by rw [← hW]; exact (hm2.alloc _).farRow (by have := hm2.lt; omega) _
  have hb3 : Below w.heap.size w W3 := by rw [← hW]; exact below_setRow (hb2.alloc hb2.size _) hb2.size _
  clear hW hb2 hm2
  generalize W2.heap.size = gw at hw3
  go_wp2_with (refine ldMat rfl rfl rfl hm3 hsR ?_)
  refine (wins_any R wM hM 3 _).mono ?_
  rintro e w4 ⟨A5, n5, c5, rfl, hi4, hbw⟩
  rw [ex_w3]
  rw [ex_w3L] at hi4
  have hm4 := hm3.below hbw hm3.lt
  have hw4 := hw3.below hbw hw3.lt
  have hb4 := Below_trans' hb3 hb3.size hbw
  clear hm3 hw3 hb3 hbw
  go_upto_region 5 with (fail)
  go_wp2_with (refine ldMat rfl rfl rfl hm4 hsR ?_)
  refine (wins_any R wM hM 0 _).mono ?_
  rintro e w5 ⟨A7, n7, c7, rfl, _, hbw⟩
  rw [ex_w0]
  have hi5 := hi4.below hbw
  clear hi4
  have hm5 := hm4.below hbw hm4.lt
  have hw5 := hw4.below hbw hw4.lt
  have hb5 := Below_trans' hb4 hb4.size hbw
  clear hm4 hw4 hb4 hbw
  go_upto_region 6 with (fail)
  go_wp2_with (refine ldMat rfl rfl rfl hm5 hsR ?_)
  refine (wins_any R wM hM 2 _).mono ?_
  rintro e w6 ⟨A9, n9, c9, rfl, _, hbw⟩
  rw [ex_w2]
  have hi6 := hi5.below hbw
  clear hi5
  have hm6 := hm5.below hbw hm5.lt
  have hw6 := hw5.below hbw hw5.lt
  have hb6 := Below_trans' hb5 hb5.size hbw
  clear hm5 hw5 hb5 hbw
  go_upto_region 7 with (fail)
  go_wp2_with fail
  refine (pof_any 0 0 none 0 0 [] _ (RRows.nil_ _)).mono ?_
  rintro e w7 ⟨R7, rfl, hM7, hbw⟩
  rw [ex_none]
  have hi7 := hi6.below hbw
  clear hi6
  have hm7 := hm6.below hbw hm6.lt
  have hw7 := hw6.below hbw hw6.lt
  have hb7 := Below_trans' hb6 hb6.size hbw
  clear hm6 hw6 hb6 hbw
  go_upto_region 8 with (refine stMat rfl rfl rfl rfl (Has.new _ _ _) zeroMat.size hM7.size hM7.one ?_)
  generalize hW : World.setRow _ _ _ = W8
  have hbw : Below w7.heap.size w7 W8 := by rw [← hW]; exact below_setRow ((Below.refl _ _).alloc (Nat.le_refl _) _) (Nat.le_refl _) _
  clear hW
  have hi8 := hi7.below hbw
  clear hi7
  have hm8 := hm7.below hbw hm7.lt
  have hw8 := hw7.below hbw hw7.lt
  have hb8 := Below_trans' hb7 hb7.size hbw
  clear hm7 hw7 hb7 hbw
  go_wp2_with (refine ldMat rfl rfl rfl hm8 hsR ?_)
  refine (sum_any R R wM wM hM hM _).mono ?_
  rintro e w9 ⟨RS, rfl, hMS, hbw⟩
  rw [ex_sum]
  have hi9 := hi8.below hbw
  have hm9 := hm8.below hbw hm8.lt
  have hw9 := hw8.below hbw hw8.lt
  have hb9 := Below_trans' hb8 hb8.size hbw
  clear hm8 hw8 hb8 hbw
  go_upto_region 9 with (refine stMat rfl rfl rfl rfl (Has.new _ _ _) zeroMat.size hMS.size hMS.one ?_)
  generalize hW : World.setRow _ _ _ = W10
  have hbw : Below w9.heap.size w9 W10 := by rw [← hW]; exact below_setRow ((Below.refl _ _).alloc (Nat.le_refl _) _) (Nat.le_refl _) _
  have hs10 : Has W10 w9.heap.size 27 RS := by rw [← hW]; exact (Has.new _ _ _).setRow _
  clear hW
  have hi10 := hi9.below hbw
  clear hi9
  have hm10 := hm9.below hbw hm9.lt
  have hw10 := hw9.below hbw hw9.lt
  have hb10 := Below_trans' hb9 hb9.size hbw
  clear hm9 hw9 hb9 hbw
  generalize w9.heap.size = gs at hs10
  go_wp2_with (refine ldMat rfl rfl rfl hm10 hsR ?_)
  refine (rename_any R wM hM _ 3 3 [1, 0, 2] _ (ints_of [1, 0, 2] (Has.new _ _ _) (by decide) (by intro x hx; simp at hx; omega))).mono ?_
  rintro e w11 ⟨RR, rfl, hMR, hbw0⟩
  rw [ex_ren]
  have hbw : Below W10.heap.size W10 w11 := Below_trans' ((Below.refl _ _).alloc (Nat.le_refl _) _) (by simp) hbw0
  clear hbw0
  have hi11 := hi10.below hbw
  have hs11 := hs10.below hbw hs10.lt
  clear hi10 hs10
  have hm11 := hm10.below hbw hm10.lt
  have hw11 := hw10.below hbw hw10.lt
  have hb11 := Below_trans' hb10 hb10.size hbw
  clear hm10 hw10 hb10 hbw
  go_upto_region 10 with (refine stMat rfl rfl rfl rfl (Has.new _ _ _) zeroMat.size hMR.size hMR.one ?_)
  generalize hW : World.setRow _ _ _ = W12
  have hbw : Below w11.heap.size w11 W12 := by rw [← hW]; exact below_setRow ((Below.refl _ _).alloc (Nat.le_refl _) _) (Nat.le_refl _) _
  have hr12 : Has W12 w11.heap.size 27 RR := by rw [← hW]; exact (Has.new _ _ _).setRow _
  clear hW
  have hi12 := hi11.below hbw
  have hs12 := hs11.below hbw hs11.lt
  clear hi11 hs11
  have hm12 := hm11.below hbw hm11.lt
  have hw12 := hw11.below hbw hw11.lt
  have hb12 := Below_trans' hb11 hb11.size hbw
  clear hm11 hw11 hb11 hbw
  generalize w11.heap.size = gr at hr12
  go_wp2_with (refine ldMat rfl rfl rfl hm12 hsR ?_)
  refine (rename_any R wM hM _ 2 2 [1, 0] _ (ints_of [1, 0] (Has.new _ _ _) (by decide) (by intro x hx; simp at hx; omega))).mono ?_
  rintro e w13 ⟨RX, rfl, hMX, hbw0⟩
  rw [ex_ren2]
  have hbw : Below W12.heap.size W12 w13 := Below_trans' ((Below.refl _ _).alloc (Nat.le_refl _) _) (by simp) hbw0
  clear hbw0
  have hi13 := hi12.below hbw
  have hs13 := hs12.below hbw hs12.lt
  have hr13 := hr12.below hbw hr12.lt
  clear hi12 hs12 hr12
  have hm13 := hm12.below hbw hm12.lt
  have hw13 := hw12.below hbw hw12.lt
  have hb13 := Below_trans' hb12 hb12.size hbw
  clear hm12 hw12 hb12 hbw
  go_upto_region 11 with (refine stMat rfl rfl rfl rfl (Has.new _ _ _) zeroMat.size hMX.size hMX.one ?_)
  generalize hW : World.setRow _ _ _ = W14
  have hbw : Below w13.heap.size w13 W14 := by rw [← hW]; exact below_setRow ((Below.refl _ _).alloc (Nat.le_refl _) _) (Nat.le_refl _) _
  clear hW
  have hi14 := hi13.below hbw
  have hs14 := hs13.below hbw hs13.lt
  have hr14 := hr13.below hbw hr13.lt
  clear hi13 hs13 hr13
  have hm14 := hm13.below hbw hm13.lt
  have hw14 := hw13.below hbw hw13.lt
  have hb14 := Below_trans' hb13 hb13.size hbw
  clear hm13 hw13 hb13 hbw
  go_wp2_with (refine ldMat rfl rfl rfl hm14 hsR ?_)
  refine (rename_any R wM hM _ 3 3 [1, 1, 0] _ (ints_of [1, 1, 0] (Has.new _ _ _) (by decide) (by intro x hx; simp at hx; omega))).mono ?_
  rintro e w15 ⟨RY, rfl, hMY, hbw0⟩
  rw [ex_ren3]
  have hbw : Below W14.heap.size W14 w15 := Below_trans' ((Below.refl _ _).alloc (Nat.le_refl _) _) (by simp) hbw0
  clear hbw0
  have hi15 := hi14.below hbw
  have hs15 := hs14.below hbw hs14.lt
  have hr15 := hr14.below hbw hr14.lt
  clear hi14 hs14 hr14
  have hm15 := hm14.below hbw hm14.lt
  have hw15 := hw14.below hbw hw14.lt
  have hb15 := Below_trans' hb14 hb14.size hbw
  clear hm14 hw14 hb14 hbw
  go_upto_region 12 with (refine stMat rfl rfl rfl rfl (Has.new _ _ _) zeroMat.size hMY.size hMY.one ?_)
  generalize hW : World.setRow _ _ _ = W16
  have hbw : Below w15.heap.size w15 W16 := by rw [← hW]; exact below_setRow ((Below.refl _ _).alloc (Nat.le_refl _) _) (Nat.le_refl _) _
  clear hW
  have hi16 := hi15.below hbw
  have hs16 := hs15.below hbw hs15.lt
  have hr16 := hr15.below hbw hr15.lt
  clear hi15 hs15 hr15
  have hm16 := hm15.below hbw hm15.lt
  have hw16 := hw15.below hbw hw15.lt
  have hb16 := Below_trans' hb15 hb15.size hbw
  clear hm15 hw15 hb15 hbw
  go_upto_region 13 with (first | (refine ldMat rfl rfl rfl hm16 hsR ?_) | (refine stMat rfl rfl rfl rfl (Has.new _ _ _) zeroMat.size hsR hM.one ?_))
  generalize hW : World.setRow _ _ _ = W17
  have hbw : Below W16.heap.size W16 W17 := by rw [← hW]; exact below_setRow ((Below.refl _ _).alloc (Nat.le_refl _) _) (Nat.le_refl _) _
  have hd17 : Has W17 W16.heap.size 27 R := by rw [← hW]; exact (Has.new _ _ _).setRow _
  clear hW
  have hbb := hb16.size
  have hlm := hm16.lt
  have hlw := hw16.lt
  have hls := hs16.lt
  have hlr := hr16.lt
  have hi16' := hi16
  have hbw16 := hbw
  have hi17 := hi16.below hbw
  have hs17 := hs16.below hbw hs16.lt
  have hr17 := hr16.below hbw hr16.lt
  clear hi16 hs16 hr16
  have hm17 := hm16.below hbw hm16.lt
  have hw17 := hw16.below hbw hw16.lt
  have hb17 := Below_trans' hb16 hb16.size hbw
  clear hm16 hw16 hb16 hbw
  have hfr := hd17.free 0
  have hc0 := (hd17.cell 0).trans (hM.at_ 0 0 (by omega) (by omega))
  go_upto_region 14 with (fail)
  generalize hW : World.setCell _ _ _ = W18
  have hbw : Below W16.heap.size W16 W18 := by rw [← hW]; exact hbw16.setCell (p := ⟨W16.heap.size, 0, none⟩) (Nat.le_refl _) _
  have hbw' : Below W16.heap.size W17 W18 := by rw [← hW]; exact (Below.refl _ _).setCell (p := ⟨W16.heap.size, 0, none⟩) (Nat.le_refl _) _
  have hb18 : Below w.heap.size w W18 := by rw [← hW]; exact hb17.setCell (p := ⟨W16.heap.size, 0, none⟩) hbb _
  have hd18 : Has W18 W16.heap.size 27 (R.setIfInBounds 0 (.int .i64 1)) := by rw [← hW]; exact hd17.put 0 _
  have hm18 : Has W18 gm 27 R := hm17.below hbw' hlm
  have hw18 : Has W18 gw 27 wC := hw17.below hbw' hlw
  have hs18 : Has W18 gs 27 RS := hs17.below hbw' hls
  have hr18 : Has W18 gr 27 RR := hr17.below hbw' hlr
  have hi18 : RInts W18 A5 n5 c5 [2, 1, 0] := hi16'.below hbw
  have hB : Mat (R.setIfInBounds 0 (.int .i64 1)) bM := (hM.put (x := 0) (y := 0) (v := 1) (by omega) (by omega) (by unfold I64; omega)).congr (fun x y _ _ => rfl)
  have hsB := hB.size
  clear hW hbw hbw' hbw16 hi16' hi17 hb17 hd17 hm17 hw17 hs17 hr17 hbb hlm hlw hls hlr hfr hc0
  generalize W16.heap.size = gd at hd18
  simp only [List.append]
  have he : ∀ w : World, (Op.equalIn 10000 27 (.agg R) (.agg wC)).run Try.prog w = .ok true w := by
    have := eqMat hM wMat
    rwa [show matEq wM wM = true from matEq_iff.2 (fun _ _ _ _ => rfl)] at this
  have hgd := eqGuardMat
  go_wp2
  refine ldMatG rfl rfl hm18 hsR ?_
  go_wp2
  refine ldMatG rfl rfl hw18 wMat.size ?_
  go_wp2_with fail
  refine (ints_any A5 _ n5 c5 3 3 [2, 1, 0] [2, 1, 0] _ (hi18.below ((Below.refl _ _).alloc (Nat.le_refl _) _)) (ints_of [2, 1, 0] (Has.new _ _ _) (by decide) (by intro x hx; simp at hx; omega))).mono ?_
  rintro e w19 ⟨rfl, hbw0⟩
  have hbw : Below W18.heap.size W18 w19 := Below_trans' ((Below.refl _ _).alloc (Nat.le_refl _) _) (by simp) hbw0
  rw [show (([2, 1, 0] : List Int) == [2, 1, 0]) = true from rfl]
  have hs19 := hs18.below hbw hs18.lt
  have hr19 := hr18.below hbw hr18.lt
  have hm19 := hm18.below hbw hm18.lt
  have hd19 := hd18.below hbw hd18.lt
  have hb19 := Below_trans' hb18 hb18.size hbw
  clear hm18 hd18 hb18 hbw
  clear hbw0 hi18 hs18 hr18 he hgd hw18
  have hq1 : w19.cell? ⟨gs, 12, none⟩ = some (.int .i64 10) := by
    have := (hs19.cell (1 * 10 + 2)).trans (hMS.at_ 1 2 (by omega) (by omega))
    rw [ex_sumM] at this
    exact this
  have hq2 : w19.cell? ⟨gr, 1, none⟩ = some (.int .i64 2) := by
    have := (hr19.cell (0 * 10 + 1)).trans (hMR.at_ 0 1 (by omega) (by omega))
    rw [ex_renM1] at this
    exact this
  have hq3 : w19.cell? ⟨gr, 10, none⟩ = some (.int .i64 3) := by
    have := (hr19.cell (1 * 10 + 0)).trans (hMR.at_ 1 0 (by omega) (by omega))
    rw [ex_renM2] at this
    exact this
  go_wp2
  refine ldMatG rfl rfl hm19 hsR ?_
  clear hq1 hq2 hq3 hs19 hr19
  go_wp2_with fail
  refine (beats_any R wM hM 0 1 _).mono ?_
  rintro e w20 ⟨rfl, hbw⟩
  rw [ex_m01, show decide ((0 : Int) < 1) = true from rfl]
  have hm20 := hm19.below hbw hm19.lt
  have hd20 := hd19.below hbw hd19.lt
  have hb20 := Below_trans' hb19 hb19.size hbw
  clear hm19 hd19 hb19 hbw
  go_wp2
  refine ldMatG rfl rfl hm20 hsR ?_
  go_wp2_with fail
  refine (beats_any R wM hM 1 0 _).mono ?_
  rintro e w21 ⟨rfl, hbw⟩
  rw [ex_m10, show decide ((0 : Int) < -1) = false from rfl]
  have hm21 := hm20.below hbw hm20.lt
  have hd21 := hd20.below hbw hd20.lt
  have hb21 := Below_trans' hb20 hb20.size hbw
  clear hm20 hd20 hb20 hbw
  go_wp2
  refine ldMatG rfl rfl hm21 hsR ?_
  go_wp2_with fail
  refine (margin_any R wM hM 2 0 _).mono ?_
  rintro e w22 ⟨rfl, hbw⟩
  rw [ex_m20]
  have hm22 := hm21.below hbw hm21.lt
  have hd22 := hd21.below hbw hd21.lt
  have hb22 := Below_trans' hb21 hb21.size hbw
  clear hm21 hd21 hb21 hbw
  go_wp2
  refine ldMatG rfl rfl hd22 hsB ?_
  go_wp2_with fail
  refine (margin_any _ bM hB 2 0 _).mono ?_
  rintro e w23 ⟨rfl, hbw⟩
  rw [ex_b20]
  have hm23 := hm22.below hbw hm22.lt
  have hd23 := hd22.below hbw hd22.lt
  have hb23 := Below_trans' hb22 hb22.size hbw
  clear hm22 hd22 hb22 hbw
  go_wp2
  refine ldMatG rfl rfl hm23 hsR ?_
  go_wp2_with fail
  refine (right_any R wM hM 3 _).mono ?_
  rintro e w24 ⟨rfl, hbw⟩
  rw [ex_r3]
  have hm24 := hm23.below hbw hm23.lt
  have hd24 := hd23.below hbw hd23.lt
  have hb24 := Below_trans' hb23 hb23.size hbw
  clear hm23 hd23 hb23 hbw
  go_wp2
  refine ldMatG rfl rfl hm24 hsR ?_
  go_wp2_with fail
  refine (right_any R wM hM 2 _).mono ?_
  rintro e w25 ⟨rfl, hbw⟩
  rw [ex_r2]
  have hm25 := hm24.below hbw hm24.lt
  have hd25 := hd24.below hbw hd24.lt
  have hb25 := Below_trans' hb24 hb24.size hbw
  clear hm24 hd24 hb24 hbw
  go_wp2
  refine ldMatG rfl rfl hd25 hsB ?_
  go_wp2_with fail
  refine (right_any _ bM hB 3 _).mono ?_
  rintro e w26 ⟨rfl, hbw⟩
  rw [ex_b3]
  have hm26 := hm25.below hbw hm25.lt
  have hd26 := hd25.below hbw hd25.lt
  have hb26 := Below_trans' hb25 hb25.size hbw
  clear hm25 hd25 hb25 hbw
  go_wp2
  refine ldMatG rfl rfl hm26 hsR ?_
  go_wp2_with fail
  refine (turn_any R wM hM _).mono ?_
  rintro e w27 ⟨T, rfl, hT, hbw⟩
  have hm27 := hm26.below hbw hm26.lt
  have hd27 := hd26.below hbw hd26.lt
  have hb27 := Below_trans' hb26 hb26.size hbw
  clear hm26 hd26 hb26 hbw
  obtain ⟨T1, hT1⟩ : ∃ T1, T.extract (1 * 10) (1 * 10 + 10) = T1 := ⟨_, rfl⟩
  have hTr := hT.row (x := 1) (by omega)
  rw [hT1] at hTr
  have hix : ∀ w : World, (Instr.index 27 (.agg T) (.int .i64 1)).run Try.prog w = .ok (.agg T1) w := ixMat (x := 1) (by omega) hT1
  have hix2 : ∀ w : World, (Instr.index 25 (.agg T1) (.int .i64 0)).run Try.prog w = .ok (.int .i64 3) w := ixRow hTr (y := 0) (by omega)
  go_wp2
  go_ret
  exact ⟨rfl, hb27⟩
end Go.Proofs.Ytleniljhacnikaa
