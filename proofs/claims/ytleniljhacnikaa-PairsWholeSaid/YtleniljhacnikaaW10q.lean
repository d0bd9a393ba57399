/-
  The law PairsWhole.
-/
import Derived.Test.YtleniljhacnikaaW10o
import Derived.Test.YtleniljhacnikaaW9e
import Derived.Test.YtleniljhacnikaaSpecQ
import Derived.Test.YtleniljhacnikaaMem2
namespace Go.Proofs.Ytleniljhacnikaa
open Go.RowKit Go.Proofs
attribute [local go_sem] cell?_more cell?_alloc_some cell?_setCell_far frozen?_alloc_some frozen?_more
attribute [local go_sem ↓] ldm_fold
attribute [local go_sem] run_LDM run_LDM_more run_LDM_drew

set_option maxRecDepth 100000 in
set_option maxHeartbeats 8000000 in
theorem pairsWhole_any (c k : Int) (A : Option Addr) (n cp : Nat) (l : List Row) (w : World) (hl : RRows w A n cp l) :
    Calls Try.prog 4 #[.agg #[.int .i64 c, .int .u8 k, .slice A n cp]] w fun e w' => e = .returned (.bool true) ∧ Below w.heap.size w w' := by
  have hS0 := (Hs.nil w).alloc 24 #[.int .i64 c, .int .u8 k, .slice A n cp]
  have hb0 : Below w.heap.size w (w.alloc (.cells #[.int .i64 c, .int .u8 k, .slice A n cp] 24)) := (Below.refl _ _).alloc (Nat.le_refl _) _
  have hn := hl.le
  have hlen := hl.len
  go_enter Try.func4, Try.ntmps4
  go_wp2_with fail
  refine (rcheck_any c k A n cp l _ (hl.below hb0)).mono ?_
  rintro e w1 ⟨rfl, hbw⟩
  have hS1 := hS0.below hbw
  have hb1 := Below_trans' hb0 hb0.size hbw
  clear hS0 hb0 hbw
  by_cases herr : checkS c k l = 0
  · have H0 := hide herr
    obtain ⟨-, c1, c2, k1, k2, ht, -⟩ := check_ok herr
    clear herr
    rw [H0.out]
    obtain ⟨cn, rfl⟩ : ∃ cn : Nat, c = cn := ⟨c.toNat, by omega⟩
    have p0 : w1.cell? ⟨w.heap.size, 0, none⟩ = some (.int .i64 (cn : Int)) := (hS1.1).cell 0
    have p1 : w1.cell? ⟨w.heap.size, 1, none⟩ = some (.int .u8 k) := (hS1.1).cell 1
    have p2 : w1.cell? ⟨w.heap.size, 2, none⟩ = some (.slice A n cp) := (hS1.1).cell 2
    go_wp2_with fail
    refine (pof_any _ k A n cp l _ (hl.below hb1)).mono ?_
    rintro e w2 ⟨R, rfl, hM, hbw⟩
    rw [H0.out]
    clear p0 p1 p2
    have hS2 := hS1.below hbw
    have hb2 := Below_trans' hb1 hb1.size hbw
    clear hS1 hb1 hbw
    go_upto_region 4 with (refine stMat rfl rfl rfl rfl (Has.new _ _ _) zeroMat.size hM.size hM.one ?_)
    have hS3 := hS2.newRow 27 Try.zeroCells27 R
    have hb3 := below_newRow hb2 hb2.size (.cells Try.zeroCells27 27) R
    clear hS2 hb2
    generalize hW : World.setRow _ _ _ = W3 at hS3 hb3
    try rw [hW]
    clear hW
    generalize w2.heap.size = gm at hS3
    have p0 : W3.cell? ⟨w.heap.size, 0, none⟩ = some (.int .i64 (cn : Int)) := (hS3.2.1).cell 0
    have p1 : W3.cell? ⟨w.heap.size, 1, none⟩ = some (.int .u8 k) := (hS3.2.1).cell 1
    have p2 : W3.cell? ⟨w.heap.size, 2, none⟩ = some (.slice A n cp) := (hS3.2.1).cell 2
    go_wp2_with fail
    refine (many_any _ k A n cp l _ (hl.below hb3)).mono ?_
    rintro e w4 ⟨rfl, hbw⟩
    rw [H0.out, show cntV (cn : Int) k l anyRow = totS l by rw [cntV, if_pos H0.out, cntP_any]]
    clear p0 p1 p2
    have hS4 := hS3.below hbw
    have hb4 := Below_trans' hb3 hb3.size hbw
    clear hS3 hb3 hbw
    go_upto_region 5 with (fail)
    have htn : 0 ≤ totS l := by
      have := (cntP_bd (p := anyRow) H0.out l.length (Nat.le_refl _)).1
      rw [List.take_length, cntP_any] at this; exact this
    obtain ⟨T0, hT⟩ : ∃ T0, Mat T0 (fun x y => ofR (cn : Int) k l y x) := ⟨_, hM.turned⟩
    have hright : ∀ W, Calls Try.prog 25 #[.agg R, .int .i64 (cn : Int)] W fun e w' => e = .returned (.bool true) ∧ Below W.heap.size W w' := fun W =>
      (right_any R _ hM cn W).mono (by rintro e w' ⟨rfl, h⟩; exact ⟨by rw [ofR_right H0.out (Int.le_refl _) c2], h⟩)
    have hturn1 : ∀ W, Calls Try.prog 30 #[.agg R] W fun e w' => e = .returned (.agg T0) ∧ Below W.heap.size W w' := fun W =>
      (turn_any R _ hM W).mono (by rintro e w' ⟨D, rfl, h, hb⟩; exact ⟨by rw [h.unique hT (fun _ _ _ _ => rfl)], hb⟩)
    have hturn2 : ∀ W, Calls Try.prog 30 #[.agg T0] W fun e w' => e = .returned (.agg R) ∧ Below W.heap.size W w' := fun W =>
      (turn_any _ _ hT W).mono (by rintro e w' ⟨D, rfl, h, hb⟩; exact ⟨by rw [h.unique hM (fun _ _ _ _ => rfl)], hb⟩)
    have hgd := eqGuardMat
    have he : ∀ w : World, (Op.equalIn 10000 27 (.agg R) (.agg R)).run Try.prog w = .ok true w := fun w => by rw [eqMat hM hM w, matEq_self]
    have hld := good_of hS4.1 hM.size
    have hlc := cells_eq hS4.1
    have p0 : w4.cell? ⟨w.heap.size, 0, none⟩ = some (.int .i64 (cn : Int)) := (hS4.2.1).cell 0
    have p1 : w4.cell? ⟨w.heap.size, 1, none⟩ = some (.int .u8 k) := (hS4.2.1).cell 1
    have p2 : w4.cell? ⟨w.heap.size, 2, none⟩ = some (.slice A n cp) := (hS4.2.1).cell 2
    refine wp_region_more (by kernel_rfl) (by kernel_rfl) ?_
    repeat (go_big_quiet_step ((first | (go_at_call 25; with_reducible exact more_of (hright _)) | (go_at_call 30; first | with_reducible exact more_of (hturn1 _) | with_reducible exact more_of (hturn2 _)))))
    refine wpQuiet_nil ?_
    rintro w5 ⟨qw5, hww5⟩
    have hbw5 := below_of_eq hww5
    clear hww5 qw5
    clear hld hlc hright hturn1 hturn2 hgd he p0 p1 p2
    have hbw := hbw5
    have hS5 := hS4.below hbw
    have hb5 := Below_trans' hb4 hb4.size hbw
    clear hS4 hb4 hbw
    have hP := hS5.2.1
    have p0 : w5.cell? ⟨w.heap.size, 0, none⟩ = some (.int .i64 (cn : Int)) := (hP).cell 0
    have p1 : w5.cell? ⟨w.heap.size, 1, none⟩ = some (.int .u8 k) := (hP).cell 1
    have p2 : w5.cell? ⟨w.heap.size, 2, none⟩ = some (.slice A n cp) := (hP).cell 2
    go_wp2_with fail
    clear p0 p1 p2 hP
    go_loopw [7, 8] (fun f i wr => ∃ t : Nat, t ≤ n ∧ i = .int .i64 t ∧ f = .bool (fullB cn k l t) ∧ Hs wr [(gm, 27, R), (w.heap.size, 24, #[.int .i64 (cn : Int), .int .u8 k, .slice A n cp])] ∧ Below w.heap.size w wr) (fun _ i _ => n - (intOf i).toNat)
    case atStart => exact ⟨0, Nat.zero_le _, rfl, by rw [fullB_zero]; rfl, hS5, hb5⟩
    case round =>
      obtain ⟨t, ht, rfl, rfl, hS, hb⟩ := hrel
      have hP := hS.2.1
      have p0 : wr.cell? ⟨w.heap.size, 0, none⟩ = some (.int .i64 (cn : Int)) := (hP).cell 0
      have p1 : wr.cell? ⟨w.heap.size, 1, none⟩ = some (.int .u8 k) := (hP).cell 1
      have p2 : wr.cell? ⟨w.heap.size, 2, none⟩ = some (.slice A n cp) := (hP).cell 2
      clear hP
      by_cases hlt : t < n
      · obtain ⟨b, off, Am, nm, cm, ms, y, rfl, hc0, hm0, hc1, hd, hat, hy⟩ := (hl.below hb).step hlt
        have e := hide (fullB_succ cn k l t)
        rw [getD_of hat.out, hm0.len] at e
        have b1 : (0 : Int) ≤ (t : Int) := by omega
        have b2 : (t : Int) < (n : Int) := by omega
        have hnm := hm0.le
        have e1 : IntKind.i64.wrap ((cn : Int) - 1) = (cn : Int) - 1 := IntWalk.i64_in _ (by omega)
        cases hf : fullB cn k l t with
        | false =>
          rw [hf] at e
          go_wp2
          refine wp_region_more (by kernel_rfl) (by kernel_rfl) ?_
          repeat (go_big_quiet_step (fail))
          refine wpQuiet_nil ?_
          rintro w6 ⟨qw6, hww6⟩
          have hbw6 := below_of_eq hww6
          clear hww6 qw6
          go_wp2
          go_roundw
          case rel => exact ⟨t + 1, by omega, by go_num, by rw [e.out]; rfl, hS.below hbw6, Below_trans' hb hb.size hbw6⟩
          case measure => simp [intOf] <;> omega
        | true =>
          rw [hf] at e
          by_cases hge : (cn : Int) - 1 ≤ nm
          · have hg : decide ((cn : Int) - 1 ≤ nm) = true := decide_eq_true hge
            rw [hg] at e
            go_wp2
            refine wp_region_more (by kernel_rfl) (by kernel_rfl) ?_
            repeat (go_big_quiet_step (fail))
            refine wpQuiet_nil ?_
            rintro w6 ⟨qw6, hww6⟩
            have hbw6 := below_of_eq hww6
            clear hww6 qw6
            go_wp2
            go_roundw
            case rel => exact ⟨t + 1, by omega, by go_num, by rw [e.out]; rfl, hS.below hbw6, Below_trans' hb hb.size hbw6⟩
            case measure => simp [intOf] <;> omega
          · have hg : decide ((cn : Int) - 1 ≤ nm) = false := decide_eq_false hge
            rw [hg] at e
            go_wp2
            refine wp_region_more (by kernel_rfl) (by kernel_rfl) ?_
            repeat (go_big_quiet_step (fail))
            refine wpQuiet_nil ?_
            rintro w6 ⟨qw6, hww6⟩
            have hbw6 := below_of_eq hww6
            clear hww6 qw6
            go_wp2
            go_roundw
            case rel => exact ⟨t + 1, by omega, by go_num, by rw [e.out]; rfl, hS.below hbw6, Below_trans' hb hb.size hbw6⟩
            case measure => simp [intOf] <;> omega
      · have hF : Hid (fullB cn k l t = fullB cn k l l.length) := by unfold Hid; rw [show t = l.length by omega]
        have b2 : ¬ (t : Int) < n := by omega
        clear hlt ht
        generalize fullB cn k l t = F at hF
        generalize hTT : totS l = T at ht htn
        have HT := hide hTT
        clear hTT
        go_wp2_with fail
        clear p0 p1 p2 b2
        go_loopw [9] (fun i wr => ∃ X : Nat, X ≤ cn ∧ i = .int .i64 X ∧ Hs wr [(gm, 27, R), (w.heap.size, 24, #[.int .i64 (cn : Int), .int .u8 k, .slice A n cp])] ∧ Below w.heap.size w wr) (fun i _ => cn - (intOf i).toNat)
        case atStart => exact ⟨0, Nat.zero_le _, rfl, hS, hb⟩
        case round =>
          clear hS hb
          obtain ⟨X, hX, rfl, hS, hb⟩ := hrel
          obtain ⟨wx, rfl⟩ : ∃ wx : World, wx = wr := ⟨_, rfl⟩
          have p0 : wx.cell? ⟨w.heap.size, 0, none⟩ = some (.int .i64 (cn : Int)) := hS.2.1.cell 0
          by_cases hltX : X < cn
          · have b1 : (X : Int) < 10 := by omega
            go_wp2_with fail
            clear p0
            go_loopw [10] (fun i wr => ∃ Y : Nat, Y ≤ cn ∧ i = .int .i64 Y ∧ Hs wr [(gm, 27, R), (w.heap.size, 24, #[.int .i64 (cn : Int), .int .u8 k, .slice A n cp])] ∧ Below w.heap.size w wr) (fun i _ => cn - (intOf i).toNat)
            case atStart => exact ⟨0, Nat.zero_le _, rfl, hS, hb⟩
            case round =>
              clear hS hb
              obtain ⟨Y, hY, rfl, hS, hb⟩ := hrel
              have p0 : wr.cell? ⟨w.heap.size, 0, none⟩ = some (.int .i64 (cn : Int)) := hS.2.1.cell 0
              by_cases hltY : Y < cn
              · have b2 : (Y : Int) < 10 := by omega
                have b3 : (0 : Int) ≤ (X : Int) := by omega
                have b4 : (0 : Int) ≤ (Y : Int) := by omega
                have hmg := hide (ofR_margin (k := k) (l := l) H0.out (x := X) (y := Y) (by omega) (by omega))
                have hmg' := hide (ofR_margin (k := k) (l := l) H0.out (x := Y) (y := X) (by omega) (by omega))
                obtain ⟨u0, v0, huv, hfull, hself⟩ := ofR_both (k := k) (l := l) H0.out (x := X) (y := Y) (by omega) (by omega)
                have hcu := (hS.1.cell (X * 10 + Y)).trans (hM.at_ X Y (by omega) (by omega))
                have hcv := (hS.1.cell (Y * 10 + X)).trans (hM.at_ Y X (by omega) (by omega))
                rw [HT.out] at huv hfull
                rw [← hF.out] at hfull
                have hFull := hide hfull
                have hSelf := hide hself
                clear hfull hself
                generalize ofR cn k l X Y = u at hmg hmg' u0 huv hFull hSelf hcu
                generalize ofR cn k l Y X = v at hmg hmg' v0 huv hFull hSelf hcv
                have esum : IntKind.i64.wrap (u + v) = u + v := IntWalk.i64_in _ (by omega)
                cases F with
                | true =>
                  by_cases hxy : X = Y
                  · have h1 : ((X : Int) == (Y : Int)) = true := by simp [hxy]
                    have h2 : ((X : Int) != (Y : Int)) = false := by simp [hxy]
                    have h3 : ((u + v) != 0) = false := by rw [hSelf.out hxy]; rfl
                    have Hxy := hide hxy
                    clear hxy
                    go_wp2
                    refine wp_region_more (by kernel_rfl) (by kernel_rfl) ?_
                    repeat (go_big_quiet_step (fail))
                    refine wpQuiet_nil ?_
                    rintro w7 ⟨qw7, hww7⟩
                    have hbw7 := below_of_eq hww7
                    clear hww7 qw7
                    have hS7 := hS.below hbw7
                    have hb7 := Below_trans' hb hb.size hbw7
                    have hcu7 := keep_cell hbw7 hcu
                    have hcv7 := keep_cell hbw7 hcv
                    clear hS hb hcu hcv p0 hbw7 hFull hSelf
                    have hld := good_of hS7.1 hM.size
                    have hlc := cells_eq hS7.1
                    have hG1 : ∀ W, Calls Try.prog 27 #[.agg R, .int .i64 (X : Int), .int .i64 (Y : Int)] W fun e w' => e = .returned (.int .i64 (u - v)) ∧ Below W.heap.size W w' := fun W =>
                      (margin_any R _ hM X Y W).mono (by rintro e w' ⟨rfl, h⟩; exact ⟨by rw [hmg.out], h⟩)
                    have hG2 : ∀ W, Calls Try.prog 27 #[.agg R, .int .i64 (Y : Int), .int .i64 (X : Int)] W fun e w' => e = .returned (.int .i64 (v - u)) ∧ Below W.heap.size W w' := fun W =>
                      (margin_any R _ hM Y X W).mono (by rintro e w' ⟨rfl, h⟩; exact ⟨by rw [hmg'.out], h⟩)
                    have eneg : IntKind.i64.wrap (-(v - u)) = u - v := by rw [IntWalk.i64_in _ (by omega)]; omega
                    go_upto_region 21 with (fail)
                    rcases Int.lt_trichotomy u v with ho | ho | ho
                    · have hB1 : ∀ W, Calls Try.prog 29 #[.agg R, .int .i64 (X : Int), .int .i64 (Y : Int)] W fun e w' => e = .returned (.bool false) ∧ Below W.heap.size W w' := fun W =>
                        (beats_any R _ hM X Y W).mono (by rintro e w' ⟨rfl, h⟩; exact ⟨by rw [hmg.out, show decide (0 < u - v) = false by simp; omega], h⟩)
                      have hB2 : ∀ W, Calls Try.prog 29 #[.agg R, .int .i64 (Y : Int), .int .i64 (X : Int)] W fun e w' => e = .returned (.bool true) ∧ Below W.heap.size W w' := fun W =>
                        (beats_any R _ hM Y X W).mono (by rintro e w' ⟨rfl, h⟩; exact ⟨by rw [hmg'.out, show decide (0 < v - u) = true by simp; omega], h⟩)
                      have hg1 : decide (v < u) = false := by simp; omega
                      clear ho
                      refine wp_region_more (by kernel_rfl) (by kernel_rfl) ?_
                      repeat (go_big_quiet_step ((first | (go_at_call 29; first | with_reducible exact more_of (hB1 _) | with_reducible exact more_of (hB2 _)) | (go_at_call 27; first | with_reducible exact more_of (hG1 _) | with_reducible exact more_of (hG2 _)))))
                      refine wpQuiet_nil ?_
                      rintro w8 ⟨qw8, hww8⟩
                      have hbw8 := below_of_eq hww8
                      clear hww8 qw8
                      go_wp2
                      go_roundw
                      case rel => exact ⟨Y + 1, by omega, by go_num, hS7.below hbw8, Below_trans' hb7 hb7.size hbw8⟩
                      case measure => simp [intOf] <;> omega
                    · have hB1 : ∀ W, Calls Try.prog 29 #[.agg R, .int .i64 (X : Int), .int .i64 (Y : Int)] W fun e w' => e = .returned (.bool false) ∧ Below W.heap.size W w' := fun W =>
                        (beats_any R _ hM X Y W).mono (by rintro e w' ⟨rfl, h⟩; exact ⟨by rw [hmg.out, show decide (0 < u - v) = false by simp; omega], h⟩)
                      have hB2 : ∀ W, Calls Try.prog 29 #[.agg R, .int .i64 (Y : Int), .int .i64 (X : Int)] W fun e w' => e = .returned (.bool false) ∧ Below W.heap.size W w' := fun W =>
                        (beats_any R _ hM Y X W).mono (by rintro e w' ⟨rfl, h⟩; exact ⟨by rw [hmg'.out, show decide (0 < v - u) = false by simp; omega], h⟩)
                      have hg1 : decide (v < u) = false := by simp; omega
                      clear ho
                      refine wp_region_more (by kernel_rfl) (by kernel_rfl) ?_
                      repeat (go_big_quiet_step ((first | (go_at_call 29; first | with_reducible exact more_of (hB1 _) | with_reducible exact more_of (hB2 _)) | (go_at_call 27; first | with_reducible exact more_of (hG1 _) | with_reducible exact more_of (hG2 _)))))
                      refine wpQuiet_nil ?_
                      rintro w8 ⟨qw8, hww8⟩
                      have hbw8 := below_of_eq hww8
                      clear hww8 qw8
                      go_wp2
                      go_roundw
                      case rel => exact ⟨Y + 1, by omega, by go_num, hS7.below hbw8, Below_trans' hb7 hb7.size hbw8⟩
                      case measure => simp [intOf] <;> omega
                    · have hB1 : ∀ W, Calls Try.prog 29 #[.agg R, .int .i64 (X : Int), .int .i64 (Y : Int)] W fun e w' => e = .returned (.bool true) ∧ Below W.heap.size W w' := fun W =>
                        (beats_any R _ hM X Y W).mono (by rintro e w' ⟨rfl, h⟩; exact ⟨by rw [hmg.out, show decide (0 < u - v) = true by simp; omega], h⟩)
                      have hB2 : ∀ W, Calls Try.prog 29 #[.agg R, .int .i64 (Y : Int), .int .i64 (X : Int)] W fun e w' => e = .returned (.bool false) ∧ Below W.heap.size W w' := fun W =>
                        (beats_any R _ hM Y X W).mono (by rintro e w' ⟨rfl, h⟩; exact ⟨by rw [hmg'.out, show decide (0 < v - u) = false by simp; omega], h⟩)
                      have hg1 : decide (v < u) = true := by simp; omega
                      clear ho
                      refine wp_region_more (by kernel_rfl) (by kernel_rfl) ?_
                      repeat (go_big_quiet_step ((first | (go_at_call 29; first | with_reducible exact more_of (hB1 _) | with_reducible exact more_of (hB2 _)) | (go_at_call 27; first | with_reducible exact more_of (hG1 _) | with_reducible exact more_of (hG2 _)))))
                      refine wpQuiet_nil ?_
                      rintro w8 ⟨qw8, hww8⟩
                      have hbw8 := below_of_eq hww8
                      clear hww8 qw8
                      go_wp2
                      go_roundw
                      case rel => exact ⟨Y + 1, by omega, by go_num, hS7.below hbw8, Below_trans' hb7 hb7.size hbw8⟩
                      case measure => simp [intOf] <;> omega
                  · have h1 : ((X : Int) == (Y : Int)) = false := by simp; omega
                    have h2 : ((X : Int) != (Y : Int)) = true := by simp; omega
                    have h3 : ((u + v) != T) = false := by rw [hFull.out rfl hxy]; simp
                    have Hxy := hide hxy
                    clear hxy
                    go_wp2
                    refine wp_region_more (by kernel_rfl) (by kernel_rfl) ?_
                    repeat (go_big_quiet_step (fail))
                    refine wpQuiet_nil ?_
                    rintro w7 ⟨qw7, hww7⟩
                    have hbw7 := below_of_eq hww7
                    clear hww7 qw7
                    have hS7 := hS.below hbw7
                    have hb7 := Below_trans' hb hb.size hbw7
                    have hcu7 := keep_cell hbw7 hcu
                    have hcv7 := keep_cell hbw7 hcv
                    clear hS hb hcu hcv p0 hbw7 hFull hSelf
                    have hld := good_of hS7.1 hM.size
                    have hlc := cells_eq hS7.1
                    have hG1 : ∀ W, Calls Try.prog 27 #[.agg R, .int .i64 (X : Int), .int .i64 (Y : Int)] W fun e w' => e = .returned (.int .i64 (u - v)) ∧ Below W.heap.size W w' := fun W =>
                      (margin_any R _ hM X Y W).mono (by rintro e w' ⟨rfl, h⟩; exact ⟨by rw [hmg.out], h⟩)
                    have hG2 : ∀ W, Calls Try.prog 27 #[.agg R, .int .i64 (Y : Int), .int .i64 (X : Int)] W fun e w' => e = .returned (.int .i64 (v - u)) ∧ Below W.heap.size W w' := fun W =>
                      (margin_any R _ hM Y X W).mono (by rintro e w' ⟨rfl, h⟩; exact ⟨by rw [hmg'.out], h⟩)
                    have eneg : IntKind.i64.wrap (-(v - u)) = u - v := by rw [IntWalk.i64_in _ (by omega)]; omega
                    go_upto_region 21 with (fail)
                    rcases Int.lt_trichotomy u v with ho | ho | ho
                    · have hB1 : ∀ W, Calls Try.prog 29 #[.agg R, .int .i64 (X : Int), .int .i64 (Y : Int)] W fun e w' => e = .returned (.bool false) ∧ Below W.heap.size W w' := fun W =>
                        (beats_any R _ hM X Y W).mono (by rintro e w' ⟨rfl, h⟩; exact ⟨by rw [hmg.out, show decide (0 < u - v) = false by simp; omega], h⟩)
                      have hB2 : ∀ W, Calls Try.prog 29 #[.agg R, .int .i64 (Y : Int), .int .i64 (X : Int)] W fun e w' => e = .returned (.bool true) ∧ Below W.heap.size W w' := fun W =>
                        (beats_any R _ hM Y X W).mono (by rintro e w' ⟨rfl, h⟩; exact ⟨by rw [hmg'.out, show decide (0 < v - u) = true by simp; omega], h⟩)
                      have hg1 : decide (v < u) = false := by simp; omega
                      clear ho
                      refine wp_region_more (by kernel_rfl) (by kernel_rfl) ?_
                      repeat (go_big_quiet_step ((first | (go_at_call 29; first | with_reducible exact more_of (hB1 _) | with_reducible exact more_of (hB2 _)) | (go_at_call 27; first | with_reducible exact more_of (hG1 _) | with_reducible exact more_of (hG2 _)))))
                      refine wpQuiet_nil ?_
                      rintro w8 ⟨qw8, hww8⟩
                      have hbw8 := below_of_eq hww8
                      clear hww8 qw8
                      go_wp2
                      go_roundw
                      case rel => exact ⟨Y + 1, by omega, by go_num, hS7.below hbw8, Below_trans' hb7 hb7.size hbw8⟩
                      case measure => simp [intOf] <;> omega
                    · have hB1 : ∀ W, Calls Try.prog 29 #[.agg R, .int .i64 (X : Int), .int .i64 (Y : Int)] W fun e w' => e = .returned (.bool false) ∧ Below W.heap.size W w' := fun W =>
                        (beats_any R _ hM X Y W).mono (by rintro e w' ⟨rfl, h⟩; exact ⟨by rw [hmg.out, show decide (0 < u - v) = false by simp; omega], h⟩)
                      have hB2 : ∀ W, Calls Try.prog 29 #[.agg R, .int .i64 (Y : Int), .int .i64 (X : Int)] W fun e w' => e = .returned (.bool false) ∧ Below W.heap.size W w' := fun W =>
                        (beats_any R _ hM Y X W).mono (by rintro e w' ⟨rfl, h⟩; exact ⟨by rw [hmg'.out, show decide (0 < v - u) = false by simp; omega], h⟩)
                      have hg1 : decide (v < u) = false := by simp; omega
                      clear ho
                      refine wp_region_more (by kernel_rfl) (by kernel_rfl) ?_
                      repeat (go_big_quiet_step ((first | (go_at_call 29; first | with_reducible exact more_of (hB1 _) | with_reducible exact more_of (hB2 _)) | (go_at_call 27; first | with_reducible exact more_of (hG1 _) | with_reducible exact more_of (hG2 _)))))
                      refine wpQuiet_nil ?_
                      rintro w8 ⟨qw8, hww8⟩
                      have hbw8 := below_of_eq hww8
                      clear hww8 qw8
                      go_wp2
                      go_roundw
                      case rel => exact ⟨Y + 1, by omega, by go_num, hS7.below hbw8, Below_trans' hb7 hb7.size hbw8⟩
                      case measure => simp [intOf] <;> omega
                    · have hB1 : ∀ W, Calls Try.prog 29 #[.agg R, .int .i64 (X : Int), .int .i64 (Y : Int)] W fun e w' => e = .returned (.bool true) ∧ Below W.heap.size W w' := fun W =>
                        (beats_any R _ hM X Y W).mono (by rintro e w' ⟨rfl, h⟩; exact ⟨by rw [hmg.out, show decide (0 < u - v) = true by simp; omega], h⟩)
                      have hB2 : ∀ W, Calls Try.prog 29 #[.agg R, .int .i64 (Y : Int), .int .i64 (X : Int)] W fun e w' => e = .returned (.bool false) ∧ Below W.heap.size W w' := fun W =>
                        (beats_any R _ hM Y X W).mono (by rintro e w' ⟨rfl, h⟩; exact ⟨by rw [hmg'.out, show decide (0 < v - u) = false by simp; omega], h⟩)
                      have hg1 : decide (v < u) = true := by simp; omega
                      clear ho
                      refine wp_region_more (by kernel_rfl) (by kernel_rfl) ?_
                      repeat (go_big_quiet_step ((first | (go_at_call 29; first | with_reducible exact more_of (hB1 _) | with_reducible exact more_of (hB2 _)) | (go_at_call 27; first | with_reducible exact more_of (hG1 _) | with_reducible exact more_of (hG2 _)))))
                      refine wpQuiet_nil ?_
                      rintro w8 ⟨qw8, hww8⟩
                      have hbw8 := below_of_eq hww8
                      clear hww8 qw8
                      go_wp2
                      go_roundw
                      case rel => exact ⟨Y + 1, by omega, by go_num, hS7.below hbw8, Below_trans' hb7 hb7.size hbw8⟩
                      case measure => simp [intOf] <;> omega
                | false =>
                  by_cases hxy : X = Y
                  · have h1 : ((X : Int) == (Y : Int)) = true := by simp [hxy]
                    have h2 : ((X : Int) != (Y : Int)) = false := by simp [hxy]
                    have h3 : ((u + v) != 0) = false := by rw [hSelf.out hxy]; rfl
                    have Hxy := hide hxy
                    clear hxy
                    go_wp2
                    refine wp_region_more (by kernel_rfl) (by kernel_rfl) ?_
                    repeat (go_big_quiet_step (fail))
                    refine wpQuiet_nil ?_
                    rintro w7 ⟨qw7, hww7⟩
                    have hbw7 := below_of_eq hww7
                    clear hww7 qw7
                    have hS7 := hS.below hbw7
                    have hb7 := Below_trans' hb hb.size hbw7
                    have hcu7 := keep_cell hbw7 hcu
                    have hcv7 := keep_cell hbw7 hcv
                    clear hS hb hcu hcv p0 hbw7 hFull hSelf
                    have hld := good_of hS7.1 hM.size
                    have hlc := cells_eq hS7.1
                    have hG1 : ∀ W, Calls Try.prog 27 #[.agg R, .int .i64 (X : Int), .int .i64 (Y : Int)] W fun e w' => e = .returned (.int .i64 (u - v)) ∧ Below W.heap.size W w' := fun W =>
                      (margin_any R _ hM X Y W).mono (by rintro e w' ⟨rfl, h⟩; exact ⟨by rw [hmg.out], h⟩)
                    have hG2 : ∀ W, Calls Try.prog 27 #[.agg R, .int .i64 (Y : Int), .int .i64 (X : Int)] W fun e w' => e = .returned (.int .i64 (v - u)) ∧ Below W.heap.size W w' := fun W =>
                      (margin_any R _ hM Y X W).mono (by rintro e w' ⟨rfl, h⟩; exact ⟨by rw [hmg'.out], h⟩)
                    have eneg : IntKind.i64.wrap (-(v - u)) = u - v := by rw [IntWalk.i64_in _ (by omega)]; omega
                    go_upto_region 21 with (fail)
                    rcases Int.lt_trichotomy u v with ho | ho | ho
                    · have hB1 : ∀ W, Calls Try.prog 29 #[.agg R, .int .i64 (X : Int), .int .i64 (Y : Int)] W fun e w' => e = .returned (.bool false) ∧ Below W.heap.size W w' := fun W =>
                        (beats_any R _ hM X Y W).mono (by rintro e w' ⟨rfl, h⟩; exact ⟨by rw [hmg.out, show decide (0 < u - v) = false by simp; omega], h⟩)
                      have hB2 : ∀ W, Calls Try.prog 29 #[.agg R, .int .i64 (Y : Int), .int .i64 (X : Int)] W fun e w' => e = .returned (.bool true) ∧ Below W.heap.size W w' := fun W =>
                        (beats_any R _ hM Y X W).mono (by rintro e w' ⟨rfl, h⟩; exact ⟨by rw [hmg'.out, show decide (0 < v - u) = true by simp; omega], h⟩)
                      have hg1 : decide (v < u) = false := by simp; omega
                      clear ho
                      refine wp_region_more (by kernel_rfl) (by kernel_rfl) ?_
                      repeat (go_big_quiet_step ((first | (go_at_call 29; first | with_reducible exact more_of (hB1 _) | with_reducible exact more_of (hB2 _)) | (go_at_call 27; first | with_reducible exact more_of (hG1 _) | with_reducible exact more_of (hG2 _)))))
                      refine wpQuiet_nil ?_
                      rintro w8 ⟨qw8, hww8⟩
                      have hbw8 := below_of_eq hww8
                      clear hww8 qw8
                      go_wp2
                      go_roundw
                      case rel => exact ⟨Y + 1, by omega, by go_num, hS7.below hbw8, Below_trans' hb7 hb7.size hbw8⟩
                      case measure => simp [intOf] <;> omega
                    · have hB1 : ∀ W, Calls Try.prog 29 #[.agg R, .int .i64 (X : Int), .int .i64 (Y : Int)] W fun e w' => e = .returned (.bool false) ∧ Below W.heap.size W w' := fun W =>
                        (beats_any R _ hM X Y W).mono (by rintro e w' ⟨rfl, h⟩; exact ⟨by rw [hmg.out, show decide (0 < u - v) = false by simp; omega], h⟩)
                      have hB2 : ∀ W, Calls Try.prog 29 #[.agg R, .int .i64 (Y : Int), .int .i64 (X : Int)] W fun e w' => e = .returned (.bool false) ∧ Below W.heap.size W w' := fun W =>
                        (beats_any R _ hM Y X W).mono (by rintro e w' ⟨rfl, h⟩; exact ⟨by rw [hmg'.out, show decide (0 < v - u) = false by simp; omega], h⟩)
                      have hg1 : decide (v < u) = false := by simp; omega
                      clear ho
                      refine wp_region_more (by kernel_rfl) (by kernel_rfl) ?_
                      repeat (go_big_quiet_step ((first | (go_at_call 29; first | with_reducible exact more_of (hB1 _) | with_reducible exact more_of (hB2 _)) | (go_at_call 27; first | with_reducible exact more_of (hG1 _) | with_reducible exact more_of (hG2 _)))))
                      refine wpQuiet_nil ?_
                      rintro w8 ⟨qw8, hww8⟩
                      have hbw8 := below_of_eq hww8
                      clear hww8 qw8
                      go_wp2
                      go_roundw
                      case rel => exact ⟨Y + 1, by omega, by go_num, hS7.below hbw8, Below_trans' hb7 hb7.size hbw8⟩
                      case measure => simp [intOf] <;> omega
                    · have hB1 : ∀ W, Calls Try.prog 29 #[.agg R, .int .i64 (X : Int), .int .i64 (Y : Int)] W fun e w' => e = .returned (.bool true) ∧ Below W.heap.size W w' := fun W =>
                        (beats_any R _ hM X Y W).mono (by rintro e w' ⟨rfl, h⟩; exact ⟨by rw [hmg.out, show decide (0 < u - v) = true by simp; omega], h⟩)
                      have hB2 : ∀ W, Calls Try.prog 29 #[.agg R, .int .i64 (Y : Int), .int .i64 (X : Int)] W fun e w' => e = .returned (.bool false) ∧ Below W.heap.size W w' := fun W =>
                        (beats_any R _ hM Y X W).mono (by rintro e w' ⟨rfl, h⟩; exact ⟨by rw [hmg'.out, show decide (0 < v - u) = false by simp; omega], h⟩)
                      have hg1 : decide (v < u) = true := by simp; omega
                      clear ho
                      refine wp_region_more (by kernel_rfl) (by kernel_rfl) ?_
                      repeat (go_big_quiet_step ((first | (go_at_call 29; first | with_reducible exact more_of (hB1 _) | with_reducible exact more_of (hB2 _)) | (go_at_call 27; first | with_reducible exact more_of (hG1 _) | with_reducible exact more_of (hG2 _)))))
                      refine wpQuiet_nil ?_
                      rintro w8 ⟨qw8, hww8⟩
                      have hbw8 := below_of_eq hww8
                      clear hww8 qw8
                      go_wp2
                      go_roundw
                      case rel => exact ⟨Y + 1, by omega, by go_num, hS7.below hbw8, Below_trans' hb7 hb7.size hbw8⟩
                      case measure => simp [intOf] <;> omega
                  · have h1 : ((X : Int) == (Y : Int)) = false := by simp; omega
                    have h2 : ((X : Int) != (Y : Int)) = true := by simp; omega
                    have Hxy := hide hxy
                    clear hxy
                    go_wp2
                    refine wp_region_more (by kernel_rfl) (by kernel_rfl) ?_
                    repeat (go_big_quiet_step (fail))
                    refine wpQuiet_nil ?_
                    rintro w7 ⟨qw7, hww7⟩
                    have hbw7 := below_of_eq hww7
                    clear hww7 qw7
                    have hS7 := hS.below hbw7
                    have hb7 := Below_trans' hb hb.size hbw7
                    have hcu7 := keep_cell hbw7 hcu
                    have hcv7 := keep_cell hbw7 hcv
                    clear hS hb hcu hcv p0 hbw7 hFull hSelf
                    have hld := good_of hS7.1 hM.size
                    have hlc := cells_eq hS7.1
                    have hG1 : ∀ W, Calls Try.prog 27 #[.agg R, .int .i64 (X : Int), .int .i64 (Y : Int)] W fun e w' => e = .returned (.int .i64 (u - v)) ∧ Below W.heap.size W w' := fun W =>
                      (margin_any R _ hM X Y W).mono (by rintro e w' ⟨rfl, h⟩; exact ⟨by rw [hmg.out], h⟩)
                    have hG2 : ∀ W, Calls Try.prog 27 #[.agg R, .int .i64 (Y : Int), .int .i64 (X : Int)] W fun e w' => e = .returned (.int .i64 (v - u)) ∧ Below W.heap.size W w' := fun W =>
                      (margin_any R _ hM Y X W).mono (by rintro e w' ⟨rfl, h⟩; exact ⟨by rw [hmg'.out], h⟩)
                    have eneg : IntKind.i64.wrap (-(v - u)) = u - v := by rw [IntWalk.i64_in _ (by omega)]; omega
                    go_upto_region 21 with (fail)
                    rcases Int.lt_trichotomy u v with ho | ho | ho
                    · have hB1 : ∀ W, Calls Try.prog 29 #[.agg R, .int .i64 (X : Int), .int .i64 (Y : Int)] W fun e w' => e = .returned (.bool false) ∧ Below W.heap.size W w' := fun W =>
                        (beats_any R _ hM X Y W).mono (by rintro e w' ⟨rfl, h⟩; exact ⟨by rw [hmg.out, show decide (0 < u - v) = false by simp; omega], h⟩)
                      have hB2 : ∀ W, Calls Try.prog 29 #[.agg R, .int .i64 (Y : Int), .int .i64 (X : Int)] W fun e w' => e = .returned (.bool true) ∧ Below W.heap.size W w' := fun W =>
                        (beats_any R _ hM Y X W).mono (by rintro e w' ⟨rfl, h⟩; exact ⟨by rw [hmg'.out, show decide (0 < v - u) = true by simp; omega], h⟩)
                      have hg1 : decide (v < u) = false := by simp; omega
                      clear ho
                      refine wp_region_more (by kernel_rfl) (by kernel_rfl) ?_
                      repeat (go_big_quiet_step ((first | (go_at_call 29; first | with_reducible exact more_of (hB1 _) | with_reducible exact more_of (hB2 _)) | (go_at_call 27; first | with_reducible exact more_of (hG1 _) | with_reducible exact more_of (hG2 _)))))
                      refine wpQuiet_nil ?_
                      rintro w8 ⟨qw8, hww8⟩
                      have hbw8 := below_of_eq hww8
                      clear hww8 qw8
                      go_wp2
                      go_roundw
                      case rel => exact ⟨Y + 1, by omega, by go_num, hS7.below hbw8, Below_trans' hb7 hb7.size hbw8⟩
                      case measure => simp [intOf] <;> omega
                    · have hB1 : ∀ W, Calls Try.prog 29 #[.agg R, .int .i64 (X : Int), .int .i64 (Y : Int)] W fun e w' => e = .returned (.bool false) ∧ Below W.heap.size W w' := fun W =>
                        (beats_any R _ hM X Y W).mono (by rintro e w' ⟨rfl, h⟩; exact ⟨by rw [hmg.out, show decide (0 < u - v) = false by simp; omega], h⟩)
                      have hB2 : ∀ W, Calls Try.prog 29 #[.agg R, .int .i64 (Y : Int), .int .i64 (X : Int)] W fun e w' => e = .returned (.bool false) ∧ Below W.heap.size W w' := fun W =>
                        (beats_any R _ hM Y X W).mono (by rintro e w' ⟨rfl, h⟩; exact ⟨by rw [hmg'.out, show decide (0 < v - u) = false by simp; omega], h⟩)
                      have hg1 : decide (v < u) = false := by simp; omega
                      clear ho
                      refine wp_region_more (by kernel_rfl) (by kernel_rfl) ?_
                      repeat (go_big_quiet_step ((first | (go_at_call 29; first | with_reducible exact more_of (hB1 _) | with_reducible exact more_of (hB2 _)) | (go_at_call 27; first | with_reducible exact more_of (hG1 _) | with_reducible exact more_of (hG2 _)))))
                      refine wpQuiet_nil ?_
                      rintro w8 ⟨qw8, hww8⟩
                      have hbw8 := below_of_eq hww8
                      clear hww8 qw8
                      go_wp2
                      go_roundw
                      case rel => exact ⟨Y + 1, by omega, by go_num, hS7.below hbw8, Below_trans' hb7 hb7.size hbw8⟩
                      case measure => simp [intOf] <;> omega
                    · have hB1 : ∀ W, Calls Try.prog 29 #[.agg R, .int .i64 (X : Int), .int .i64 (Y : Int)] W fun e w' => e = .returned (.bool true) ∧ Below W.heap.size W w' := fun W =>
                        (beats_any R _ hM X Y W).mono (by rintro e w' ⟨rfl, h⟩; exact ⟨by rw [hmg.out, show decide (0 < u - v) = true by simp; omega], h⟩)
                      have hB2 : ∀ W, Calls Try.prog 29 #[.agg R, .int .i64 (Y : Int), .int .i64 (X : Int)] W fun e w' => e = .returned (.bool false) ∧ Below W.heap.size W w' := fun W =>
                        (beats_any R _ hM Y X W).mono (by rintro e w' ⟨rfl, h⟩; exact ⟨by rw [hmg'.out, show decide (0 < v - u) = false by simp; omega], h⟩)
                      have hg1 : decide (v < u) = true := by simp; omega
                      clear ho
                      refine wp_region_more (by kernel_rfl) (by kernel_rfl) ?_
                      repeat (go_big_quiet_step ((first | (go_at_call 29; first | with_reducible exact more_of (hB1 _) | with_reducible exact more_of (hB2 _)) | (go_at_call 27; first | with_reducible exact more_of (hG1 _) | with_reducible exact more_of (hG2 _)))))
                      refine wpQuiet_nil ?_
                      rintro w8 ⟨qw8, hww8⟩
                      have hbw8 := below_of_eq hww8
                      clear hww8 qw8
                      go_wp2
                      go_roundw
                      case rel => exact ⟨Y + 1, by omega, by go_num, hS7.below hbw8, Below_trans' hb7 hb7.size hbw8⟩
                      case measure => simp [intOf] <;> omega
              · have b2 : ¬ (Y : Int) < cn := by omega
                clear hltY hY
                go_wp2
                go_roundw
                case rel => exact ⟨X + 1, by omega, by go_num, hS, hb⟩
                case measure => simp [intOf] <;> omega
          · have b2 : ¬ (X : Int) < cn := by omega
            clear hltX hX
            go_wp2_with fail
            refine (wakes_any _).mono ?_
            rintro e w2 ⟨rfl, hbw⟩
            go_wp2
            go_ret
            exact ⟨rfl, Below_trans' hb hb.size hbw⟩
  · have hne : (checkS c k l != 0) = true := by rw [bne_iff_ne]; exact herr
    clear herr
    go_wp2_with fail
    refine (wakes_any _).mono ?_
    rintro e w2 ⟨rfl, hbw⟩
    go_wp2
    go_ret
    exact ⟨rfl, Below_trans' hb1 hb1.size hbw⟩
end Go.Proofs.Ytleniljhacnikaa
