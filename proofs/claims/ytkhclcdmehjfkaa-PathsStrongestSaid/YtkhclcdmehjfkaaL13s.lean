/-
  The law PathsStrongest.
-/
import Derived.Test.YtkhclcdmehjfkaaW13g
import Derived.Test.YtkhclcdmehjfkaaW13x
namespace Go.Proofs.Ytkhclcdmehjfkaa
open Go.RowKit Go.Proofs Go.Shelf
attribute [local go_sem] cell?_more cell?_alloc_some cell?_setCell_far frozen?_alloc_some frozen?_more
attribute [local go_sem ↓] ldm_fold
attribute [local go_sem] run_LDM run_LDM_more run_LDM_drew
theorem walk_all (D S : Array Value) (m sm : M) (hD : Mat D m) (hS : Mat S sm) (C x0 bb : Nat) (hr : rightS m C = true) (hst : Str m sm) (k : Nat) : WalkP D S m sm C x0 bb k :=
  Nat.strongRecOn k fun k ih => walk_step D S m sm hD hS C x0 bb hr hst k ih

set_option maxRecDepth 100000 in
set_option maxHeartbeats 4000000 in
theorem pathsStrongest_any (D : Array Value) (m : M) (hD : Mat D m) (c : Int) (w : World) :
    Calls Try.prog 3 #[.agg D, .int .i64 c] w fun e w' => e = .returned (.bool true) ∧ Below w.heap.size w w' := by
  have hDs := hD.size
  have hb : Below w.heap.size w (w.alloc (.cells D 24)) := below_allocN
  have hM := Has.new w 24 D
  go_enter Try.func3, Try.ntmps3
  go_upto_region 1 with fail
  generalize World.alloc w _ = W0 at hb hM ⊢
  by_cases h5 : 5 < c
  · go_wp2_with fail
    refine (wakes13_any _).mono ?_
    rintro e w9 ⟨rfl, hb9⟩
    go_wp2
    go_ret
    exact ⟨rfl, Below_trans' hb (hb).size hb9⟩
  · have gd := good_of hM hDs
    have gc := cells_eq hM
    go_wp2_with fail
    refine (rright_any D m hD c W0).mono ?_
    rintro e w1 ⟨rfl, hb1⟩
    clear gd gc
    have hbw1 := Below_trans' hb hb.size hb1
    replace hM := hM.below hb1 hM.lt
    clear hb hb1
    cases hr : rightS m c with
    | false =>
      clear hr
      go_wp2_with fail
      refine (wakes13_any _).mono ?_
      rintro e w9 ⟨rfl, hb9⟩
      go_wp2
      go_ret
      exact ⟨rfl, Below_trans' hbw1 (hbw1).size hb9⟩
    | true =>
      obtain ⟨hc1, hc10, -⟩ := rightS_iff.1 hr
      obtain ⟨C, rfl⟩ : ∃ C : Nat, c = (C : Int) := ⟨c.toNat, by omega⟩
      have hC5 : C ≤ 5 := by omega
      have Hr := hide hr
      have Hse := hide (strErr_ok hr)
      have Hst := hide (strV_ok hr)
      clear hr
      have gd := good_of hM hDs
      have gc := cells_eq hM
      go_wp2_with fail
      refine (strengths_any D m hD C w1).mono ?_
      rintro e w2 ⟨S, rfl, hS, hb2⟩
      clear gd gc
      rw [Hse.out]
      have hSs := hS.size
      have hSb : Has ((w2.alloc (.cells Try.zeroCells24 24)).setRow w2.heap.size S) w2.heap.size 24 S := (Has.new _ _ _).setRow _
      have hb23 : Below w2.heap.size w2 ((w2.alloc (.cells Try.zeroCells24 24)).setRow w2.heap.size S) := below_setRow ((Below.refl _ _).alloc (Nat.le_refl _) _) (Nat.le_refl _) _
      go_upto_region 4 with (refine stMat rfl rfl rfl rfl (Has.new _ _ _) zeroMat.size hSs hS.one ?_)
      generalize World.setRow (World.alloc w2 _) _ _ = wk at hSb hb23 ⊢
      have hb1k := Below_trans' hb2 hb2.size hb23
      have hbwk := Below_trans' hbw1 hbw1.size hb1k
      have hMk := hM.below hb1k hM.lt
      have hSk := hSb
      clear hb2 hb23 hb1k hM hSb hbw1
      go_upto_region 7 with fail
      go_loopw [7] (fun i wr => ∃ X : Nat, X ≤ 10 ∧ i = .int .i64 X ∧ Below wk.heap.size wk wr) (fun i _ => 10 - (intOf i).toNat)
      case atStart => exact ⟨0, Nat.zero_le _, rfl, Below.refl _ _⟩
      case round =>
        obtain ⟨X, hX, rfl, hb⟩ := hrel
        obtain ⟨wo, rfl⟩ : ∃ wo : World, wo = wr := ⟨_, rfl⟩
        by_cases hX10 : X < 10
        · have hmk := run_make_row' (P := Try.prog) 30 3 (.int .i64 0) 8 Try.underlying30 info3 rfl .i64 .i64 10 (by omega) (by omega)
          rw [show ((10 : Nat) : Int) = 10 from rfl] at hmk
          have hMd := Own.made wo wo.heap.size 10 (Nat.le_refl _) (by omega)
          have hbM : Below wo.heap.size wo (wo.alloc (.cells (madeCells #[.int .i64 0] 10) 3)) := below_allocN
          by_cases hXC : X < C
          · go_upto_region 10 with fail
            generalize World.alloc wo _ = wa at hMd hbM ⊢
            clear hmk
            have hka := Below_trans' hb hb.size hbM
            have hMa := hMk.below hka hMk.lt
            have hSa := hSk.below hka hSk.lt
            have gd1 := good_of hMa hDs
            have gc1 := cells_eq hMa
            have gd2 := good_of hSa hSs
            have gc2 := cells_eq hSa
            have hza := hbM.size
            have hbl : Below wa.heap.size wa (wa.alloc (.cells #[.int .i64 X] 3)) := below_allocN
            have hli : RInts (wa.alloc (.cells #[.int .i64 X] 3)) (some ⟨wa.heap.size, 0, none⟩) 1 1 (pathL X []) := ints_lit [(X : Int)] (Has.new _ _ _) (by simp) (fun z hz => by rw [List.mem_singleton.1 hz]; unfold I64; omega)
            have hoL := hMd.below hbl
            have hlt : wo.heap.size < wa.heap.size := (hMd.own_lt rfl).2
            have hu0 : UpT (strV m C) X (List.replicate 10 0) := fun y hy => by
              have := Hst.out.bd X y (by omega) hy
              simp only [List.getD, List.getElem?_replicate, hy, if_true, Option.getD_some]
              omega
            have hwk := walk_all D S m (strV m C) hD hS C X wo.heap.size Hr.out Hst.out C [] X 1000001 (some ⟨wa.heap.size, 0, none⟩) 1 1 (List.replicate 10 0) wo.heap.size _ (Way.start m hXC) (by simp) hli (fun c hc e => by obtain ⟨_, off, e2⟩ := hc; cases e2; omega) hoL (by simp) hu0
            have Hwk := hide hwk
            clear hwk hu0 hli hoL
            go_wp2_with fail
            refine Hwk.out.mono ?_
            rintro e w3 ⟨rfl, bs, hO3, hl3', hU3, -, hG3, hF3⟩
            clear gd1 gc1 gd2 gc2 Hwk
            have hl3 := hide hl3'
            have hv3 := hide (fun (y : Nat) (hy : y < 10) => good_all Hst.out Hr.out hXC hG3 hU3 hy)
            have hba3 := Below_trans' hbM hza hbl
            have hb3 : Below wk.heap.size wk w3 := Frame'.below (Below_trans' hka hka.size hbl) hF3 (fun c e => by have := hb.size; omega) (by have := hka.size; have := hbl.size; omega)
            clear hl3' hU3 hG3 hF3 hba3 hbl
            go_upto_region 13 with fail
            -- world w3, Below wk .. w3 : hb3; hO3 : Own w3 .. best bs; hl3 : Hid length; hv3 : Hid values
            have hK3 := hb3
            go_loopw [9] (fun i wr => ∃ Y : Nat, Y ≤ 10 ∧ i = .int .i64 Y ∧ Below w3.heap.size w3 wr) (fun i _ => 10 - (intOf i).toNat)
            case atStart => exact ⟨0, Nat.zero_le _, rfl, Below.refl _ _⟩
            case round =>
              obtain ⟨Y, hY, rfl, hb4⟩ := hrel
              have hK4 := Below_trans' hK3 hK3.size hb4
              by_cases hlt : Y < 10
              · have by_ : (Y : Int) < 10 := by omega
                have bx : (X : Int) < 10 := by omega
                have hSr := hSk.below hK4 hSk.lt
                have hcs := (hSr.cell (X * 10 + Y)).trans (hS.at_ X Y (by omega) hlt)
                obtain ⟨v, hv, hcv, hfv⟩ := (hO3.below hb4).at hl3.out hlt
                have hvv := hv3.out Y hlt
                have hvd : v = strV m C X Y := by
                  rw [← hvv]; simp [List.getD, hv.out]
                subst hvd
                clear hv hvv hfv
                generalize strV m C X Y = v at hcs hcv
                have f1 : (v != v) = false := by simp
                go_upto_region 15 with fail
                refine wp_region_more (by kernel_rfl) (by kernel_rfl) ?_
                repeat (go_big_quiet_step (fail))
                refine wpQuiet_nil ?_
                rintro w6 ⟨qw6, hww6⟩
                have hbw6 := below_of_eq hww6
                clear hww6 qw6
                clear hcs hcv
                go_wp2
                go_roundw
                case rel => exact ⟨Y + 1, by omega, by go_num, Below_trans' hb4 hb4.size hbw6⟩
                case measure => simp [intOf] <;> omega
              · go_wp2
                go_roundw
                case rel => exact ⟨X + 1, by omega, by go_num, hK4⟩
                case measure => simp [intOf] <;> omega
          · go_upto_region 12 with fail
            generalize World.alloc wo _ = w3 at hMd hbM ⊢
            clear hmk
            have hO3 := hMd
            have hb3 := Below_trans' hb hb.size hbM
            have hl3 := hide (show (List.replicate 10 (0 : Int)).length = 10 from by simp)
            have hv3 : Hid (∀ y : Nat, y < 10 → (List.replicate 10 (0 : Int)).getD y 0 = strV m C X y) := fun y hy => by
              rw [str_off Hst.out Hr.out hX10 hy (by omega)]
              simp only [List.getD, List.getElem?_replicate, hy, if_true, Option.getD_some]
            generalize List.replicate 10 (0 : Int) = bs at hO3 hMd hl3 hv3
            go_upto_region 13 with fail
            -- world w3, Below wk .. w3 : hb3; hO3 : Own w3 .. best bs; hl3 : Hid length; hv3 : Hid values
            have hK3 := hb3
            go_loopw [9] (fun i wr => ∃ Y : Nat, Y ≤ 10 ∧ i = .int .i64 Y ∧ Below w3.heap.size w3 wr) (fun i _ => 10 - (intOf i).toNat)
            case atStart => exact ⟨0, Nat.zero_le _, rfl, Below.refl _ _⟩
            case round =>
              obtain ⟨Y, hY, rfl, hb4⟩ := hrel
              have hK4 := Below_trans' hK3 hK3.size hb4
              by_cases hlt : Y < 10
              · have by_ : (Y : Int) < 10 := by omega
                have bx : (X : Int) < 10 := by omega
                have hSr := hSk.below hK4 hSk.lt
                have hcs := (hSr.cell (X * 10 + Y)).trans (hS.at_ X Y (by omega) hlt)
                obtain ⟨v, hv, hcv, hfv⟩ := (hO3.below hb4).at hl3.out hlt
                have hvv := hv3.out Y hlt
                have hvd : v = strV m C X Y := by
                  rw [← hvv]; simp [List.getD, hv.out]
                subst hvd
                clear hv hvv hfv
                generalize strV m C X Y = v at hcs hcv
                have f1 : (v != v) = false := by simp
                go_upto_region 15 with fail
                refine wp_region_more (by kernel_rfl) (by kernel_rfl) ?_
                repeat (go_big_quiet_step (fail))
                refine wpQuiet_nil ?_
                rintro w6 ⟨qw6, hww6⟩
                have hbw6 := below_of_eq hww6
                clear hww6 qw6
                clear hcs hcv
                go_wp2
                go_roundw
                case rel => exact ⟨Y + 1, by omega, by go_num, Below_trans' hb4 hb4.size hbw6⟩
                case measure => simp [intOf] <;> omega
              · go_wp2
                go_roundw
                case rel => exact ⟨X + 1, by omega, by go_num, hK4⟩
                case measure => simp [intOf] <;> omega
        · have hbe := Below_trans' hbwk hbwk.size hb
          go_wp2_with fail
          refine (wakes13_any _).mono ?_
          rintro e w9 ⟨rfl, hb9⟩
          go_wp2
          go_ret
          exact ⟨rfl, Below_trans' hbe (hbe).size hb9⟩
end Go.Proofs.Ytkhclcdmehjfkaa
