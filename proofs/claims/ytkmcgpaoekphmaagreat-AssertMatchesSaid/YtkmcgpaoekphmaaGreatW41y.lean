/-
  Assertions: the reference's total; whether all hold.
-/
import Derived.Test.YtkmcgpaoekphmaaGreatW41v
namespace Go.Proofs.YtkmcgpaoekphmaaGreat
open Go.RowKit Go.Proofs Go.Shelf
attribute [local go_sem] cell?_more cell?_alloc_some cell?_setCell_far frozen?_alloc_some frozen?_more
set_option maxRecDepth 100000 in
set_option maxHeartbeats 4000000 in
theorem rtotal_any (k x y : Int) (A : Option Addr) (n cp : Nat) (L : List Int) (C pk : Int) (Ar : Option Addr) (nr cr : Nat) (l : List Row) (w : World) (h : RInts w A n cp L) (hr : RRows w Ar nr cr l) :
    Calls Tryz.prog 12 #[.agg #[.int .u8 k, .int .i64 x, .int .i64 y, .slice A n cp], .agg #[.int .i64 C, .int .u8 pk, .slice Ar nr cr]] w fun e w' =>
      e = .returned (.tuple #[.int .i64 (totV k x y L C pk l), .int .i64 (totN k x y L C pk l), .int .i64 (totErr k x y L C pk l)]) ∧ Below w.heap.size w w' := by
  have hle := hr.le
  have hlen := hide hr.len
  have hb0 : Below w.heap.size w (w.alloc (.cells #[.int .u8 k, .int .i64 x, .int .i64 y, .slice A n cp] 24)) := below_allocN
  have hP := Has.new w 24 #[.int .u8 k, .int .i64 x, .int .i64 y, .slice A n cp]
  have hb1 : Below (w.alloc (.cells #[.int .u8 k, .int .i64 x, .int .i64 y, .slice A n cp] 24)).heap.size (w.alloc (.cells #[.int .u8 k, .int .i64 x, .int .i64 y, .slice A n cp] 24)) ((w.alloc (.cells #[.int .u8 k, .int .i64 x, .int .i64 y, .slice A n cp] 24)).alloc (.cells #[.int .i64 C, .int .u8 pk, .slice Ar nr cr] 29)) := below_allocN
  have hQ := Has.new (w.alloc (.cells #[.int .u8 k, .int .i64 x, .int .i64 y, .slice A n cp] 24)) 29 #[.int .i64 C, .int .u8 pk, .slice Ar nr cr]
  have hP1 := hP.below hb1 hP.lt
  have hb := Below_trans' hb0 hb0.size hb1
  clear hb0 hb1 hP
  rw [World.size_alloc] at hQ
  go_enter Tryz.func12, Tryz.ntmps12
  go_upto_region 1 with fail
  generalize World.alloc (World.alloc w _) _ = W0 at hb hP1 hQ ⊢
  have p0 := hP1.cell 0
  have p1 := hP1.cell 1
  have p2 := hP1.cell 2
  have p3 := hP1.cell 3
  have q0 := hQ.cell 0
  have q1 := hQ.cell 1
  have q2 := hQ.cell 2
  have hC := rcheck_any C pk Ar nr cr l W0 (hr.below hb)
  by_cases hc0 : checkS C pk l = 0
  · have Hc := hide hc0
    rw [hc0] at hC
    clear hc0
    go_upto_region 3 with (go_at_call 32; refine hC.mono ?_; rintro e w1 ⟨rfl, hd⟩)
    clear hC
    replace hP1 := hP1.below hd hP1.lt
    replace hQ := hQ.below hd hQ.lt
    replace hb := Below_trans' hb hb.size hd
    clear p0 p1 p2 p3 q0 q1 q2 hd
    have p0 := hP1.cell 0
    have p1 := hP1.cell 1
    have p2 := hP1.cell 2
    have p3 := hP1.cell 3
    have q0 := hQ.cell 0
    have q1 := hQ.cell 1
    have q2 := hQ.cell 2
    have hA := rcheck41_any k x y A n cp L C w1 (h.below hb)
    by_cases ha : checkA k x y L C = 0
    · have Ha := hide ha
      rw [ha] at hA
      clear ha
      go_upto_region 4 with (go_at_call 16; refine hA.mono ?_; rintro e w2 ⟨rfl, hd⟩)
      clear hA
      replace hP1 := hP1.below hd hP1.lt
      replace hQ := hQ.below hd hQ.lt
      replace hb := Below_trans' hb hb.size hd
      clear p0 p1 p2 p3 q0 q1 q2 hd
      have p0 := hP1.cell 0
      have p1 := hP1.cell 1
      have p2 := hP1.cell 2
      have p3 := hP1.cell 3
      have q0 := hQ.cell 0
      have q1 := hQ.cell 1
      have q2 := hQ.cell 2
      have hKd : ∀ q, Calls Tryz.prog 29 #[.agg #[.int .u8 k, .int .i64 x, .int .i64 y, .slice A n cp]] (More w2 q) fun e w' => e = .returned (.int .u8 (kindA k)) ∧ Below (More w2 q).heap.size (More w2 q) w' := fun q => rkind41_any k x y A n cp _
      by_cases hk : pk = kindA k
      · have b2 : (pk != kindA k) = false := by simp [hk]
        have hT : Hid (TotIs k x y L C pk l 0 (totA k x y L l) (totS l)) := totIs_ok (by unfold totErr; rw [if_neg (by simp [Hc.out]), if_neg (by simp [Ha.out]), if_neg (by simp [hk])])
        have H3 : Hid (k = 3 → pk = 1) := fun e => by rw [hk, e]; rfl
        have hF := hide (fine_of (check_zero Ha.out).2)
        generalize kindA k = kk at *
        clear hk
        refine wp_region_more (by kernel_rfl) (by kernel_rfl) ?_
        repeat (go_big_quiet_step ((go_at_call 29; with_reducible exact more_of (hKd _))))
        refine wpQuiet_nil ?_
        rintro w3 ⟨qw3, hww3⟩
        have hbw3 := below_of_eq hww3
        clear hww3 qw3
        clear hKd
        replace hP1 := hP1.below hbw3 hP1.lt
        replace hQ := hQ.below hbw3 hQ.lt
        replace hb := Below_trans' hb hb.size hbw3
        clear p0 p1 p2 p3 q0 q1 q2 hbw3
        have p0 := hP1.cell 0
        have p1 := hP1.cell 1
        have p2 := hP1.cell 2
        have p3 := hP1.cell 3
        have q0 := hQ.cell 0
        have q1 := hQ.cell 1
        have q2 := hQ.cell 2
        go_wp2
        go_loopw [8, 9, 10] (fun s m i wr => ∃ t : Nat, t ≤ nr ∧ i = .int .i64 t ∧ s = .int .i64 (totA k x y L (l.take t)) ∧ m = .int .i64 (totS (l.take t)) ∧ Below w3.heap.size w3 wr) (fun _ _ i _ => nr - (intOf i).toNat)
        case atStart => exact ⟨0, Nat.zero_le _, rfl, rfl, rfl, Below.refl _ _⟩
        case round =>
          obtain ⟨t, ht, rfl, rfl, rfl, hB⟩ := hrel
          have hPr := hP1.below hB hP1.lt
          have hQr := hQ.below hB hQ.lt
          clear p0 p1 p2 p3 q0 q1 q2
          have p0 := hPr.cell 0
          have p1 := hPr.cell 1
          have p2 := hPr.cell 2
          have p3 := hPr.cell 3
          have q1 := hQr.cell 1
          have q2 := hQr.cell 2
          by_cases hlt : t < nr
          · obtain ⟨b, off, Am, nm, cm, ms, v, rfl, hc0, hRm, hc1, _, hat, hy0, hy1⟩ := (((hr.below hb).below hB).step hlt)
            have hroom := tot_room (k := k) (x := x) (y := y) (L := L) Hc.out hat.out
            have hcall : ∀ q, Calls Tryz.prog 30 #[.agg #[.int .u8 k, .int .i64 x, .int .i64 y, .slice A n cp], .agg #[.int .u8 pk, .slice Am nm cm]] (More wr q) fun e w' => e = .returned (.int .i64 (worthA k x y L ms)) ∧ Below (More wr q).heap.size (More wr q) w' :=
              fun q => rworth_any k x y A n cp L pk Am nm cm ms C _ (((h.below hb).below hB).more q) (hRm.more q) hF.out H3.out
            have hr1 := hroom.p0
            have hr2 := hroom.p1
            have hr3 := hroom.s0
            have hr4 := hroom.s1
            have hr5 := hroom.n0
            have hr6 := hroom.n1
            have hr7 := hroom.y0
            have hsA := hide hroom.sA
            have hsN := hide hroom.sN
            simp only at hr1 hr2 hr3 hr4 hr5 hr6 hr7 hsA hsN
            generalize worthA k x y L ms = W at *
            have e1 : IntKind.i64.wrap (v * W) = v * W := IntWalk.i64_in _ (by omega)
            have e2 : IntKind.i64.wrap (totA k x y L (l.take t) + v * W) = totA k x y L (l.take t) + v * W := IntWalk.i64_in _ (by omega)
            have e3 : IntKind.i64.wrap (totS (l.take t) + v) = totS (l.take t) + v := IntWalk.i64_in _ (by omega)
            clear hroom hat hr1 hr2 hr3 hr4 hr5 hr6 hr7
            go_upto_region 12 with fail
            refine wp_region_more (by kernel_rfl) (by kernel_rfl) ?_
            repeat (go_big_quiet_step ((go_at_call 30; with_reducible exact more_of (hcall _))))
            refine wpQuiet_nil ?_
            rintro w5 ⟨qw5, hww5⟩
            have hbw5 := below_of_eq hww5
            clear hww5 qw5
            have q2' := keep_cell hbw5 q2
            have hc1' := keep_cell hbw5 hc1
            have hB5 := Below_trans' hB hB.size hbw5
            clear p0 p1 p2 p3 q1 q2 hc0 hc1 hcall
            go_wp2
            go_roundw
            case rel => exact ⟨t + 1, by omega, by go_num, by rw [hsA.out], by rw [hsN.out], hB5⟩
            case measure => simp [intOf] <;> omega
          · have htn : t = nr := by omega
            have hT2 : Hid (TotIs k x y L C pk l 0 (totA k x y L (l.take t)) (totS (l.take t))) := by
              unfold Hid
              rw [List.take_of_length_le (by rw [hlen.out]; omega)]
              exact hT.out
            have hbe := Below_trans' hb hb.size hB
            clear htn
            go_wp2
            go_ret3
            exact ⟨ret_iii hT2.out.v.symm hT2.out.n.symm hT2.out.e.symm, hbe⟩
      · have b2 : (pk != kindA k) = true := by simp [hk]
        have hT : Hid (TotIs k x y L C pk l 8 0 0) := totIs_bad (by unfold totErr; rw [if_neg (by simp [Hc.out]), if_neg (by simp [Ha.out]), if_pos hk]) (by decide)
        generalize kindA k = kk at *
        clear hk
        refine wp_region_more (by kernel_rfl) (by kernel_rfl) ?_
        repeat (go_big_quiet_step ((go_at_call 29; with_reducible exact more_of (hKd _))))
        refine wpQuiet_nil ?_
        rintro w3 ⟨qw3, hww3⟩
        have hbw3 := below_of_eq hww3
        clear hww3 qw3
        clear hKd
        replace hP1 := hP1.below hbw3 hP1.lt
        replace hQ := hQ.below hbw3 hQ.lt
        replace hb := Below_trans' hb hb.size hbw3
        clear p0 p1 p2 p3 q0 q1 q2 hbw3
        have p0 := hP1.cell 0
        have p1 := hP1.cell 1
        have p2 := hP1.cell 2
        have p3 := hP1.cell 3
        have q0 := hQ.cell 0
        have q1 := hQ.cell 1
        have q2 := hQ.cell 2
        go_wp2
        go_ret3
        exact ⟨ret_iii hT.out.v.symm hT.out.n.symm hT.out.e.symm, hb⟩
    · have hT : Hid (TotIs k x y L C pk l (checkA k x y L C) 0 0) := totIs_bad (by unfold totErr; rw [if_neg (by simp [Hc.out]), if_pos ha]) ha
      have b1 : (checkA k x y L C != 0) = true := by simp [ha]
      have b0 : (checkA k x y L C == 0) = false := by simp [ha]
      generalize checkA k x y L C = ce at *
      clear ha
      go_upto_region 4 with (go_at_call 16; refine hA.mono ?_; rintro e w2 ⟨rfl, hd⟩)
      clear hA
      replace hP1 := hP1.below hd hP1.lt
      replace hQ := hQ.below hd hQ.lt
      replace hb := Below_trans' hb hb.size hd
      clear p0 p1 p2 p3 q0 q1 q2 hd
      have p0 := hP1.cell 0
      have p1 := hP1.cell 1
      have p2 := hP1.cell 2
      have p3 := hP1.cell 3
      have q0 := hQ.cell 0
      have q1 := hQ.cell 1
      have q2 := hQ.cell 2
      refine wp_region_more (by kernel_rfl) (by kernel_rfl) ?_
      repeat (go_big_quiet_step (fail))
      refine wpQuiet_nil ?_
      rintro w3 ⟨qw3, hww3⟩
      have hbw3 := below_of_eq hww3
      clear hww3 qw3
      replace hb := Below_trans' hb hb.size hbw3
      go_wp2
      go_ret3
      exact ⟨ret_iii hT.out.v.symm hT.out.n.symm hT.out.e.symm, hb⟩
  · have hT : Hid (TotIs k x y L C pk l (checkS C pk l) 0 0) := totIs_bad (by unfold totErr; rw [if_pos hc0]) hc0
    have b1 : (checkS C pk l != 0) = true := by simp [hc0]
    have b0 : (checkS C pk l == 0) = false := by simp [hc0]
    generalize checkS C pk l = ce at *
    clear hc0
    go_upto_region 4 with (go_at_call 32; refine hC.mono ?_; rintro e w2 ⟨rfl, hd⟩)
    clear hC
    replace hP1 := hP1.below hd hP1.lt
    replace hQ := hQ.below hd hQ.lt
    replace hb := Below_trans' hb hb.size hd
    clear p0 p1 p2 p3 q0 q1 q2 hd
    have p0 := hP1.cell 0
    have p1 := hP1.cell 1
    have p2 := hP1.cell 2
    have p3 := hP1.cell 3
    have q0 := hQ.cell 0
    have q1 := hQ.cell 1
    have q2 := hQ.cell 2
    refine wp_region_more (by kernel_rfl) (by kernel_rfl) ?_
    repeat (go_big_quiet_step (fail))
    refine wpQuiet_nil ?_
    rintro w3 ⟨qw3, hww3⟩
    have hbw3 := below_of_eq hww3
    clear hww3 qw3
    replace hb := Below_trans' hb hb.size hbw3
    go_wp2
    go_ret3
    exact ⟨ret_iii hT.out.v.symm hT.out.n.symm hT.out.e.symm, hb⟩
end Go.Proofs.YtkmcgpaoekphmaaGreat
