/-
  The law PairsKept.
-/
import Derived.Test.YtleniljhacnikaaW10o
import Derived.Test.YtleniljhacnikaaSpecK
import Derived.Test.YtleniljhacnikaaMem2
namespace Go.Proofs.Ytleniljhacnikaa
open Go.RowKit Go.Proofs
attribute [local go_sem] cell?_more cell?_alloc_some cell?_setCell_far frozen?_alloc_some frozen?_more
attribute [local go_sem ↓] ldm_fold
attribute [local go_sem] run_LDM run_LDM_more run_LDM_drew

/-- A number taken round. -/
theorem round_in {x c : Int} (hc : 1 ≤ c ∧ c ≤ 10) : ∃ X : Nat, (wrap64 (x.tmod c + c)).tmod c = X ∧ (X : Int) < c := by
  have h1 := Int.tmod_lt_of_pos x (show 0 < c by omega)
  have h2 := Int.lt_tmod_of_pos x (show 0 < c by omega)
  have hw : wrap64 (x.tmod c + c) = x.tmod c + c := IntWalk.wrap64_in _ (by omega)
  rw [hw]
  have h3 := Int.tmod_lt_of_pos (x.tmod c + c) (show 0 < c by omega)
  have h4 := Int.tmod_nonneg c (show 0 ≤ x.tmod c + c by omega)
  exact ⟨((x.tmod c + c).tmod c).toNat, by omega, by omega⟩
/-- Whether a candidate is left: what the cell says. -/
theorem left_cell {w : World} {A : Option Addr} {n c : Nat} {bs : List Bool} (h : RBools w A n c bs) {X : Nat} {o : Bool} (ho : isS bs (X : Int) = o) :
    ((¬ (X : Int) < n) ∧ o = false) ∨ ((X : Int) < n ∧ ∃ b off, A = some ⟨b, off, none⟩ ∧ w.cell? ⟨b, off + X, none⟩ = some (.bool o)) := by
  have hl := h.1
  by_cases e : X < n
  · right
    obtain ⟨b, off, e1, hc⟩ := h.2.2.2 (by omega)
    refine ⟨by omega, b, off, e1, ?_⟩
    rw [hc X e, ← ho]
    unfold isS
    rw [inR_iff.2 (by omega)]
    simp
  · left
    refine ⟨by omega, ?_⟩
    rw [← ho]
    unfold isS
    rw [show inR 0 bs.length (X : Int) = false from Bool.eq_false_iff.2 fun h => e (by have := inR_iff.1 h; omega)]
    rfl

set_option maxRecDepth 100000 in
set_option maxHeartbeats 8000000 in
theorem pairsKept_any (c k : Int) (A : Option Addr) (n cp : Nat) (l : List Row) (A' : Option Addr) (n' c' : Nat) (bs : List Bool) (x y : Int) (w : World) (h : RRows w A n cp l) (h' : RBools w A' n' c' bs) (hx : I64 x) (hy : I64 y) :
    Calls Try.prog 8 #[.agg #[.int .i64 c, .int .u8 k, .slice A n cp], .slice A' n' c', .int .i64 x, .int .i64 y] w fun e w' => e = .returned (.bool true) ∧ Below w.heap.size w w' := by
  have hS0 := (Hs.nil w).alloc 24 #[.int .i64 c, .int .u8 k, .slice A n cp]
  have hb0 : Below w.heap.size w (w.alloc (.cells #[.int .i64 c, .int .u8 k, .slice A n cp] 24)) := (Below.refl _ _).alloc (Nat.le_refl _) _
  go_enter Try.func8, Try.ntmps8
  go_wp2_with fail
  refine (rcheck_any _ _ A n cp l _ (h.below hb0)).mono ?_
  rintro e w1 ⟨rfl, hbw⟩
  have hS1 := hS0.below hbw
  have hb1 := Below_trans' hb0 hb0.size hbw
  clear hS0 hb0 hbw
  by_cases herr : checkS c k l = 0
  · rw [herr]
    have H1 := hide herr
    obtain ⟨-, c1, c2, k1, k2, -⟩ := check_iff.1 herr
    clear herr
    have p0 : w1.cell? ⟨w.heap.size, 0, none⟩ = some (.int .i64 c) := (hS1.1).cell 0
    have p1 : w1.cell? ⟨w.heap.size, 1, none⟩ = some (.int .u8 k) := (hS1.1).cell 1
    have p2 : w1.cell? ⟨w.heap.size, 2, none⟩ = some (.slice A n cp) := (hS1.1).cell 2
    by_cases hk3 : k = 3
    · subst hk3
      go_wp2_with fail
      refine (wakes_any _).mono ?_
      rintro e w9 ⟨rfl, hbw⟩
      go_wp2
      go_ret
      exact ⟨rfl, Below_trans' hb1 hb1.size hbw⟩
    · have hkk := hide (show k = 1 ∨ k = 2 by omega)
      have hk3' : (k == 3) = false := by rw [beq_eq_false_iff_ne]; exact hk3
      clear hk3 k1 k2
      by_cases h60 : 60 < n'
      · go_wp2_with fail
        refine (wakes_any _).mono ?_
        rintro e w9 ⟨rfl, hbw⟩
        go_wp2
        go_ret
        exact ⟨rfl, Below_trans' hb1 hb1.size hbw⟩
      · go_wp2_with fail
        refine (pkeep_any c k A n cp l A' n' c' bs w1 (h.below hb1) (h'.below hb1)).mono ?_
        rintro e w2 ⟨A1, n1, cp1, rfl, hO, hbw⟩
        have ht : turnP (fun ms => keptS k ms bs) c k l = ⟨0, c, k, eachS (fun ms => keptS k ms bs) l⟩ := by unfold turnP; rw [if_pos H1.out]
        rw [ht] at hO ⊢
        have hr2 := hO.rows
        simp only at hr2 ⊢
        have H2 := hide (kept_check bs hkk.out H1.out)
        have HK := hide (fun (X Y : Nat) (hX : (X : Int) < c) (hY : (Y : Int) < c) => kept_ofR (x := X) (y := Y) bs hkk.out H1.out hX hY)
        generalize eachS (fun ms => keptS k ms bs) l = l' at hr2 H2 HK
        clear ht hO p0 p1 p2
        have hS2 := hS1.below hbw
        have hb2 := Below_trans' hb1 hb1.size hbw
        clear hS1 hb1 hbw
        go_upto_region 4 with (fail)
        have hS3 := hS2.alloc 24 #[.int .i64 c, .int .u8 k, .slice A1 n1 cp1]
        have hb3 := hb2.alloc hb2.size (.cells #[.int .i64 c, .int .u8 k, .slice A1 n1 cp1] 24)
        have hr3 := hr2.below ((Below.refl _ _).alloc (Nat.le_refl _) (.cells #[.int .i64 c, .int .u8 k, .slice A1 n1 cp1] 24))
        clear hS2 hb2 hr2
        generalize hW : World.alloc _ _ = W3 at hS3 hb3 hr3
        try rw [hW]
        clear hW
        generalize w2.heap.size = gk at hS3
        have p0 : W3.cell? ⟨w.heap.size, 0, none⟩ = some (.int .i64 c) := (hS3.2.1).cell 0
        have p1 : W3.cell? ⟨w.heap.size, 1, none⟩ = some (.int .u8 k) := (hS3.2.1).cell 1
        have p2 : W3.cell? ⟨w.heap.size, 2, none⟩ = some (.slice A n cp) := (hS3.2.1).cell 2
        go_wp2_with fail
        refine (pof_any _ _ A n cp l _ (h.below hb3)).mono ?_
        rintro e w4 ⟨R1, rfl, hM1, hbw⟩
        rw [H1.out]
        have hr4 := hr3.below hbw
        clear p0 p1 p2 hr3
        have hS4 := hS3.below hbw
        have hb4 := Below_trans' hb3 hb3.size hbw
        clear hS3 hb3 hbw
        go_upto_region 5 with (refine stMat rfl rfl rfl rfl (Has.new _ _ _) zeroMat.size hM1.size hM1.one ?_)
        have hS5 := hS4.newRow 27 Try.zeroCells27 R1
        have hb5 := below_newRow hb4 hb4.size (.cells Try.zeroCells27 27) R1
        have hr5 := hr4.below (below_setRow ((Below.refl _ _).alloc (Nat.le_refl _) (.cells Try.zeroCells27 27)) (Nat.le_refl _) R1)
        clear hS4 hb4 hr4
        generalize hW : World.setRow _ _ _ = W5 at hS5 hb5 hr5
        try rw [hW]
        clear hW
        have p0 : W5.cell? ⟨gk, 0, none⟩ = some (.int .i64 c) := (hS5.2.1).cell 0
        have p1 : W5.cell? ⟨gk, 1, none⟩ = some (.int .u8 k) := (hS5.2.1).cell 1
        have p2 : W5.cell? ⟨gk, 2, none⟩ = some (.slice A1 n1 cp1) := (hS5.2.1).cell 2
        go_wp2_with fail
        refine (pof_any _ _ A1 n1 cp1 l' _ hr5).mono ?_
        rintro e w6 ⟨R2, rfl, hM2, hbw⟩
        rw [H2.out]
        clear p0 p1 p2 hr5
        have hS6 := hS5.below hbw
        have hb6 := Below_trans' hb5 hb5.size hbw
        clear hS5 hb5 hbw
        go_upto_region 6 with (refine stMat rfl rfl rfl rfl (Has.new _ _ _) zeroMat.size hM2.size hM2.one ?_)
        have hS7 := hS6.newRow 27 Try.zeroCells27 R2
        have hb7 := below_newRow hb6 hb6.size (.cells Try.zeroCells27 27) R2
        clear hS6 hb6
        generalize hW : World.setRow _ _ _ = W7 at hS7 hb7
        try rw [hW]
        clear hW
        generalize w4.heap.size = g1 at hS7
        generalize w6.heap.size = g2 at hS7
        have p0 : W7.cell? ⟨w.heap.size, 0, none⟩ = some (.int .i64 c) := hS7.2.2.2.1.cell 0
        go_upto_region 9 with (fail)
        clear p0
        have hcz : (c == 0) = false := by rw [beq_eq_false_iff_ne]; omega
        refine wp_region_more (by kernel_rfl) (by kernel_rfl) ?_
        repeat (go_big_quiet_step (fail))
        refine wpQuiet_nil ?_
        rintro w8 ⟨qw8, hww8⟩
        have hbw8 := below_of_eq hww8
        clear hww8 qw8
        obtain ⟨X, hX, hXc⟩ := round_in (x := x) ⟨c1, c2⟩
        obtain ⟨Y, hY, hYc⟩ := round_in (x := y) ⟨c1, c2⟩
        rw [hX, hY]
        obtain ⟨kz, ks, kg⟩ := HK.out X Y hXc hYc
        have hS8 := hS7.below hbw8
        have hb8 := Below_trans' hb7 hb7.size hbw8
        have m1 : w8.cell? ⟨g1, X * 10 + Y, none⟩ = some (.int .i64 (ofR c k l X Y)) := (hS8.2.1.cell (X * 10 + Y)).trans (hM1.at_ X Y (by omega) (by omega))
        have m2 : w8.cell? ⟨g2, X * 10 + Y, none⟩ = some (.int .i64 (ofR c k l' X Y)) := (hS8.1.cell (X * 10 + Y)).trans (hM2.at_ X Y (by omega) (by omega))
        generalize ofR c k l X Y = u at kz ks kg m1
        generalize ofR c k l' X Y = v at kz ks kg m2
        have b1 : (X : Int) < 10 := by omega
        have b2 : (Y : Int) < 10 := by omega
        have b3 : (0 : Int) ≤ (X : Int) := by omega
        have b4 : (0 : Int) ≤ (Y : Int) := by omega
        have hl8 := h'.below hb8
        have hz := hb8.size
        clear hS7 hb7 hbw8 hX hY hXc hYc HK H2 H1 hM1 hM2 hS8 hcz hk3' hkk h60
        obtain ⟨o1, ho1⟩ : ∃ o, isS bs X = o := ⟨_, rfl⟩
        obtain ⟨o2, ho2⟩ : ∃ o, isS bs Y = o := ⟨_, rfl⟩
        rw [ho1] at kz ks kg
        rw [ho2] at ks kg
        have hx1 := left_cell hl8 ho1
        have hx2 := left_cell hl8 ho2
        have Kz := hide kz
        have Ks := hide ks
        have Kg := hide kg
        clear kz ks kg ho1 ho2 hl8
        rcases hx1 with ⟨q1, rfl⟩ | ⟨q1, b, off, rfl, q2⟩
        · rcases hx2 with ⟨r1, rfl⟩ | ⟨r1, b, off, rfl, r2⟩
          · clear hz
            go_upto_region 10 with (fail)
            refine wp_region_more (by kernel_rfl) (by kernel_rfl) ?_
            repeat (go_big_quiet_step (fail))
            refine wpQuiet_nil ?_
            rintro w10 ⟨qw10, hww10⟩
            have hbw10 := below_of_eq hww10
            clear hww10 qw10
            have hb10 := Below_trans' hb8 hb8.size hbw10
            have m1' := keep_cell hbw10 m1
            have m2' := keep_cell hbw10 m2
            clear m1 m2 hb8 hbw10
            rw [Kz.out rfl] at m2'
            go_wp2_with fail
            refine (wakes_any _).mono ?_
            rintro e w9 ⟨rfl, hbw⟩
            go_wp2
            go_ret
            exact ⟨rfl, Below_trans' hb10 hb10.size hbw⟩
          · clear hz
            go_upto_region 10 with (fail)
            refine wp_region_more (by kernel_rfl) (by kernel_rfl) ?_
            repeat (go_big_quiet_step (fail))
            refine wpQuiet_nil ?_
            rintro w10 ⟨qw10, hww10⟩
            have hbw10 := below_of_eq hww10
            clear hww10 qw10
            have hb10 := Below_trans' hb8 hb8.size hbw10
            have m1' := keep_cell hbw10 m1
            have m2' := keep_cell hbw10 m2
            clear m1 m2 hb8 hbw10
            rw [Kz.out rfl] at m2'
            go_wp2_with fail
            refine (wakes_any _).mono ?_
            rintro e w9 ⟨rfl, hbw⟩
            go_wp2
            go_ret
            exact ⟨rfl, Below_trans' hb10 hb10.size hbw⟩
        · rcases hx2 with ⟨r1, rfl⟩ | ⟨r1, b', off', e, r2⟩
          · clear hz
            go_upto_region 10 with (fail)
            refine wp_region_more (by kernel_rfl) (by kernel_rfl) ?_
            repeat (go_big_quiet_step (fail))
            refine wpQuiet_nil ?_
            rintro w10 ⟨qw10, hww10⟩
            have hbw10 := below_of_eq hww10
            clear hww10 qw10
            have hb10 := Below_trans' hb8 hb8.size hbw10
            have m1' := keep_cell hbw10 m1
            have m2' := keep_cell hbw10 m2
            clear m1 m2 hb8 hbw10
            cases o1 with
            | false =>
              rw [Kz.out rfl] at m2'
              go_wp2_with fail
              refine (wakes_any _).mono ?_
              rintro e w9 ⟨rfl, hbw⟩
              go_wp2
              go_ret
              exact ⟨rfl, Below_trans' hb10 hb10.size hbw⟩
            | true =>
              have kge : u ≤ v := Kg.out rfl rfl
              go_upto_region 15 with (fail)
              refine wp_region_more (by kernel_rfl) (by kernel_rfl) ?_
              repeat (go_big_quiet_step ((go_at_call 15; with_reducible exact more_of (wakes_any _))))
              refine wpQuiet_nil ?_
              rintro w11 ⟨qw11, hww11⟩
              have hbw11 := below_of_eq hww11
              clear hww11 qw11
              go_wp2
              go_ret
              exact ⟨rfl, Below_trans' hb10 hb10.size hbw11⟩
          · cases e
            clear hz
            go_upto_region 10 with (fail)
            refine wp_region_more (by kernel_rfl) (by kernel_rfl) ?_
            repeat (go_big_quiet_step (fail))
            refine wpQuiet_nil ?_
            rintro w10 ⟨qw10, hww10⟩
            have hbw10 := below_of_eq hww10
            clear hww10 qw10
            have hb10 := Below_trans' hb8 hb8.size hbw10
            have m1' := keep_cell hbw10 m1
            have m2' := keep_cell hbw10 m2
            clear m1 m2 hb8 hbw10
            cases o1 with
            | false =>
              rw [Kz.out rfl] at m2'
              go_wp2_with fail
              refine (wakes_any _).mono ?_
              rintro e w9 ⟨rfl, hbw⟩
              go_wp2
              go_ret
              exact ⟨rfl, Below_trans' hb10 hb10.size hbw⟩
            | true =>
              cases o2 with
              | false =>
                have kge : u ≤ v := Kg.out rfl rfl
                go_upto_region 15 with (fail)
                refine wp_region_more (by kernel_rfl) (by kernel_rfl) ?_
                repeat (go_big_quiet_step ((go_at_call 15; with_reducible exact more_of (wakes_any _))))
                refine wpQuiet_nil ?_
                rintro w11 ⟨qw11, hww11⟩
                have hbw11 := below_of_eq hww11
                clear hww11 qw11
                go_wp2
                go_ret
                exact ⟨rfl, Below_trans' hb10 hb10.size hbw11⟩
              | true =>
                rw [Ks.out rfl rfl] at m2'
                go_upto_region 14 with (fail)
                refine wp_region_more (by kernel_rfl) (by kernel_rfl) ?_
                repeat (go_big_quiet_step ((go_at_call 15; with_reducible exact more_of (wakes_any _))))
                refine wpQuiet_nil ?_
                rintro w11 ⟨qw11, hww11⟩
                have hbw11 := below_of_eq hww11
                clear hww11 qw11
                go_wp2
                go_ret
                exact ⟨rfl, Below_trans' hb10 hb10.size hbw11⟩
  · have hne : (checkS c k l != 0) = true := by rw [bne_iff_ne]; exact herr
    clear herr
    go_wp2_with fail
    refine (wakes_any _).mono ?_
    rintro e w9 ⟨rfl, hbw⟩
    go_wp2
    go_ret
    exact ⟨rfl, Below_trans' hb1 hb1.size hbw⟩
end Go.Proofs.Ytleniljhacnikaa
