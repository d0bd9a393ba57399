/-
  The layer ranked: Contains of links; Count.
  The reference's Count of chapter 14.
  The numbers of chapter 14's examples.
  The examples of chapter 14.
  The laws of chapter 14: may, one.
-/
import Derived.Test.YtolbceckbnifmaaGreatW14k
import Derived.Test.YtolbceckbnifmaaGreatW13e
import Derived.Test.YtolbceckbnifmaaGreatW16a
import Derived.Test.YtolbceckbnifmaaGreatW13f
import Derived.Test.YtolbceckbnifmaaGreatMem
namespace Go.Proofs.YtolbceckbnifmaaGreat
open Go.RowKit Go.Proofs Go.Shelf
attribute [local go_sem] cell?_more cell?_alloc_some cell?_setCell_far frozen?_alloc_some frozen?_more
theorem indexK_no (A : Option Addr) (n c : Nat) (l : List Lk) (x y m f : Int) (w : World) (h : RAgg ELnk 4 w A n c l) (hn : (x, y, m, f) ∉ l) :
    Calls Tryz.prog 83 #[.slice A n c, .agg #[.int .i64 x, .int .i64 y, .int .i64 m, .int .i64 f]] w fun e w' => e = .returned (.int .i64 (-1)) ∧ Below w.heap.size w w' := by
  have hb0 : Below w.heap.size w (w.alloc (.cells #[.int .i64 x, .int .i64 y, .int .i64 m, .int .i64 f] 49)) := (Below.refl _ _).alloc (Nat.le_refl _) _
  have hk0 := Has.new w 49 #[.int .i64 x, .int .i64 y, .int .i64 m, .int .i64 f]
  have hle := h.le
  have Hn := hide hn
  clear hn
  go_enter Tryz.func83, Tryz.ntmps83
  go_upto_region 1 with fail
  generalize World.alloc w _ = W at *
  go_wp2
  go_loopw [8] (fun s wr => ∃ k : Nat, k ≤ n ∧ s = .int .i64 k ∧ Below W.heap.size W wr) (fun s _ => n - (intOf s).toNat)
  case atStart => exact ⟨0, Nat.zero_le _, rfl, Below.refl _ _⟩
  case round =>
    obtain ⟨k, hk, rfl, hb⟩ := hrel
    by_cases hlt : k < n
    · obtain ⟨b, off, x', y', m', f', rfl, c0, c1, c2, c3, hat, _⟩ := (h.below below_lnk (Below_trans' hb0 hb0.size hb)).lnk hlt
      have hk1 := hk0.below hb hk0.lt
      have k0 := hk1.cell 0
      have k1 := hk1.cell 1
      have k2 := hk1.cell 2
      have k3 := hk1.cell 3
      have hne : Hid (¬ (x = x' ∧ y = y' ∧ m = m' ∧ f = f')) := by
        rintro ⟨rfl, rfl, rfl, rfl⟩
        exact Hn.out (List.mem_of_getElem? hat.out)
      clear hat
      by_cases e1 : x = x'
      · by_cases e2 : y = y'
        · by_cases e3 : m = m'
          · have e4 : (f == f') = false := by rw [beq_eq_false_iff_ne]; exact fun e => hne.out ⟨e1, e2, e3, e⟩
            subst e1 e2 e3
            go_wp2_with fail
            refine wp_region_more (by kernel_rfl) (by kernel_rfl) ?_
            repeat (go_big_quiet_step (fail))
            refine wpQuiet_nil ?_
            rintro w2 ⟨qw2, hww2⟩
            have hbw2 := below_of_eq hww2
            clear hww2 qw2
            have hb2 := Below_trans' hb hb.size hbw2
            clear c0 c1 c2 c3 k0 k1 k2 k3
            go_wp2
            go_roundw
            case rel => exact ⟨k + 1, by omega, by go_num, hb2⟩
            case measure => simp [intOf] <;> omega
          · have e4 : (m == m') = false := by rw [beq_eq_false_iff_ne]; exact e3
            subst e1 e2
            clear e3
            go_wp2_with fail
            refine wp_region_more (by kernel_rfl) (by kernel_rfl) ?_
            repeat (go_big_quiet_step (fail))
            refine wpQuiet_nil ?_
            rintro w2 ⟨qw2, hww2⟩
            have hbw2 := below_of_eq hww2
            clear hww2 qw2
            have hb2 := Below_trans' hb hb.size hbw2
            clear c0 c1 c2 c3 k0 k1 k2 k3
            go_wp2
            go_roundw
            case rel => exact ⟨k + 1, by omega, by go_num, hb2⟩
            case measure => simp [intOf] <;> omega
        · have e4 : (y == y') = false := by rw [beq_eq_false_iff_ne]; exact e2
          subst e1
          clear e2
          go_wp2_with fail
          refine wp_region_more (by kernel_rfl) (by kernel_rfl) ?_
          repeat (go_big_quiet_step (fail))
          refine wpQuiet_nil ?_
          rintro w2 ⟨qw2, hww2⟩
          have hbw2 := below_of_eq hww2
          clear hww2 qw2
          have hb2 := Below_trans' hb hb.size hbw2
          clear c0 c1 c2 c3 k0 k1 k2 k3
          go_wp2
          go_roundw
          case rel => exact ⟨k + 1, by omega, by go_num, hb2⟩
          case measure => simp [intOf] <;> omega
      · have e4 : (x == x') = false := by rw [beq_eq_false_iff_ne]; exact e1
        clear e1
        go_wp2_with fail
        refine wp_region_more (by kernel_rfl) (by kernel_rfl) ?_
        repeat (go_big_quiet_step (fail))
        refine wpQuiet_nil ?_
        rintro w2 ⟨qw2, hww2⟩
        have hbw2 := below_of_eq hww2
        clear hww2 qw2
        have hb2 := Below_trans' hb hb.size hbw2
        clear c0 c1 c2 c3 k0 k1 k2 k3
        go_wp2
        go_roundw
        case rel => exact ⟨k + 1, by omega, by go_num, hb2⟩
        case measure => simp [intOf] <;> omega
    · go_wp2
      go_ret
      exact ⟨rfl, Below_trans' hb0 hb0.size hb⟩
theorem containsK_no (A : Option Addr) (n c : Nat) (l : List Lk) (x y m f : Int) (w : World) (h : RAgg ELnk 4 w A n c l) (hn : (x, y, m, f) ∉ l) :
    Calls Tryz.prog 53 #[.slice A n c, .agg #[.int .i64 x, .int .i64 y, .int .i64 m, .int .i64 f]] w fun e w' => e = .returned (.bool false) ∧ Below w.heap.size w w' := by
  have hb0 : Below w.heap.size w (w.alloc (.cells #[.int .i64 x, .int .i64 y, .int .i64 m, .int .i64 f] 49)) := (Below.refl _ _).alloc (Nat.le_refl _) _
  have hk0 := Has.new w 49 #[.int .i64 x, .int .i64 y, .int .i64 m, .int .i64 f]
  have hcall := indexK_no A n c l x y m f _ (h.below below_lnk hb0) hn
  clear hn
  go_enter Tryz.func53, Tryz.ntmps53
  go_upto_region 1 with fail
  generalize World.alloc w _ = W at *
  have k0 := hk0.cell 0
  have k1 := hk0.cell 1
  have k2 := hk0.cell 2
  have k3 := hk0.cell 3
  go_wp2_with fail
  refine hcall.mono ?_
  rintro e w' ⟨rfl, hb1⟩
  go_wp2
  go_ret
  exact ⟨rfl, Below_trans' hb0 hb0.size hb1⟩
theorem rankR_ok {c k : Int} {l : List Row} {seats : Int} {lot : List Int} (h : mayS c k l 1 seats 1 lot = 0) : rankR c k l seats lot = rankO (lockM (ofR c k l) lot c.toNat) c.toNat lot := if_pos h
theorem rankR_bad {c k : Int} {l : List Row} {seats : Int} {lot : List Int} (h : mayS c k l 1 seats 1 lot ≠ 0) : rankR c k l seats lot = ([], [], []) := if_neg h
theorem kcount1_any (x : Int) (g : Nat) (x1 y1 m1 f1 : Int) (w : World) (hg : Has w g 49 #[.int .i64 x1, .int .i64 y1, .int .i64 m1, .int .i64 f1]) :
    Calls Tryz.prog 55 #[.int .i64 x, .pointer (some ⟨g, 0, none⟩)] w fun e w' => e = .returned (.bool (decide (x = y1))) ∧ w = w' := by
  have k1 := hg.cell 1
  go_enter Tryz.func55, Tryz.ntmps55
  go_wp2
  go_ret
  exact ⟨ret_b (by rw [Bool.eq_iff_iff]; simp), rfl⟩
/-- What is known of the locked links. -/
structure LockOK (l : List Lk) (C : Nat) : Prop where
  len : l.length ≤ 45
  once : l.Nodup
  rng : ∀ k ∈ l, (0 ≤ k.1 ∧ k.1 < (C : Int)) ∧ (0 ≤ k.2.1 ∧ k.2.1 < (C : Int))
theorem lockM_ok {m : M} {lot : List Int} {C : Nat} (h : LotP lot C) (hC : C ≤ 10) : LockOK (lockM m lot C) C :=
  ⟨Nat.le_trans (lock_sub _).length_le (lnkO_45 h hC), (lnkO_nodup h).sublist (lock_sub _), fun _ hk => let q := lnkO_link h (lockM_link h hk); ⟨q.1, q.2.1⟩⟩
theorem notin_takeK {l : List Lk} (hn : l.Nodup) {i : Nat} {k : Lk} (h : l[i]? = some k) : k ∉ l.take i := fun hm => by
  obtain ⟨j, hj⟩ := List.getElem?_of_mem hm
  have hji : j < i := by have := (List.getElem?_eq_some_iff.1 hj).1; rw [List.length_take] at this; omega
  rw [List.getElem?_take_of_lt hji] at hj
  exact List.pairwise_iff_getElem.1 hn j i (List.getElem?_eq_some_iff.1 hj).1 (List.getElem?_eq_some_iff.1 h).1 hji ((List.getElem?_eq_some_iff.1 hj).2.trans (List.getElem?_eq_some_iff.1 h).2.symm)
theorem hadK_le (l : List Lk) (x : Int) : hadK l x ≤ l.length := by unfold hadK; exact List.length_filter_le _ _
theorem hadLk_bd {l : List Lk} {C : Nat} (h : l.length ≤ 45) : ∀ y ∈ hadLk l C, 0 ≤ y ∧ y ≤ 45 := fun y hy => by
  obtain ⟨x, _, rfl⟩ := List.mem_map.1 hy
  have := hadK_le l (x : Int)
  omega
theorem Own.lt' {w : World} {B : Nat} {v : Value} {xs : List Int} (h : Own w B v xs) {b : Nat} (hb : v.ownBlock = some b) : B ≤ b ∧ b < w.heap.size := h.own_lt hb
theorem Own.mono' {w : World} {B B' : Nat} {v : Value} {xs : List Int} (h : Own w B v xs) (hB : B' ≤ B) : Own w B' v xs := by
  obtain ⟨h1, h2⟩ := h
  refine ⟨h1, ?_⟩
  rcases h2 with h2 | ⟨g, cap, cur, e, hb, r⟩
  · exact .inl h2
  · exact .inr ⟨g, cap, cur, e, by omega, r⟩
set_option maxRecDepth 100000 in
set_option maxHeartbeats 4000000 in
theorem ranked_any (c k : Int) (A : Option Addr) (n cp : Nat) (l : List Row) (seats : Int) (At : Option Addr) (nt ct : Nat) (lot : List Int) (w : World) (h : RRows w A n cp l) (h' : RInts w At nt ct lot) (hn : nt ≤ 1000) :
    Calls Tryz.prog 16 #[.agg #[.int .i64 c, .int .u8 k, .slice A n cp], .int .i64 seats, .slice At nt ct] w (OutPost w (rankR c k l seats lot) (mayS c k l 1 seats 1 lot)) := by
  have hP0 : Has ((w.alloc (.cells #[.int .i64 c, .int .u8 k, .slice A n cp] 27)).alloc (.cells #[.slice none 0 0, .slice none 0 0, .slice none 0 0] 39)) w.heap.size 27 #[.int .i64 c, .int .u8 k, .slice A n cp] := (Has.new _ _ _).alloc _
  have hR0 : Has ((w.alloc (.cells #[.int .i64 c, .int .u8 k, .slice A n cp] 27)).alloc (.cells #[.slice none 0 0, .slice none 0 0, .slice none 0 0] 39)) (w.heap.size + 1) 39 #[.slice none 0 0, .slice none 0 0, .slice none 0 0] := Has.new2 _ _ _ _
  have hb0 : Below w.heap.size w ((w.alloc (.cells #[.int .i64 c, .int .u8 k, .slice A n cp] 27)).alloc (.cells #[.slice none 0 0, .slice none 0 0, .slice none 0 0] 39)) := ((Below.refl _ _).alloc (Nat.le_refl _) _).alloc (by simp) _
  go_enter Tryz.func16, Tryz.ntmps16
  go_upto_region 1 with fail
  generalize World.alloc (World.alloc w _) _ = W0 at hP0 hR0 hb0 ⊢
  have p0 := hP0.cell 0
  have p1 := hP0.cell 1
  have p2 := hP0.cell 2
  go_wp2_with fail
  refine (ccheck_any c k A n cp l 1 seats 1 At nt ct lot W0 (h.below hb0) (h'.below hb0) hn).mono ?_
  rintro e w1 ⟨rfl, hb1⟩
  have hb01 := Below_trans' hb0 hb0.size hb1
  have hP1 := hP0.below hb1 hP0.lt
  have hR1 := hR0.below hb1 hR0.lt
  clear p0 p1 p2 hP0 hR0
  by_cases hE : mayS c k l 1 seats 1 lot = 0
  · have e1 : (mayS c k l 1 seats 1 lot != 0) = false := by simp [hE]
    obtain ⟨hc0, hk0, hs1, hs2, hs3, hlot⟩ := may_zero hE
    subst hk0
    have hcs := check_ok hc0
    obtain ⟨C, rfl⟩ : ∃ C : Nat, c = (C : Int) := ⟨c.toNat, by omega⟩
    have hRk := hide (rank_ok hc0)
    have Hlot := hide hlot
    have hro := hide (rankR_ok hE)
    rw [Int.toNat_natCast] at hro
    have hE0 := hide hE
    have hC10 : C ≤ 10 := (rank_ok hc0).c10
    have hC1 : 1 ≤ C := (rank_ok hc0).c1
    have hrt := hide (ofR_right (k := 1) hc0 (c' := (C : Int)) (Int.le_refl _) (by omega))
    have hLP := lotP_of hlot
    have hKe : ordErr (ofR C 1 l) C lot = 0 := ordErr_ok (by omega) hlot hrt.out
    have hLO := hide (lockM_ok (m := ofR C 1 l) hLP hC10)
    have hfne := hide (free_ne (m := ofR C 1 l) hLP (show 0 < C by omega))
    have hlv := hide (lockV_ok hKe)
    have Hke := hide hKe
    have hpo := pof_any C 1 A n cp l w1 (h.below hb01)
    unfold POfPost at hpo
    clear hcs hE hc0 hlot hLP hKe
    have p0 := hP1.cell 0
    have p1 := hP1.cell 1
    have p2 := hP1.cell 2
    go_wp2_with fail
    refine hpo.mono ?_
    rintro e w2 ⟨D, rfl, hD, hb2⟩
    clear hpo p0 p1 p2
    have hDs := hD.size
    have hb02 := Below_trans' hb01 hb01.size hb2
    have hZ2 : Has (w2.alloc (.cells Tryz.zeroCells24 24)) w2.heap.size 24 Tryz.zeroCells24 := Has.new _ _ _
    have hM3 : Has ((w2.alloc (.cells Tryz.zeroCells24 24)).setRow w2.heap.size D) w2.heap.size 24 D := hZ2.setRow _
    have hb23 : Below w2.heap.size w2 ((w2.alloc (.cells Tryz.zeroCells24 24)).setRow w2.heap.size D) := below_setRow ((Below.refl _ _).alloc (Nat.le_refl _) _) (Nat.le_refl _) _
    go_upto_region 5 with (refine stMat rfl rfl rfl rfl hZ2 zeroMat.size hDs hD.one ?_)
    generalize World.setRow (World.alloc w2 _) _ _ = w3 at hM3 hb23 ⊢
    clear hZ2
    have hb03 := Below_trans' hb02 hb02.size hb23
    have hb13 := Below_trans' hb2 hb2.size hb23
    have hP3 := hP1.below hb13 hP1.lt
    have hR3 := hR1.below hb13 hR1.lt
    have p0 := hP3.cell 0
    go_wp2_with (refine ldMat rfl rfl rfl hM3 hDs ?_)
    refine (lock_any D _ hD C At nt ct lot w3 (h'.below hb03) hn).mono ?_
    rintro e w4 ⟨vL, rfl, hL4, hb4⟩
    clear p0
    rw [Hke.out, hlv.out] at *
    have hb04 := Below_trans' hb03 hb03.size hb4
    have hP4 := hP3.below hb4 hP3.lt
    have hR4 := hR3.below hb4 hR3.lt
    generalize lockM (ofR C 1 l) lot C = lk at *
    obtain ⟨AL, cL, rfl⟩ := hL4.slice
    have hRL := hL4.reads
    obtain ⟨N, hN⟩ : ∃ N, lk.length = N := ⟨_, rfl⟩
    rw [hN] at hRL ⊢
    have HN := hide hN
    have hN45 : N ≤ 45 := by have := hLO.out.len; omega
    clear hN hL4
    have p0 := hP4.cell 0
    have hmk := run_make_row' (P := Tryz.prog) 28 3 (.int .i64 0) 8 Tryz.underlying28 info3 rfl .i64 .i64 C (by omega) (by omega)
    go_upto_region 6 with fail
    clear hb01 hb02 hb13 hb23 hb2 hM3 hR1 hR3 hP1 hP3 hb1 hb0 hb03 hb4
    go_cut [13, 14] from 40 to 45 (fun u v wx => ∃ (g1 : Nat) (Af : Option Addr) (cf : Nat), u = .slice (some ⟨g1, 0, none⟩) C C ∧ v = .slice Af C cf ∧ Own wx w4.heap.size (.slice (some ⟨g1, 0, none⟩) C C) (List.replicate C 0) ∧ Own wx w4.heap.size (.slice Af C cf) (rangeI C) ∧ Hid (∀ b, (Value.slice Af C cf).ownBlock = some b → b ≠ g1) ∧ Below w4.heap.size w4 wx)
    case first =>
      refine wp_region_flowz [0, 1, 3, 4] [0, 1, 3, 4, 6, 7] (fun w' => ∃ q, w' = More w4 q) (by kernel_rfl) (by kernel_rfl) (below_more ((Below.refl w4.heap.size w4).drew)) ?_
      simp only [pickOps, List.getElem?_cons_zero, List.getElem?_cons_succ]
      repeat (go_big_quiet_step (fail))
      refine wpQuiet_nil ?_
      have hdr : Below w4.heap.size w4 w4.drew := (Below.refl _ _).drew
      clear p0
      refine flow_two 2 5 (by kernel_rfl) rfl rfl ?_ ?_
      · have hM : Own (w4.alloc (.cells (madeCells #[.int .i64 0] C) 3)).drew w4.heap.size (.slice (some ⟨w4.heap.size, 0, none⟩) C C) (List.replicate C 0) := Own.made w4.drew w4.heap.size C (Nat.le_refl _) (by omega)
        have hbM : Below w4.heap.size w4 (w4.alloc (.cells (madeCells #[.int .i64 0] C) 3)).drew := hdr.alloc (Nat.le_refl _) _
        go_wp2
        generalize (World.alloc w4 _).drew = wa at hM hbM ⊢
        refine FlowPost.mk ⟨below_more hbM, ?_⟩
        refine flow_one 5 (by kernel_rfl) rfl ?_
        go_wp2_with fail
        refine (pall_any C wa (by omega)).mono ?_
        rintro e wb ⟨vf, rfl, hF, hb5⟩
        obtain ⟨Af, cf, rfl⟩ := hF.slice
        rw [length_rangeI] at hF ⊢
        have hb8 := Below_trans' hbM hbM.size hb5
        have hz := hbM.size
        have hlt := hM.lt' rfl
        go_wp2
        refine FlowPost.mk ⟨below_more hb8, ?_⟩
        refine flow_pure [6, 7] (by kernel_rfl) (below_more hb8) ?_
        simp only [pickOps, List.getElem?_cons_zero, List.getElem?_cons_succ]
        repeat (go_big_quiet_step (fail))
        refine wpQuiet_nil ?_
        refine flow_rest [] (by kernel_rfl) ?_
        simp only [pickOps]
        go_wp2
        go_meet
        case rel => exact ⟨_, Af, cf, rfl, rfl, hM.below hb5, Own.mono' hF hz, fun b hb' e => by have := (hF.own_lt hb').1; omega, hb8⟩
      · go_wp2_with fail
        refine (pall_any C w4.drew (by omega)).mono ?_
        rintro e wa ⟨vf, rfl, hF, hb5⟩
        obtain ⟨Af, cf, rfl⟩ := hF.slice
        rw [length_rangeI] at hF ⊢
        have hb5 := Below_trans' hdr hdr.size hb5
        have hM := Own.made wa w4.heap.size C hb5.size (by omega)
        have hbM : Below wa.heap.size wa (wa.alloc (.cells (madeCells #[.int .i64 0] C) 3)) := below_allocN
        have hb8 := Below_trans' hb5 hb5.size hbM
        have hF2 : Own wa w4.heap.size (.slice Af C cf) (rangeI C) := hF
        go_wp2
        refine FlowPost.mk ⟨below_more hb5, ?_⟩
        refine flow_one 2 (by kernel_rfl) rfl ?_
        go_wp2
        generalize World.alloc wa _ = wb at hM hbM hb8 ⊢
        refine FlowPost.mk ⟨below_more hb8, ?_⟩
        refine flow_pure [6, 7] (by kernel_rfl) (below_more hb8) ?_
        simp only [pickOps, List.getElem?_cons_zero, List.getElem?_cons_succ]
        repeat (go_big_quiet_step (fail))
        refine wpQuiet_nil ?_
        refine flow_rest [] (by kernel_rfl) ?_
        simp only [pickOps]
        go_wp2
        go_meet
        case rel => exact ⟨_, Af, cf, rfl, rfl, hM, hF2.below hbM, fun b hb' e => by have := (hF2.own_lt hb').2; omega, hb8⟩
    case rest =>
      obtain ⟨g1, Af, cf, rfl, rfl, hO, hF, hap, hb⟩ := hcut
      clear hmk p0
      have hO0 : Own wc w4.heap.size (.slice (some ⟨g1, 0, none⟩) C C) (hadLk (lk.take 0) C) := by rw [List.take_zero, hadLk_nil]; exact hO
      have hF0 : Own wc w4.heap.size (.slice Af C cf) (freeS C (lk.take 0)) := by rw [List.take_zero, freeS_nil]; exact hF
      have eg : ∀ args w, (callFunc 55 args).run Tryz.prog w = .ok (.enter 55 args) w := enters_of Tryz.func55 (by kernel_rfl) rfl
      have hNc : N ≤ cL := hRL.2.1
      clear hO hF
      go_wp2
      go_loopw [14, 48] (fun v s wr => ∃ i : Nat, i ≤ N ∧ s = .int .i64 i ∧ Own wr w4.heap.size (.slice (some ⟨g1, 0, none⟩) C C) (hadLk (lk.take i) C) ∧ Own wr w4.heap.size v (freeS C (lk.take i)) ∧ Hid (∀ b, v.ownBlock = some b → b ≠ g1) ∧ Below w4.heap.size w4 wr) (fun _ s _ => N - (intOf s).toNat)
      case atStart => exact ⟨0, Nat.zero_le _, rfl, hO0, hF0, hap, hb⟩
      case round =>
        clear hO0 hF0 hap hb
        obtain ⟨i, hi, rfl, hO, hF, hap, hb⟩ := hrel
        have hzb := hb.size
        by_cases hlt : i < N
        · obtain ⟨b, off, x, y, mg, f, rfl, c0, c1, c2, c3, hat, h64⟩ := (hRL.below below_lnk hb).lnk hlt
          have hrk := hLO.out.rng _ (List.mem_of_getElem? hat.out)
          obtain ⟨X, rfl⟩ : ∃ X : Nat, x = (X : Int) := ⟨x.toNat, by have := hrk.1.1; simp only at this; omega⟩
          have hXC : X < C := by have := hrk.1.2; simp only at this; omega
          clear hrk
          have hnx := hide (hadLk_next hat.out rfl hXC)
          have hfx := hide (freeS_next (C := C) hat.out)
          have hnt := hide (notin_takeK hLO.out.once hat.out)
          have hhk := hide (Nat.le_trans (hadK_le (lk.take i) (X : Int)) (by rw [List.length_take]; exact Nat.min_le_left _ _))
          have hba : Below wr.heap.size wr (wr.alloc (.cells #[.int .i64 (X : Int), .int .i64 y, .int .i64 mg, .int .i64 f] 49)) := (Below.refl _ _).alloc (Nat.le_refl _) _
          have hkn := Has.new wr 49 #[.int .i64 (X : Int), .int .i64 y, .int .i64 mg, .int .i64 f]
          go_upto_region 10 with fail
          generalize World.alloc wr _ = W2 at *
          have hb2 := Below_trans' hb hzb hba
          have hRt := (hRL.below below_lnk hb2).takes (k := i) (by omega)
          have hq : ∀ q, Calls Tryz.prog 53 #[.slice (some ⟨b, off, none⟩) i cL, .agg #[.int .i64 (X : Int), .int .i64 y, .int .i64 mg, .int .i64 f]] (More W2 q) fun e w'' => e = .returned (.bool false) ∧ ∃ q', w'' = More W2 q' := fun q => more_of (containsK_no _ i cL (lk.take i) (X : Int) y mg f (More W2 q) (hRt.below below_lnk (more_below W2 q)) hnt.out)
          have k0 := hkn.cell 0
          have k1 := hkn.cell 1
          have k2 := hkn.cell 2
          have k3 := hkn.cell 3
          have ic : (i : Int) ≤ (cL : Int) := by omega
          have ic2 : i ≤ cL := by omega
          clear c0 c1 c2 c3 hat
          refine wp_region_more (by kernel_rfl) (by kernel_rfl) ?_
          repeat (go_big_quiet_step ((go_at_call 53; with_reducible exact hq _)))
          refine wpQuiet_nil ?_
          rintro w5 ⟨qw5, hww5⟩
          have hbw5 := below_of_eq hww5
          clear hww5 qw5
          have hk5 := hkn.below hbw5 hkn.lt
          have hb25 := Below_trans' hba hba.size hbw5
          have hb5 := Below_trans' hb hzb hb25
          have hO5 := hO.below hb25
          have hF5 := hF.below hb25
          have hkl : wr.heap.size < w5.heap.size := by have := hk5.lt; omega
          clear k0 k1 k2 k3 hq hRt hkn hb2 hbw5 hba hb25 ic ic2
          have k0 := hk5.cell 0
          obtain ⟨u, hu, hcu, hfu⟩ := hO5.at (length_hadLk _ _) hXC
          obtain rfl : ((hadK (lk.take i) (X : Int) : Nat) : Int) = u := by have := hu.out; rw [get_hadLk _ hXC] at this; exact Option.some.inj this
          have hO6 := hO5.set (length_hadLk _ _) X (((hadK (lk.take i) (X : Int) : Nat) : Int) + 1)
          rw [← hnx.out] at hO6
          have hFs : Frame' (fun b => b = g1) w5 (w5.setCell ⟨g1, X, none⟩ (.int .i64 (((hadK (lk.take i) (X : Int) : Nat) : Int) + 1))) := (Frame'.refl (fun b => b = g1) w5).setCell (p := ⟨g1, X, none⟩) (.inl rfl) _
          have hg1 : w4.heap.size ≤ g1 ∧ g1 < wr.heap.size := hO.own_lt rfl
          clear hu
          have hhk' := hhk.out
          generalize hadK (lk.take i) (X : Int) = hv at *
          go_upto_region 12 with fail
          generalize World.setCell w5 _ _ = w6 at *
          clear hcu hfu k0
          have hk6 := hFs.has hk5 (by omega)
          have hF6 := hF5.frame hFs (fun b' hb' e => hap.out b' hb' e)
          have hb6 : Below w4.heap.size w4 w6 := Frame'.below hb5 hFs (fun b' e => by omega) hb5.size
          obtain ⟨Av, cv, rfl⟩ := hF.slice
          have hvlt := hide (fun b' (hb' : (Value.slice Av (freeS C (lk.take i)).length cv).ownBlock = some b') => (hF.own_lt hb').2)
          have hfr : ∀ z ∈ freeS C (lk.take i), -9223372036854775808 ≤ z ∧ z ≤ 9223372036854775807 := fun z hz => by have := (mem_freeS.1 hz).1; omega
          have hdl := deleteFunc_in 55 eg (fun z => decide (z = y)) #[.pointer (some ⟨wr.heap.size, 0, none⟩)] w4.heap.size Av _ cv (freeS C (lk.take i)) w6 hF6 hfr
            (fun W hW z _ => (kcount1_any z wr.heap.size (X : Int) y mg f W (hW.has hk6 (fun e => by have := hvlt.out _ e.symm; omega))).mono fun e w' ⟨he, hw⟩ => ⟨he, by rw [← hw]; exact Below.refl _ _⟩)
          have hfq : Hid ((freeS C (lk.take i)).filter (fun z => !decide (z = y)) = freeS C (lk.take (i + 1))) := by
            unfold Hid; rw [hfx.out]; refine List.filter_congr fun z _ => ?_; simp
          rw [hfq.out] at hdl
          generalize freeS C (lk.take i) = fl at *
          generalize fl.length = fll at *
          clear hfr
          go_wp2_with fail
          refine hdl.mono ?_
          rintro e w7 ⟨A7, n7, c7, rfl, hF7, hown7, hF67⟩
          have hO7 := hO6.frame hF67 (fun b' hb' e => by
            have e2 : g1 = b' := Option.some.inj hb'
            exact hap.out b' e.symm e2.symm)
          have hb7 : Below w4.heap.size w4 w7 := Frame'.below hb6 hF67 (fun b' e => (hF6.own_lt e.symm).1) hb6.size
          have hap7 : Hid (∀ b', (Value.slice A7 n7 c7).ownBlock = some b' → b' ≠ g1) := fun b' hb' => by rw [hown7] at hb'; exact hap.out b' hb'
          clear hdl hF67 hown7
          go_wp2
          go_roundw
          case rel => exact ⟨i + 1, by omega, by go_num, hO7, hF7, hap7, hb7⟩
          case measure => simp [intOf] <;> omega
        · obtain rfl : i = N := by omega
          have e : Hid (lk.take i = lk) := List.take_of_length_le (by rw [HN.out]; exact Nat.le_refl _)
          rw [e.out] at hO hF
          obtain ⟨wE, rfl⟩ : ∃ wE : World, wE = wr := ⟨_, rfl⟩
          obtain ⟨Ab, cb, rfl⟩ := hF.slice
          have hbE : Below w.heap.size w wE := Below_trans' hb04 hb04.size hb
          have hPE := hP4.below hb hP4.lt
          have hRE := hR4.below hb hR4.lt
          have hRI := hO.ints (fun y hy => by have := hadLk_bd hLO.out.len y hy; omega)
          have htm : ∀ y ∈ freeS C lk, 0 ≤ y ∧ y < C := fun y hy => (mem_freeS.1 hy).1
          have hIF := hF.ints (fun y hy => by have := htm y hy; omega)
          have hgz : w4.heap.size ≤ g1 ∧ g1 < wE.heap.size := hO.own_lt rfl
          have hw4 : w.heap.size + 1 < w4.heap.size := hR4.lt
          clear hP4 hR4 hb04 hb hO hap
          go_wp2_with fail
          refine (cof_any At nt ct lot wE (h'.below hbE) hn).mono ?_
          rintro e w10 ⟨g, A2, n2, c2, rfl, hC10', hO8, hgE, hog, hbE10⟩
          have hI10 := hIF.below hbE10
          have hL10 := hO8.ints (fun x hx => h'.bd hx)
          have hn2 : n2 ≤ 1000 := by have h1 := hL10.len; have h2 := h'.len; omega
          have hfs : (freeS C lk).Sublist (rangeI C) := by unfold freeS; exact List.filter_sublist
          have htl : (freeS C lk).length ≤ C := by have := hfs.length_le; rw [length_rangeI] at this; exact this
          have htp := List.length_pos_iff.2 hfne.out
          have hfi := pfirst_any g w10.heap.size (.slice none 0 0) (.slice none 0 0) (.slice none 0 0) A2 n2 c2 lot (fun _ => False) [] Ab _ cb (freeS C lk) w10 hC10' (Nat.le_refl _) (OAgg.nil_ _ _ _ _ _) (fun h => h) (by simp [Value.ownBlock]) hL10 hn2 hI10 (by omega) htp ((le_rangeI C).sublist hfs) (fun x hx => lot_in Hlot.out (hfs.subset hx)) (by simp)
          have hxm : frstS lot (freeS C lk) ∈ freeS C lk := by
            obtain ⟨a, ha⟩ := List.exists_mem_of_ne_nil _ hfne.out
            unfold frstS
            cases hf : lot.find? (inL (freeS C lk)) with
            | none => exact absurd (inL_iff.2 ha) (by have := List.find?_eq_none.1 hf a (lot_in Hlot.out (hfs.subset ha)); simpa using this)
            | some y => exact inL_iff.1 (by simpa using List.find?_some hf)
          have hxr := htm _ hxm
          have hpath := hide (show rankO lk C lot = ([frstS lot (freeS C lk)], [rndS (hadLk lk C) 0 [frstS lot (freeS C lk)] []], tiedS [] (freeS C lk) (frstS lot (freeS C lk))) from rfl)
          clear hxm
          go_wp2_with fail
          refine hfi.mono ?_
          rintro e w11 ⟨rfl, vt', fp', hC11, hT11, hfp, hvb, hF11⟩
          clear hfi
          generalize frstS lot (freeS C lk) = x at *
          have q0 := hC11.cell 0
          have f0 := hC11.free 0
          go_upto_region 17 with fail
          clear q0 f0
          have hb10w : Below w.heap.size w w10 := Below_trans' hbE hbE.size hbE10
          have hgw : w.heap.size + 1 < g := by have := hRE.lt; omega
          have hgg1 : g1 < g := by omega
          have hb11w : Below w.heap.size w w11 := Frame'.below hb10w hF11 (fun b e => by rcases e with e | e; omega; cases e) hb10w.size
          have hb12a : Below w11.heap.size w11 (w11.alloc (.cells #[.int .i64 x] 3)) := below_allocN
          have hE12a := Has.new w11 3 #[.int .i64 x]
          have hgl := hC11.lt
          have hC12 : Has ((w11.alloc (.cells #[.int .i64 x] 3)).setCell ⟨g, 0, none⟩ (.slice (some ⟨w11.heap.size, 0, none⟩) 1 1)) g 96 #[.slice (some ⟨w11.heap.size, 0, none⟩) 1 1, .slice none 0 0, vt', .slice A2 n2 c2] := (hC11.below hb12a hC11.lt).put 0 _
          have hF12 : Frame' (fun b => b = g) w11 ((w11.alloc (.cells #[.int .i64 x] 3)).setCell ⟨g, 0, none⟩ (.slice (some ⟨w11.heap.size, 0, none⟩) 1 1)) := (Frame'.of_below hb12a).trans (Frame'.setCell (p := ⟨g, 0, none⟩) (Frame'.refl (fun b => b = g) _) (.inl rfl) _)
          have hE12 : Has ((w11.alloc (.cells #[.int .i64 x] 3)).setCell ⟨g, 0, none⟩ (.slice (some ⟨w11.heap.size, 0, none⟩) 1 1)) w11.heap.size 3 #[.int .i64 x] := hE12a.far (p := ⟨g, 0, none⟩) (by show w11.heap.size ≠ g; omega) _
          generalize World.setCell (World.alloc w11 _) _ _ = w12 at hC12 hF12 hE12 ⊢
          have hb12w : Below w.heap.size w w12 := Frame'.below hb11w hF12 (fun b e => by omega) hb11w.size
          have hFE : Frame' (fun b => b = g) wE w12 := ((Frame'.of_below hbE10).trans (hF11.mono fun b _ e => by rcases e with e | e; exact e; cases e)).trans hF12
          have hRI12 := hRI.frame hFE (fun _ => ⟨g1, 0, rfl, show ¬ g1 = g by omega⟩)
          clear hE12a hb12a
          go_wp2_with fail
          refine (pwholes_any (some ⟨g1, 0, none⟩) C C (hadLk lk C) w12 hRI12 (by omega) (fun y hy => by have := hadLk_bd hLO.out.len y hy; omega)).mono ?_
          rintro e w13 ⟨v13, fp13, rfl, hO13, hf13, hb13⟩
          obtain ⟨A13, c13, rfl⟩ := hO13.slice
          rw [List.length_map, length_hadLk] at hO13 ⊢
          go_wp2_with fail
          refine (pwhole_any 0 w13 (by omega) (by omega)).mono ?_
          rintro e w14 ⟨An, nn, cn, Ad, nd, cd, rfl, hn14, hd14, hb14, hf14⟩
          have hC14 := (hC12.below hb13 hC12.lt).below hb14 (hC12.below hb13 hC12.lt).lt
          have q1 := hC14.cell 1
          have f1 := hC14.free 1
          go_upto_region 18 with fail
          obtain ⟨Av, cv, rfl⟩ := hT11.slice
          have hz10 : g < w10.heap.size := hC10'.lt
          have hz11 := hF11.size
          have hz12 : w11.heap.size < w12.heap.size := hE12.lt
          have hz13 := hb13.size
          have hz14 := hb14.size
          have hL15 : Has ((w14.alloc (.cells #[.int .i64 x] 3)).alloc (.cells #[.slice A13 C c13, .bool false, .slice An nn cn, .slice Ad nd cd, .slice (some ⟨w14.heap.size, 0, none⟩) 1 1, .slice none 0 0] 65)) w14.heap.size 3 #[.int .i64 x] := (Has.new _ _ _).alloc _
          have hN16 : Has ((w14.alloc (.cells #[.int .i64 x] 3)).alloc (.cells #[.slice A13 C c13, .bool false, .slice An nn cn, .slice Ad nd cd, .slice (some ⟨w14.heap.size, 0, none⟩) 1 1, .slice none 0 0] 65)) (w14.heap.size + 1) 65 #[.slice A13 C c13, .bool false, .slice An nn cn, .slice Ad nd cd, .slice (some ⟨w14.heap.size, 0, none⟩) 1 1, .slice none 0 0] := Has.new2 _ _ _ _
          have hb16 : Below w14.heap.size w14 ((w14.alloc (.cells #[.int .i64 x] 3)).alloc (.cells #[.slice A13 C c13, .bool false, .slice An nn cn, .slice Ad nd cd, .slice (some ⟨w14.heap.size, 0, none⟩) 1 1, .slice none 0 0] 65)) := ((Below.refl _ _).alloc (Nat.le_refl _) _).alloc (by simp) _
          clear q1 f1
          generalize World.alloc (World.alloc w14 _) _ = w16 at hL15 hN16 hb16 ⊢
          have hC17 : Has (w16.setCell ⟨g, 1, none⟩ (.slice (some ⟨w14.heap.size + 1, 0, none⟩) 1 1)) g 96 #[.slice (some ⟨w11.heap.size, 0, none⟩) 1 1, .slice (some ⟨w14.heap.size + 1, 0, none⟩) 1 1, .slice Av _ cv, .slice A2 n2 c2] := (hC14.below hb16 hC14.lt).put 1 _
          have hF17 : Frame' (fun b => b = g) w16 (w16.setCell ⟨g, 1, none⟩ (.slice (some ⟨w14.heap.size + 1, 0, none⟩) 1 1)) := Frame'.setCell (p := ⟨g, 1, none⟩) (Frame'.refl (fun b => b = g) _) (.inl rfl) _
          generalize World.setCell w16 _ _ = w17 at hC17 hF17 ⊢
          have hFE17 : Frame' (fun b => b = g) wE w17 := hFE.trans ((Frame'.of_below (Below_trans' (Below_trans' hb13 hb13.size hb14) (Below_trans' hb13 hb13.size hb14).size hb16)).trans hF17)
          have hR17 := hFE17.has hRE (show ¬ w.heap.size + 1 = g by omega)
          have q0 := hC17.cell 0
          have q1 := hC17.cell 1
          have q2 := hC17.cell 2
          have r0 := hR17.cell 0
          have r1 := hR17.cell 1
          have r2 := hR17.cell 2
          have f0 := hR17.free 0
          have f1 := hR17.free 1
          have f2 := hR17.free 2
          have hz16 := hb16.size
          have hb17w : Below w.heap.size w w17 := Frame'.below hbE hFE17 (fun b e => by omega) hbE.size
          generalize hnt : (tiedS [] (freeS C lk) x).length = nv at *
          have hfr : ∀ u v y, Frame' (fun b => b = w.heap.size + 1) w17 (((w17.setCell ⟨w.heap.size + 1, 0, none⟩ u).setCell ⟨w.heap.size + 1, 1, none⟩ v).setCell ⟨w.heap.size + 1, 2, none⟩ y) := fun u v y => frame3 w17 (w.heap.size + 1) u v y
          have Hnt := hide hnt
          clear hnt
          go_wp2
          refine retOut2 rfl rfl rfl (put3 hR17) rfl rfl ⟨_, 1, 1, _, 1, 1, Av, nv, cv, by rw [hE0.out]; rfl, ?_, below3 hb17w (by omega) _ _ _⟩
          have hS : ∀ (W : World) (hW : Frame' (fun b => b = g) W w17), Frame' (fun b => b = g ∨ b = w.heap.size + 1) W (((w17.setCell ⟨w.heap.size + 1, 0, none⟩ (.slice (some ⟨w11.heap.size, 0, none⟩) 1 1)).setCell ⟨w.heap.size + 1, 1, none⟩ (.slice (some ⟨w14.heap.size + 1, 0, none⟩) 1 1)).setCell ⟨w.heap.size + 1, 2, none⟩ (.slice Av nv cv)) := fun W hW => (hW.mono fun b _ e => .inl e).trans ((hfr _ _ _).mono fun b _ e => .inr e)
          have k16 := hS w16 hF17
          have k14 := hS w14 ((Frame'.of_below hb16).trans hF17)
          have k13 := hS w13 ((Frame'.of_below (Below_trans' hb14 hb14.size hb16)).trans hF17)
          have k12 := hS w12 ((Frame'.of_below (Below_trans' hb13 hb13.size (Below_trans' hb14 hb14.size hb16))).trans hF17)
          have k11 := hS w11 (hF12.trans ((Frame'.of_below (Below_trans' hb13 hb13.size (Below_trans' hb14 hb14.size hb16))).trans hF17))
          rw [hro.out, hpath.out]
          have hxI : ∀ z ∈ [x], I64 z := fun z hz => by rw [List.mem_singleton.1 hz]; unfold I64; omega
          refine ⟨ints_lit [x] (k12.has hE12 (by omega)) (by simp) hxI, ragg1 (k16.has hN16 (by omega)) rfl ?_, ?_⟩
          · refine ⟨A13, C, c13, _, _, _, _, 1, 1, none, 0, 0, rfl, ?_, ⟨An, nn, cn, Ad, nd, cd, rfl, ?_, ?_⟩, ints_lit [x] (k16.has hL15 (by omega)) (by simp) hxI, RInts.nil_ _⟩
            · exact (hO13.frame k13 (fun b hb e => by have := hf13 b hb; omega) (fun b hb e => by have := (hO13.lt hb).1; omega)).reads
            · exact hn14.frame k14 (fun b hb e => by have := hf14 b (.inl hb); omega)
            · exact hd14.frame k14 (fun b hb e => by have := hf14 b (.inr hb); omega)
          · exact (hT11.frame k11 (fun b hb e => by rcases hfp b hb with h | h; exact h; omega) (fun b hb e => by have := (hT11.lt hb).1; omega)).reads
  · have e1 : (mayS c k l 1 seats 1 lot != 0) = true := by simp [hE]
    have hro := hide (rankR_bad hE)
    have q0 := hR1.cell 0
    have q1 := hR1.cell 1
    have q2 := hR1.cell 2
    have f0 := hR1.free 0
    have f1 := hR1.free 1
    have f2 := hR1.free 2
    go_wp2
    refine retOut2 rfl rfl rfl (put3 hR1) rfl rfl ⟨none, 0, 0, none, 0, 0, none, 0, 0, rfl, ?_, below3 hb01 (by omega) _ _ _⟩
    rw [hro.out]
    exact ROut.nil_ _
end Go.Proofs.YtolbceckbnifmaaGreat

namespace Go.Proofs.YtolbceckbnifmaaGreat
open Go.RowKit Go.Proofs Go.Shelf
attribute [local go_sem] cell?_more cell?_alloc_some cell?_setCell_far frozen?_alloc_some frozen?_more
theorem hadLk_succ (l : List Lk) (X : Nat) : hadLk l (X + 1) = hadLk l X ++ [(hadK l (X : Int) : Int)] := by unfold hadLk; rw [List.range_succ, List.map_append]; rfl
theorem toN_le (l : List Lk) (x : Int) : toN l x ≤ l.length := by unfold toN; exact List.length_filter_le _ _
theorem freeS_len (C : Nat) (l : List Lk) : (freeS C l).length ≤ C := by
  have : (freeS C l).Sublist (rangeI C) := by unfold freeS; exact List.filter_sublist
  have := this.length_le
  rwa [length_rangeI] at this
set_option maxRecDepth 100000 in
set_option maxHeartbeats 4000000 in
theorem rranked_any (c k : Int) (A : Option Addr) (n cp : Nat) (l : List Row) (seats : Int) (At : Option Addr) (nt ct : Nat) (lot : List Int) (w : World) (h : RRows w A n cp l) (h' : RInts w At nt ct lot) :
    Calls Tryz.prog 17 #[.agg #[.int .i64 c, .int .u8 k, .slice A n cp], .int .i64 seats, .slice At nt ct] w (OutPost w (rankR c k l seats lot) (mayS c k l 1 seats 1 lot)) := by
  have hP0 : Has ((w.alloc (.cells #[.int .i64 c, .int .u8 k, .slice A n cp] 27)).alloc (.cells #[.slice none 0 0, .slice none 0 0, .slice none 0 0] 39)) w.heap.size 27 #[.int .i64 c, .int .u8 k, .slice A n cp] := (Has.new _ _ _).alloc _
  have hR0 : Has ((w.alloc (.cells #[.int .i64 c, .int .u8 k, .slice A n cp] 27)).alloc (.cells #[.slice none 0 0, .slice none 0 0, .slice none 0 0] 39)) (w.heap.size + 1) 39 #[.slice none 0 0, .slice none 0 0, .slice none 0 0] := Has.new2 _ _ _ _
  have hb0 : Below w.heap.size w ((w.alloc (.cells #[.int .i64 c, .int .u8 k, .slice A n cp] 27)).alloc (.cells #[.slice none 0 0, .slice none 0 0, .slice none 0 0] 39)) := ((Below.refl _ _).alloc (Nat.le_refl _) _).alloc (by simp) _
  go_enter Tryz.func17, Tryz.ntmps17
  go_upto_region 1 with fail
  generalize World.alloc (World.alloc w _) _ = W0 at hP0 hR0 hb0 ⊢
  have p0 := hP0.cell 0
  have p1 := hP0.cell 1
  have p2 := hP0.cell 2
  go_wp2_with fail
  refine (may_any c k A n cp l 1 seats 1 At nt ct lot W0 (h.below hb0) (h'.below hb0)).mono ?_
  rintro e w1 ⟨rfl, hb1⟩
  have hb01 := Below_trans' hb0 hb0.size hb1
  have hP1 := hP0.below hb1 hP0.lt
  have hR1 := hR0.below hb1 hR0.lt
  clear p0 p1 p2 hP0 hR0
  by_cases hE : mayS c k l 1 seats 1 lot = 0
  · have e1 : (mayS c k l 1 seats 1 lot != 0) = false := by simp [hE]
    obtain ⟨hc0, hk0, hs1, hs2, hs3, hlot⟩ := may_zero hE
    subst hk0
    have hcs := check_ok hc0
    obtain ⟨C, rfl⟩ : ∃ C : Nat, c = (C : Int) := ⟨c.toNat, by omega⟩
    have hRk := hide (rank_ok hc0)
    have Hlot := hide hlot
    have hro := hide (rankR_ok hE)
    rw [Int.toNat_natCast] at hro
    have hE0 := hide hE
    have hC10 : C ≤ 10 := (rank_ok hc0).c10
    have hC1 : 1 ≤ C := (rank_ok hc0).c1
    have hrt := hide (ofR_right (k := 1) hc0 (c' := (C : Int)) (Int.le_refl _) (by omega))
    have hLP := lotP_of hlot
    have hKe : ordErr (ofR C 1 l) C lot = 0 := ordErr_ok (by omega) hlot hrt.out
    have hLO := hide (lockM_ok (m := ofR C 1 l) hLP hC10)
    have hfne := hide (free_ne (m := ofR C 1 l) hLP (show 0 < C by omega))
    have hlv := hide (lockV_ok hKe)
    have Hke := hide hKe
    have hpo := rof10_any C 1 A n cp l w1 (h.below hb01)
    unfold POfPost at hpo
    clear hcs hE hc0 hlot hLP hKe
    have p0 := hP1.cell 0
    have p1 := hP1.cell 1
    have p2 := hP1.cell 2
    go_wp2_with fail
    refine hpo.mono ?_
    rintro e w2 ⟨D, rfl, hD, hb2⟩
    clear hpo p0 p1 p2
    have hDs := hD.size
    have hb02 := Below_trans' hb01 hb01.size hb2
    have hZ2 : Has (w2.alloc (.cells Tryz.zeroCells24 24)) w2.heap.size 24 Tryz.zeroCells24 := Has.new _ _ _
    have hM3 : Has ((w2.alloc (.cells Tryz.zeroCells24 24)).setRow w2.heap.size D) w2.heap.size 24 D := hZ2.setRow _
    have hb23 : Below w2.heap.size w2 ((w2.alloc (.cells Tryz.zeroCells24 24)).setRow w2.heap.size D) := below_setRow ((Below.refl _ _).alloc (Nat.le_refl _) _) (Nat.le_refl _) _
    go_upto_region 5 with (refine stMat rfl rfl rfl rfl hZ2 zeroMat.size hDs hD.one ?_)
    generalize World.setRow (World.alloc w2 _) _ _ = w3 at hM3 hb23 ⊢
    clear hZ2
    have hb03 := Below_trans' hb02 hb02.size hb23
    have hb13 := Below_trans' hb2 hb2.size hb23
    have hP3 := hP1.below hb13 hP1.lt
    have hR3 := hR1.below hb13 hR1.lt
    have p0 := hP3.cell 0
    go_wp2_with (refine ldMat rfl rfl rfl hM3 hDs ?_)
    refine (rlock_any D _ hD C At nt ct lot w3 (h'.below hb03)).mono ?_
    rintro e w4 ⟨vL, rfl, hL4, hb4⟩
    clear p0
    rw [Hke.out, hlv.out] at *
    have hb04 := Below_trans' hb03 hb03.size hb4
    have hP4 := hP3.below hb4 hP3.lt
    have hR4 := hR3.below hb4 hR3.lt
    generalize lockM (ofR C 1 l) lot C = lk at *
    obtain ⟨AL, cL, rfl⟩ := hL4.slice
    have hRL := hL4.reads
    obtain ⟨N, hN⟩ : ∃ N, lk.length = N := ⟨_, rfl⟩
    rw [hN] at hRL ⊢
    have HN := hide hN
    have hN45 : N ≤ 45 := by have := hLO.out.len; omega
    clear hN hL4
    have p0 := hP4.cell 0
    clear hb01 hb02 hb13 hb23 hb2 hM3 hR1 hR3 hP1 hP3 hb1 hb0 hb03 hb4
    go_wp2
    go_loopw [13, 14, 15] (fun u v i wr => ∃ X : Nat, X ≤ C ∧ i = .int .i64 X ∧ Two wr w4.heap.size u v (hadLk lk X) (freeS X lk) ∧ Below w4.heap.size w4 wr) (fun u v i _ => C - (intOf i).toNat)
    case atStart => exact ⟨0, Nat.zero_le _, rfl, Two.nil_ _ _, Below.refl _ _⟩
    case round =>
      obtain ⟨X, hX, rfl, hT, hb⟩ := hrel
      obtain ⟨wo, rfl⟩ : ∃ wo : World, wo = wr := ⟨_, rfl⟩
      have hPo := hP4.below hb hP4.lt
      clear p0
      have p0 := hPo.cell 0
      obtain ⟨Au, cu, rfl⟩ := hT.l.slice
      obtain ⟨Av, cv, rfl⟩ := hT.r.slice
      by_cases hXC : X < C
      · have hlenA := length_hadLk lk X
        have hlenB := freeS_len X lk
        generalize hlu : (hadLk lk X).length = nu at *
        generalize hlv : (freeS X lk).length = nv at *
        have Hlu := hide hlu
        have Hlv := hide hlv
        have HlA := hide hlenA
        have HlB := hide hlenB
        clear hlu hlv hlenA hlenB
        have hRo := hRL.below below_lnk hb
        go_wp2
        clear p0
        go_loopw [16, 17, 18] (fun u v s wr => ∃ i : Nat, i ≤ N ∧ s = .int .i64 i ∧ u = .int .i64 (hadK (lk.take i) (X : Int) : Int) ∧ v = .int .i64 (toN (lk.take i) (X : Int) : Int) ∧ wr = wo) (fun u v s _ => N - (intOf s).toNat)
        case atStart => exact ⟨0, Nat.zero_le _, rfl, rfl, rfl, rfl⟩
        case round =>
          obtain ⟨i, hi, rfl, rfl, rfl, rfl⟩ := hrel
          have hk1 := hide (Nat.le_trans (hadK_le (lk.take i) (X : Int)) (by rw [List.length_take]; exact Nat.min_le_left _ _))
          have hk2 := hide (Nat.le_trans (toN_le (lk.take i) (X : Int)) (by rw [List.length_take]; exact Nat.min_le_left _ _))
          by_cases hlt : i < N
          · obtain ⟨b, off, x, y, mg, f, rfl, c0, c1, c2, c3, hat, h64⟩ := hRo.lnk hlt
            have hn1 := hide (hadK_next hat.out (X : Int))
            have hn2 := hide (toN_next hat.out (X : Int))
            have hh1 := hk1.out
            have hh2 := hk2.out
            simp only at hn1 hn2
            clear c2 c3 hat
            generalize hadK (lk.take i) (X : Int) = u at *
            generalize toN (lk.take i) (X : Int) = v at *
            by_cases e1 : x = (X : Int)
            · have f1 : (x == (X : Int)) = true := by rw [beq_iff_eq]; exact e1
              have hn1' : Hid (hadK (lk.take (i + 1)) (X : Int) = u + 1) := by unfold Hid; rw [hn1.out, if_pos e1]
              clear e1 hn1
              by_cases e2 : y = (X : Int)
              · have f2 : (y == (X : Int)) = true := by rw [beq_iff_eq]; exact e2
                have hn2' : Hid (toN (lk.take (i + 1)) (X : Int) = v + 1) := by unfold Hid; rw [hn2.out, if_pos e2]
                clear e2 hn2
                go_wp2
                go_roundw
                case rel => exact ⟨i + 1, by omega, by go_num, by rw [hn1'.out]; go_num, by rw [hn2'.out]; go_num, trivial⟩
                case measure => simp [intOf] <;> omega
              · have f2 : (y == (X : Int)) = false := by rw [beq_eq_false_iff_ne]; exact e2
                have hn2' : Hid (toN (lk.take (i + 1)) (X : Int) = v) := by unfold Hid; rw [hn2.out, if_neg e2]; rfl
                clear e2 hn2
                go_wp2
                go_roundw
                case rel => exact ⟨i + 1, by omega, by go_num, by rw [hn1'.out]; go_num, by rw [hn2'.out], trivial⟩
                case measure => simp [intOf] <;> omega
            · have f1 : (x == (X : Int)) = false := by rw [beq_eq_false_iff_ne]; exact e1
              have hn1' : Hid (hadK (lk.take (i + 1)) (X : Int) = u) := by unfold Hid; rw [hn1.out, if_neg e1]; rfl
              clear e1 hn1
              by_cases e2 : y = (X : Int)
              · have f2 : (y == (X : Int)) = true := by rw [beq_iff_eq]; exact e2
                have hn2' : Hid (toN (lk.take (i + 1)) (X : Int) = v + 1) := by unfold Hid; rw [hn2.out, if_pos e2]
                clear e2 hn2
                go_wp2
                go_roundw
                case rel => exact ⟨i + 1, by omega, by go_num, by rw [hn1'.out], by rw [hn2'.out]; go_num, trivial⟩
                case measure => simp [intOf] <;> omega
              · have f2 : (y == (X : Int)) = false := by rw [beq_eq_false_iff_ne]; exact e2
                have hn2' : Hid (toN (lk.take (i + 1)) (X : Int) = v) := by unfold Hid; rw [hn2.out, if_neg e2]; rfl
                clear e2 hn2
                go_wp2
                go_roundw
                case rel => exact ⟨i + 1, by omega, by go_num, by rw [hn1'.out], by rw [hn2'.out], trivial⟩
                case measure => simp [intOf] <;> omega
          · obtain rfl : i = N := by omega
            have e : Hid (lk.take i = lk) := List.take_of_length_le (by rw [HN.out]; exact Nat.le_refl _)
            rw [e.out] at hk1 hk2 ⊢
            have hh1 := hk1.out
            have hh2 := hk2.out
            have hzi := hb.size
            obtain ⟨u', w', h41, hT3, hF3⟩ := hT.app (hadK lk (X : Int) : Int) (by unfold I64; omega) (by rw [length_hadLk]; omega) hzi 28
            have hsu := hide (hadLk_succ lk X)
            have hst := hide (free_below (l := lk) hXC)
            have hst' : Hid (freeS (X + 1) lk = if toN lk (X : Int) = 0 then freeS X lk ++ [(X : Int)] else freeS X lk) := hst.out
            have hb3 : Below w4.heap.size w4 w' := Frame'.below hb hF3 (fun b e => (hT.l.own_lt e).1) hb.size
            obtain ⟨Au', cu', rfl⟩ := hT3.l.slice
            generalize hadK lk (X : Int) = u at *
            generalize hlu' : (hadLk lk X ++ [(u : Int)]).length = nu' at *
            have Hlu' := hide hlu'
            clear hlu' hst
            go_upto_region 19 with (at_builtin; refine list_app rfl rfl rfl rfl h41 ?_)
            clear h41
            by_cases htp : toN lk (X : Int) = 0
            · have f17 : ((toN lk (X : Int) : Int) == 0) = true := by rw [beq_iff_eq]; omega
              have hst2 : Hid (freeS (X + 1) lk = freeS X lk ++ [(X : Int)]) := by unfold Hid; rw [hst'.out, if_pos htp]
              obtain ⟨v', w'', h51, hT4, hF4⟩ := hT3.symm.app (X : Int) (by unfold I64; omega) (by have := freeS_len X lk; omega) hb3.size 28
              have hb4 : Below w4.heap.size w4 w'' := Frame'.below hb3 hF4 (fun b e => (hT3.r.own_lt e).1) hb3.size
              clear htp hst'
              generalize toN lk (X : Int) = v at *
              go_wp2_with (at_builtin; refine list_app rfl rfl rfl rfl h51 ?_)
              clear h51
              go_roundw
              case rel => exact ⟨X + 1, by omega, by go_num, by rw [hsu.out, hst2.out]; exact hT4.symm, hb4⟩
              case measure => simp [intOf] <;> omega
            · have f17 : ((toN lk (X : Int) : Int) == 0) = false := by rw [beq_eq_false_iff_ne]; omega
              have hst2 : Hid (freeS (X + 1) lk = freeS X lk) := by unfold Hid; rw [hst'.out, if_neg htp]
              clear htp hst'
              generalize toN lk (X : Int) = v at *
              go_wp2
              go_roundw
              case rel => exact ⟨X + 1, by omega, by go_num, by rw [hsu.out, hst2.out]; exact hT3, hb3⟩
              case measure => simp [intOf] <;> omega
      · obtain rfl : C = X := by omega
        have hT' : Two wo w4.heap.size (.slice Au (hadLk lk C).length cu) (.slice Av (freeS C lk).length cv) (hadLk lk C) (freeS C lk) := hT
        clear hT
        generalize hlu : (hadLk lk C).length = nu at *
        generalize hlv : (freeS C lk).length = nv at *
        have hnu : nu = C := by rw [← hlu, length_hadLk]
        have Hnu := hide hnu
        have Hnv := hide hlv.symm
        clear hlu hlv hnu
        have hbw := Below_trans' hb04 hb04.size hb
        have hRo := hR4.below hb hR4.lt
        have hg4 : w.heap.size + 1 < w4.heap.size := hR4.lt
        have htm : ∀ y ∈ freeS C lk, 0 ≤ y ∧ y < C := fun y hy => (mem_freeS.1 hy).1
        have hI1 := hT'.l.ints (fun y hy => by have := hadLk_bd hLO.out.len y hy; omega)
        have hI2 := hT'.r.ints (fun y hy => by have := htm y hy; omega)
        have hown := hide (fun b (hb : fpS Av nv b) => (hT'.r.own_lt (hT'.r.fps hb)).1)
        have hxm : frstS lot (freeS C lk) ∈ freeS C lk := by
          obtain ⟨a, ha⟩ := List.exists_mem_of_ne_nil _ hfne.out
          unfold frstS
          cases hf : lot.find? (inL (freeS C lk)) with
          | none => exact absurd (inL_iff.2 ha) (by have := List.find?_eq_none.1 hf a (lot_in Hlot.out (mem_rangeI.2 (htm a ha))); simpa using this)
          | some y => exact inL_iff.1 (by simpa using List.find?_some hf)
        have hxr := htm _ hxm
        have hpath := hide (show rankO lk C lot = ([frstS lot (freeS C lk)], [rndS (hadLk lk C) 0 [frstS lot (freeS C lk)] []], tiedS [] (freeS C lk) (frstS lot (freeS C lk))) from rfl)
        clear htm hxm hT'
        go_wp2_with fail
        refine (rfirst_any At nt ct lot Av nv cv (freeS C lk) wo (h'.below hbw) hI2).mono ?_
        rintro e w' ⟨rfl, rfl⟩
        clear p0
        generalize frstS lot (freeS C lk) = x at *
        have hb6 : Below wo.heap.size wo (wo.alloc (.cells #[.int .i64 x] 3)) := below_allocN
        have hL6 := Has.new wo 3 #[.int .i64 x]
        go_wp2_with fail
        generalize World.alloc wo _ = w6 at hb6 hL6 ⊢
        refine (rwholes_any Au nu cu (hadLk lk C) w6 (hI1.below hb6) (by have := Hnu.out; omega) (fun y hy => by have := hadLk_bd hLO.out.len y hy; omega)).mono ?_
        rintro e w13 ⟨v13, fp13, rfl, hO13, hf13, hb13⟩
        obtain ⟨A13, c13, rfl⟩ := hO13.slice
        rw [List.length_map, length_hadLk] at hO13 ⊢
        go_wp2_with fail
        refine (rwhole_any 0 w13 (by omega) (by omega)).mono ?_
        rintro e w14 ⟨An, nn, cn, Ad, nd, cd, rfl, hn14, hd14, hb14, hf14⟩
        have hL15 : Has ((w14.alloc (.cells #[.int .i64 x] 3)).alloc (.cells #[.slice A13 C c13, .bool false, .slice An nn cn, .slice Ad nd cd, .slice (some ⟨w14.heap.size, 0, none⟩) 1 1, .slice none 0 0] 65)) w14.heap.size 3 #[.int .i64 x] := (Has.new _ _ _).alloc _
        have hN16 : Has ((w14.alloc (.cells #[.int .i64 x] 3)).alloc (.cells #[.slice A13 C c13, .bool false, .slice An nn cn, .slice Ad nd cd, .slice (some ⟨w14.heap.size, 0, none⟩) 1 1, .slice none 0 0] 65)) (w14.heap.size + 1) 65 #[.slice A13 C c13, .bool false, .slice An nn cn, .slice Ad nd cd, .slice (some ⟨w14.heap.size, 0, none⟩) 1 1, .slice none 0 0] := Has.new2 _ _ _ _
        have hb16 : Below w14.heap.size w14 ((w14.alloc (.cells #[.int .i64 x] 3)).alloc (.cells #[.slice A13 C c13, .bool false, .slice An nn cn, .slice Ad nd cd, .slice (some ⟨w14.heap.size, 0, none⟩) 1 1, .slice none 0 0] 65)) := ((Below.refl _ _).alloc (Nat.le_refl _) _).alloc (by simp) _
        go_wp2_with fail
        generalize World.alloc (World.alloc w14 _) _ = w16 at hL15 hN16 hb16 ⊢
        have hb1316 := Below_trans' hb14 hb14.size hb16
        have hb616 := Below_trans' hb13 hb13.size hb1316
        have hbo16 := Below_trans' hb6 hb6.size hb616
        have hti := tied_any w16.heap.size (.slice none 0 0) (fun _ => False) [] Av nv cv (freeS C lk) x w16 (Nat.le_refl _) (OAgg.nil_ _ _ _ _ _) (hI2.below hbo16) (fun b e => by cases e) (by unfold I64; omega) (by simp)
        refine hti.mono ?_
        rintro e w17 ⟨vt', fp', rfl, hT17, hft', hvt', hF17⟩
        clear hti
        obtain ⟨Av', cv', rfl⟩ := hT17.slice
        have hb17 : Below w16.heap.size w16 w17 := Frame'.below (Below.refl _ _) hF17 (fun b e => by cases e) (Nat.le_refl _)
        have hbo17 := Below_trans' hbo16 hbo16.size hb17
        have hbw17 := Below_trans' hbw hbw.size hbo17
        have hR17 := hRo.below hbo17 hRo.lt
        have r0 := hR17.cell 0
        have r1 := hR17.cell 1
        have r2 := hR17.cell 2
        have f0 := hR17.free 0
        have f1 := hR17.free 1
        have f2 := hR17.free 2
        have hz6 : wo.heap.size < w6.heap.size := hL6.lt
        have hz13 := hb13.size
        have hz14 := hb14.size
        have hz16 := hb16.size
        have hzo := hb.size
        have hl6 := hL6.lt
        generalize hnt : (tiedS [] (freeS C lk) x).length = nw at *
        have Hnt := hide hnt
        clear hnt
        go_wp2
        refine retOut2 rfl rfl rfl (put3 hR17) rfl rfl ⟨_, 1, 1, _, 1, 1, Av', nw, cv', by rw [hE0.out]; rfl, ?_, below3 hbw17 (by omega) _ _ _⟩
        have hS : ∀ (W : World) (hW : Below W.heap.size W w17), Frame' (fun b => b = w.heap.size + 1) W (((w17.setCell ⟨w.heap.size + 1, 0, none⟩ (.slice (some ⟨wo.heap.size, 0, none⟩) 1 1)).setCell ⟨w.heap.size + 1, 1, none⟩ (.slice (some ⟨w14.heap.size + 1, 0, none⟩) 1 1)).setCell ⟨w.heap.size + 1, 2, none⟩ (.slice Av' nw cv')) := fun W hW => (Frame'.of_below hW).trans (frame3 w17 (w.heap.size + 1) _ _ _)
        have k17 := hS w17 (Below.refl _ _)
        have k16 := hS w16 hb17
        have k14 := hS w14 (Below_trans' hb16 hb16.size hb17)
        have k13 := hS w13 (Below_trans' hb1316 hb1316.size hb17)
        have k6 := hS w6 (Below_trans' hb616 hb616.size hb17)
        rw [hro.out, hpath.out]
        have hxI : ∀ z ∈ [x], I64 z := fun z hz => by rw [List.mem_singleton.1 hz]; unfold I64; omega
        refine ⟨ints_lit [x] (k6.has hL6 (by omega)) (by simp) hxI, ragg1 (k16.has hN16 (by omega)) rfl ?_, ?_⟩
        · refine ⟨A13, C, c13, _, _, _, _, 1, 1, none, 0, 0, rfl, ?_, ⟨An, nn, cn, Ad, nd, cd, rfl, ?_, ?_⟩, ints_lit [x] (k16.has hL15 (by omega)) (by simp) hxI, RInts.nil_ _⟩
          · exact (hO13.frame k13 (fun b hb e => by have := hf13 b hb; omega) (fun b hb e => by have := (hO13.lt hb).1; omega)).reads
          · exact hn14.frame k14 (fun b hb e => by have := hf14 b (.inl hb); omega)
          · exact hd14.frame k14 (fun b hb e => by have := hf14 b (.inr hb); omega)
        · exact (hT17.frame k17 (fun b hb e => by rcases hft' b hb with h | h; exact h; have := hown.out b h; omega) (fun b hb e => by have := (hT17.lt hb).1; omega)).reads
  · have e1 : (mayS c k l 1 seats 1 lot != 0) = true := by simp [hE]
    have hro := hide (rankR_bad hE)
    have q0 := hR1.cell 0
    have q1 := hR1.cell 1
    have q2 := hR1.cell 2
    have f0 := hR1.free 0
    have f1 := hR1.free 1
    have f2 := hR1.free 2
    go_wp2
    refine retOut2 rfl rfl rfl (put3 hR1) rfl rfl ⟨none, 0, 0, none, 0, 0, none, 0, 0, rfl, ?_, below3 hb01 (by omega) _ _ _⟩
    rw [hro.out]
    exact ROut.nil_ _
end Go.Proofs.YtolbceckbnifmaaGreat

namespace Go.Proofs.YtolbceckbnifmaaGreat
open Go.RowKit Go.Proofs

def ex14p : List Row := [([0, 1, 2], 3), ([1, 2, 0], 2), ([2, 0, 1], 2)]
def ex14m : M := fun x y => if x = 0 ∧ y = 1 then 5 else if x = 0 ∧ y = 2 then 3 else if x = 1 ∧ y = 0 then 2 else if x = 1 ∧ y = 2 then 5 else if x = 2 ∧ y = 0 then 4 else if x = 2 ∧ y = 1 then 2 else 0
def ex14l : List Lk := [(1, 2, 3, 5), (0, 1, 3, 5), (2, 0, 1, 4)]
def ex14k : List Lk := [(1, 2, 3, 5), (0, 1, 3, 5)]
theorem ex14_c : checkS 3 1 ex14p = 0 := by kernel_rfl
theorem ex14_of : matEq (ofR 3 1 ex14p) ex14m = true := by kernel_rfl
theorem ex14_e3 : ordErr ex14m 3 [2, 1, 0] = 0 := by kernel_rfl
theorem ex14_e2 : ordErr ex14m 3 [0, 1] = 2 := by kernel_rfl
theorem ex14_e8 : ordErr ex14m 2 [0, 1] = 8 := by kernel_rfl
theorem ex14_l : ordV ex14m 3 [2, 1, 0] = ex14l := by kernel_rfl
theorem ex14_k : lockV ex14m 3 [2, 1, 0] = ex14k := by kernel_rfl
theorem ex14_m1 : mayS 3 1 ex14p 1 1 1 [2, 1, 0] = 0 := by kernel_rfl
theorem ex14_m2 : mayS 3 1 ex14p 1 2 1 [2, 1, 0] = 2 := by kernel_rfl
theorem ex14_m3 : mayS 0 0 [] 1 1 1 [] = 8 := by kernel_rfl
theorem ex14_p1 : leadsB ex14k 0 2 = true := by kernel_rfl
theorem ex14_p2 : leadsB ex14k 2 0 = false := by kernel_rfl
theorem ex14_p3 : leadsB ex14k 0 0 = false := by kernel_rfl
theorem ex14_p4 : leadsB ex14l 0 0 = true := by kernel_rfl
def ex14o : Outc := ([0], [rndS [1, 1, 0] 0 [0] []], [])
theorem ex14_o : rankR 3 1 ex14p 1 [2, 1, 0] = ex14o := by kernel_rfl
theorem links_lit {w : World} {g : Nat} {t : TypeId} (l : List Lk) (h : Has w g t (l.flatMap lkv).toArray) (hi : ∀ k ∈ l, I64k k) (hn : l.length ≤ 1000) : RAgg ELnk 4 w (some ⟨g, 0, none⟩) l.length l.length l := by
  refine ⟨rfl, Nat.le_refl _, by omega, fun _ => ⟨g, 0, rfl, fun i hlt => ⟨lkv l[i], l[i], List.getElem?_eq_getElem hlt, rfl, fun j u hj => ?_, rfl, hi _ (List.getElem_mem hlt)⟩⟩⟩
  have hj4 : j < 4 := (List.getElem?_eq_some_iff.1 hj).1
  rw [h.cell, Nat.zero_add, List.getElem?_toArray, get_flat4 l i j hj4, List.getElem?_eq_getElem hlt]
  exact hj
end Go.Proofs.YtolbceckbnifmaaGreat

namespace Go.Proofs.YtolbceckbnifmaaGreat
open Go.RowKit Go.Proofs Go.Shelf
attribute [local go_sem] cell?_more cell?_alloc_some cell?_setCell_far frozen?_alloc_some frozen?_more
set_option maxRecDepth 100000 in
set_option maxHeartbeats 8000000 in
theorem wakes14_any (w0 : World) : Calls Tryz.prog 10 #[] w0 fun e w' => e = .returned (.bool true) ∧ Below w0.heap.size w0 w' := by
  have i64 : ∀ x : Int, 0 ≤ x → x ≤ 100 → I64 x := fun x h1 h2 => ⟨by omega, by omega⟩
  have I64s := hide i64
  clear i64
  go_enter Tryz.func10, Tryz.ntmps10
  have hb0 : Below w0.heap.size w0 (w0.alloc (.cells #[.int .i64 0, .int .i64 1, .int .i64 2] 3)) := below_allocN
  have ha1 := Has.new w0 3 #[.int .i64 0, .int .i64 1, .int .i64 2]
  generalize hW0 : World.alloc w0 _ = w1 at hb0 ha1
  have ga1 : w0.heap.size < w1.heap.size := ha1.lt
  have ra1 := lit3 ha1 (I64s.out _ (by decide) (by decide)) (I64s.out _ (by decide) (by decide)) (I64s.out _ (by decide) (by decide))
  have hb1 : Below w1.heap.size w1 (w1.alloc (.cells #[.int .i64 1, .int .i64 2, .int .i64 0] 3)) := below_allocN
  have ha2 := Has.new w1 3 #[.int .i64 1, .int .i64 2, .int .i64 0]
  generalize hW1 : World.alloc w1 _ = w2 at hb1 ha2
  have ga2 : w1.heap.size < w2.heap.size := ha2.lt
  have ra2 := lit3 ha2 (I64s.out _ (by decide) (by decide)) (I64s.out _ (by decide) (by decide)) (I64s.out _ (by decide) (by decide))
  have hb2 : Below w2.heap.size w2 (w2.alloc (.cells #[.int .i64 2, .int .i64 0, .int .i64 1] 3)) := below_allocN
  have ha3 := Has.new w2 3 #[.int .i64 2, .int .i64 0, .int .i64 1]
  generalize hW2 : World.alloc w2 _ = w3 at hb2 ha3
  have ga3 : w2.heap.size < w3.heap.size := ha3.lt
  have ra3 := lit3 ha3 (I64s.out _ (by decide) (by decide)) (I64s.out _ (by decide) (by decide)) (I64s.out _ (by decide) (by decide))
  have hb3 : Below w3.heap.size w3 (w3.alloc (.cells #[.slice (some ⟨w0.heap.size, 0, none⟩) 3 3, .int .i64 3, .slice (some ⟨w1.heap.size, 0, none⟩) 3 3, .int .i64 2, .slice (some ⟨w2.heap.size, 0, none⟩) 3 3, .int .i64 2] 80)) := below_allocN
  have hrw := Has.new w3 80 #[.slice (some ⟨w0.heap.size, 0, none⟩) 3 3, .int .i64 3, .slice (some ⟨w1.heap.size, 0, none⟩) 3 3, .int .i64 2, .slice (some ⟨w2.heap.size, 0, none⟩) 3 3, .int .i64 2]
  generalize hW3 : World.alloc w3 _ = w4 at hb3 hrw
  have grw : w3.heap.size < w4.heap.size := hrw.lt
  have hB2_4 := Below_trans' hb2 hb2.size hb3
  have hB1_4 := Below_trans' hb1 hb1.size hB2_4
  have rP := rows3 (ra1.below hB1_4) (ra2.below hB2_4) (ra3.below hb3) (I64s.out _ (by decide) (by decide)) (I64s.out _ (by decide) (by decide)) (I64s.out _ (by decide) (by decide)) hrw
  have hb4 : Below w4.heap.size w4 (w4.alloc (.cells #[.int .i64 3, .int .u8 1, .slice (some ⟨w3.heap.size, 0, none⟩) 3 3] 27)) := below_allocN
  have hp := Has.new w4 27 #[.int .i64 3, .int .u8 1, .slice (some ⟨w3.heap.size, 0, none⟩) 3 3]
  generalize hW4 : World.alloc w4 _ = w5 at hb4 hp
  have gp : w4.heap.size < w5.heap.size := hp.lt
  go_upto_region 2 with fail
  try simp only [hW0, hW1, hW2, hW3, hW4]
  clear hW0 hW1 hW2 hW3 hW4
  have hb5 : Below w5.heap.size w5 (w5.alloc (.cells #[.int .i64 2, .int .i64 1, .int .i64 0] 3)) := below_allocN
  have hl := Has.new w5 3 #[.int .i64 2, .int .i64 1, .int .i64 0]
  generalize hW5 : World.alloc w5 _ = w6 at hb5 hl
  have gl : w5.heap.size < w6.heap.size := hl.lt
  have rl := lit3 hl (I64s.out _ (by decide) (by decide)) (I64s.out _ (by decide) (by decide)) (I64s.out _ (by decide) (by decide))
  go_upto_region 3 with fail
  try simp only [hW5]
  clear hW5
  have cp_0 := (hp.below hb5 hp.lt).cell 0
  have cp_1 := (hp.below hb5 hp.lt).cell 1
  have cp_2 := (hp.below hb5 hp.lt).cell 2
  go_wp2_with fail
  have hB4_6 := Below_trans' hb4 hb4.size hb5
  have hof := pof_any 3 1 (some ⟨w3.heap.size, 0, none⟩) 3 3 ex14p w6 (rP.below hB4_6)
  unfold POfPost at hof
  refine (hof).mono ?_
  rintro e w7 ⟨D, rfl, hD0, hb6⟩
  clear cp_0 cp_1 cp_2
  clear hof
  rw [ex14_c]
  have hD : Mat D ex14m := hD0.congr (matEq_iff.1 ex14_of)
  have hDs := hD.size
  clear hD0
  go_upto_region 4 with (refine stMat rfl rfl rfl rfl (Has.new _ _ _) zeroMat.size hD.size hD.one ?_)
  have hb7 : Below w7.heap.size w7 ((w7.alloc (.cells Tryz.zeroCells24 24)).setRow w7.heap.size D) := below_setRow below_allocN (Nat.le_refl _) _
  have hm : Has ((w7.alloc (.cells Tryz.zeroCells24 24)).setRow w7.heap.size D) w7.heap.size 24 D := (Has.new _ _ _).setRow _
  generalize World.setRow (World.alloc w7 _) _ _ = w8 at hb7 hm ⊢
  have gm : w7.heap.size < w8.heap.size := hm.lt
  have ldm := hm
  go_wp2_with (refine ldMat rfl rfl rfl ldm hDs ?_)
  clear ldm
  have hB6_8 := Below_trans' hb6 hb6.size hb7
  refine (order_any D ex14m hD 3 (some ⟨w5.heap.size, 0, none⟩) 3 3 [2, 1, 0] w8 (rl.below hB6_8) (by decide)).mono ?_
  rintro e w9 ⟨vA, rfl, hvA, hb8⟩
  rw [ex14_l] at hvA
  rw [ex14_e3]
  obtain ⟨AA, cA, rfl⟩ := hvA.slice
  have rA : RAgg ELnk 4 w9 AA 3 cA ex14l := hvA.reads
  rw [show (ex14l : List Lk).length = 3 from rfl]
  clear hvA
  go_upto_region 5 with fail
  have ldm := (hm.below hb8 hm.lt)
  go_wp2_with (refine ldMat rfl rfl rfl ldm hDs ?_)
  clear ldm
  have hB7_9 := Below_trans' hb7 hb7.size hb8
  have hB6_9 := Below_trans' hb6 hb6.size hB7_9
  refine (lock_any D ex14m hD 3 (some ⟨w5.heap.size, 0, none⟩) 3 3 [2, 1, 0] w9 (rl.below hB6_9) (by decide)).mono ?_
  rintro e w10 ⟨vK, rfl, hvK, hb9⟩
  rw [ex14_k] at hvK
  rw [ex14_e3]
  obtain ⟨AK, cK, rfl⟩ := hvK.slice
  have rK : RAgg ELnk 4 w10 AK 2 cK ex14k := hvK.reads
  rw [show (ex14k : List Lk).length = 2 from rfl]
  clear hvK
  go_upto_region 6 with fail
  have hB8_10 := Below_trans' hb8 hb8.size hb9
  have hB7_10 := Below_trans' hb7 hb7.size hB8_10
  have hB6_10 := Below_trans' hb6 hb6.size hB7_10
  have hB5_10 := Below_trans' hb5 hb5.size hB6_10
  have cp_0 := (hp.below hB5_10 hp.lt).cell 0
  have cp_1 := (hp.below hB5_10 hp.lt).cell 1
  have cp_2 := (hp.below hB5_10 hp.lt).cell 2
  go_wp2_with fail
  have hB4_10 := Below_trans' hb4 hb4.size hB5_10
  refine (ranked_any 3 1 (some ⟨w3.heap.size, 0, none⟩) 3 3 ex14p 1 (some ⟨w5.heap.size, 0, none⟩) 3 3 [2, 1, 0] w10 (rP.below hB4_10) (rl.below hB6_10) (by decide)).mono ?_
  rintro e w11 ⟨E1, ne1, ce1, R1, nr1, cr1, V1, nv1, cv1, rfl, hO1, hb10⟩
  clear cp_0 cp_1 cp_2
  rw [ex14_o] at hO1
  rw [ex14_m1]
  have hb11 : Below w11.heap.size w11 (w11.alloc (.cells #[.slice E1 ne1 ce1, .slice R1 nr1 cr1, .slice V1 nv1 cv1] 39)) := below_allocN
  have ho1 := Has.new w11 39 #[.slice E1 ne1 ce1, .slice R1 nr1 cr1, .slice V1 nv1 cv1]
  generalize hW11 : World.alloc w11 _ = w12 at hb11 ho1
  have go1 : w11.heap.size < w12.heap.size := ho1.lt
  go_upto_region 7 with fail
  try simp only [hW11]
  clear hW11
  have hB10_12 := Below_trans' hb10 hb10.size hb11
  have hB9_12 := Below_trans' hb9 hb9.size hB10_12
  have hB8_12 := Below_trans' hb8 hb8.size hB9_12
  have hB7_12 := Below_trans' hb7 hb7.size hB8_12
  have hB6_12 := Below_trans' hb6 hb6.size hB7_12
  have hB5_12 := Below_trans' hb5 hb5.size hB6_12
  have cp_0 := (hp.below hB5_12 hp.lt).cell 0
  have cp_1 := (hp.below hB5_12 hp.lt).cell 1
  have cp_2 := (hp.below hB5_12 hp.lt).cell 2
  go_wp2_with fail
  have hB4_12 := Below_trans' hb4 hb4.size hB5_12
  refine (ranked_any 3 1 (some ⟨w3.heap.size, 0, none⟩) 3 3 ex14p 2 (some ⟨w5.heap.size, 0, none⟩) 3 3 [2, 1, 0] w12 (rP.below hB4_12) (rl.below hB6_12) (by decide)).mono ?_
  rintro e w13 ⟨E2, ne2, ce2, R2, nr2, cr2, V2, nv2, cv2, rfl, hO2, hb12⟩
  clear cp_0 cp_1 cp_2
  rw [rankR_bad (by rw [ex14_m2]; decide)] at hO2
  rw [ex14_m2]
  have hb13 : Below w13.heap.size w13 (w13.alloc (.cells #[.slice E2 ne2 ce2, .slice R2 nr2 cr2, .slice V2 nv2 cv2] 39)) := below_allocN
  have ho2 := Has.new w13 39 #[.slice E2 ne2 ce2, .slice R2 nr2 cr2, .slice V2 nv2 cv2]
  generalize hW13 : World.alloc w13 _ = w14 at hb13 ho2
  have go2 : w13.heap.size < w14.heap.size := ho2.lt
  go_upto_region 8 with fail
  try simp only [hW13]
  clear hW13
  go_wp2_with fail
  refine (ranked_any 0 0 none 0 0 [] 1 none 0 0 [] w14 (RRows.nil_ _) (RInts.nil_ _) (by decide)).mono ?_
  rintro e w15 ⟨E4, ne4, ce4, R4, nr4, cr4, V4, nv4, cv4, rfl, hO4, hb14⟩
  rw [ex14_m3]
  have hb15 : Below w15.heap.size w15 (w15.alloc (.cells #[.slice E4 ne4 ce4, .slice R4 nr4 cr4, .slice V4 nv4 cv4] 39)) := below_allocN
  have ho4 := Has.new w15 39 #[.slice E4 ne4 ce4, .slice R4 nr4 cr4, .slice V4 nv4 cv4]
  generalize hW15 : World.alloc w15 _ = w16 at hb15 ho4
  have go4 : w15.heap.size < w16.heap.size := ho4.lt
  go_upto_region 9 with fail
  try simp only [hW15]
  clear hW15
  have hB14_16 := Below_trans' hb14 hb14.size hb15
  have hB13_16 := Below_trans' hb13 hb13.size hB14_16
  have hB12_16 := Below_trans' hb12 hb12.size hB13_16
  have hB11_16 := Below_trans' hb11 hb11.size hB12_16
  have hB10_16 := Below_trans' hb10 hb10.size hB11_16
  have hB9_16 := Below_trans' hb9 hb9.size hB10_16
  have hB8_16 := Below_trans' hb8 hb8.size hB9_16
  have ldm := (hm.below hB8_16 hm.lt)
  have hb16 : Below w16.heap.size w16 (w16.alloc (.cells #[.int .i64 0, .int .i64 1] 3)) := below_allocN
  have hzX := Has.new w16 3 #[.int .i64 0, .int .i64 1]
  generalize hW16 : World.alloc w16 _ = w17 at hb16 hzX
  have gzX : w16.heap.size < w17.heap.size := hzX.lt
  have rzX := lit2 hzX (I64s.out _ (by decide) (by decide)) (I64s.out _ (by decide) (by decide))
  go_wp2_with (refine ldMat rfl rfl rfl ldm hDs ?_)
  try simp only [hW16]
  clear hW16
  clear ldm
  refine (order_any D ex14m hD 3 (some ⟨w16.heap.size, 0, none⟩) 2 2 [0, 1] w17 rzX (by decide)).mono ?_
  rintro e w18 ⟨vX, rfl, hvX, hb17⟩
  rw [ex14_e2]
  obtain ⟨AX, cX, rfl⟩ := hvX.slice
  clear hvX
  go_upto_region 10 with fail
  have hB16_18 := Below_trans' hb16 hb16.size hb17
  have hB15_18 := Below_trans' hb15 hb15.size hB16_18
  have hB14_18 := Below_trans' hb14 hb14.size hB15_18
  have hB13_18 := Below_trans' hb13 hb13.size hB14_18
  have hB12_18 := Below_trans' hb12 hb12.size hB13_18
  have hB11_18 := Below_trans' hb11 hb11.size hB12_18
  have hB10_18 := Below_trans' hb10 hb10.size hB11_18
  have hB9_18 := Below_trans' hb9 hb9.size hB10_18
  have hB8_18 := Below_trans' hb8 hb8.size hB9_18
  have ldm := (hm.below hB8_18 hm.lt)
  have hb18 : Below w18.heap.size w18 (w18.alloc (.cells #[.int .i64 0, .int .i64 1] 3)) := below_allocN
  have hzY := Has.new w18 3 #[.int .i64 0, .int .i64 1]
  generalize hW18 : World.alloc w18 _ = w19 at hb18 hzY
  have gzY : w18.heap.size < w19.heap.size := hzY.lt
  have rzY := lit2 hzY (I64s.out _ (by decide) (by decide)) (I64s.out _ (by decide) (by decide))
  go_wp2_with (refine ldMat rfl rfl rfl ldm hDs ?_)
  try simp only [hW18]
  clear hW18
  clear ldm
  refine (lock_any D ex14m hD 2 (some ⟨w18.heap.size, 0, none⟩) 2 2 [0, 1] w19 rzY (by decide)).mono ?_
  rintro e w20 ⟨vY, rfl, hvY, hb19⟩
  rw [ex14_e8]
  obtain ⟨AY, cY, rfl⟩ := hvY.slice
  clear hvY
  go_upto_region 11 with fail
  have hb20 : Below w20.heap.size w20 (w20.alloc (.cells #[.int .i64 1, .int .i64 2, .int .i64 3, .int .i64 5, .int .i64 0, .int .i64 1, .int .i64 3, .int .i64 5, .int .i64 2, .int .i64 0, .int .i64 1, .int .i64 4] 49)) := below_allocN
  have hal := Has.new w20 49 #[.int .i64 1, .int .i64 2, .int .i64 3, .int .i64 5, .int .i64 0, .int .i64 1, .int .i64 3, .int .i64 5, .int .i64 2, .int .i64 0, .int .i64 1, .int .i64 4]
  generalize hW20 : World.alloc w20 _ = w21 at hb20 hal
  have gal : w20.heap.size < w21.heap.size := hal.lt
  have rL : RAgg ELnk 4 w21 (some ⟨w20.heap.size, 0, none⟩) 3 3 ex14l := links_lit ex14l hal (by intro k hk; simp only [ex14l, List.mem_cons, List.not_mem_nil, or_false] at hk; rcases hk with rfl | rfl | rfl <;> exact ⟨(I64s.out _ (by decide) (by decide)), (I64s.out _ (by decide) (by decide)), (I64s.out _ (by decide) (by decide)), (I64s.out _ (by decide) (by decide))⟩) (by decide)
  go_upto_region 12 with fail
  try simp only [hW20]
  clear hW20
  have hb21 : Below w21.heap.size w21 (w21.alloc (.cells #[.int .i64 0] 3)) := below_allocN
  have hwe := Has.new w21 3 #[.int .i64 0]
  generalize hW21 : World.alloc w21 _ = w22 at hb21 hwe
  have gwe : w21.heap.size < w22.heap.size := hwe.lt
  have rwe := ints_lit [0] hwe (by decide) (fun z hz => by rw [List.mem_singleton.1 hz]; exact (I64s.out _ (by decide) (by decide)))
  have hb22 : Below w22.heap.size w22 (w22.alloc (.cells #[.int .i64 1, .int .i64 1, .int .i64 0] 3)) := below_allocN
  have hwh := Has.new w22 3 #[.int .i64 1, .int .i64 1, .int .i64 0]
  generalize hW22 : World.alloc w22 _ = w23 at hb22 hwh
  have gwh : w22.heap.size < w23.heap.size := hwh.lt
  have rwh := lit3 hwh (I64s.out _ (by decide) (by decide)) (I64s.out _ (by decide) (by decide)) (I64s.out _ (by decide) (by decide))
  go_wp2_with fail
  try simp only [hW21, hW22]
  clear hW21 hW22
  refine (rwholes_any (some ⟨w22.heap.size, 0, none⟩) 3 3 [1, 1, 0] w23 rwh (by decide) (by decide)).mono ?_
  rintro e w24 ⟨vW, fpW, rfl, hOW, hfW, hb23⟩
  obtain ⟨AW, cW, rfl⟩ := hOW.slice
  simp only [List.length_map, List.length_cons, List.length_nil] at hOW ⊢
  have rW := hOW.reads
  go_wp2_with fail
  refine (rwhole_any 0 w24 (by decide) (by decide)).mono ?_
  rintro e w25 ⟨An, nn, cn, Ad, nd, cd, rfl, hN, hDn, hb24, hfN⟩
  have hb25 : Below w25.heap.size w25 (w25.alloc (.cells #[.int .i64 0] 3)) := below_allocN
  have hwf := Has.new w25 3 #[.int .i64 0]
  generalize hW25 : World.alloc w25 _ = w26 at hb25 hwf
  have gwf : w25.heap.size < w26.heap.size := hwf.lt
  have rwf := ints_lit [0] hwf (by decide) (fun z hz => by rw [List.mem_singleton.1 hz]; exact (I64s.out _ (by decide) (by decide)))
  have hb26 : Below w26.heap.size w26 (w26.alloc (.cells #[.slice AW 3 cW, .bool false, .slice An nn cn, .slice Ad nd cd, .slice (some ⟨w25.heap.size, 0, none⟩) 1 1, .slice none 0 0] 65)) := below_allocN
  have hwr := Has.new w26 65 #[.slice AW 3 cW, .bool false, .slice An nn cn, .slice Ad nd cd, .slice (some ⟨w25.heap.size, 0, none⟩) 1 1, .slice none 0 0]
  generalize hW26 : World.alloc w26 _ = w27 at hb26 hwr
  have gwr : w26.heap.size < w27.heap.size := hwr.lt
  have hB25_27 := Below_trans' hb25 hb25.size hb26
  have hB24_27 := Below_trans' hb24 hb24.size hB25_27
  have rR := ragg1 (E := ERnd) (size := 6) (us := [.slice AW 3 cW, .bool false, .slice An nn cn, .slice Ad nd cd, .slice (some ⟨w25.heap.size, 0, none⟩) 1 1, .slice none 0 0]) (x := rndS [1, 1, 0] 0 [0] []) hwr rfl ⟨AW, 3, cW, _, _, _, _, 1, 1, none, 0, 0, rfl, (rW.below below_rat hB24_27), ⟨An, nn, cn, Ad, nd, cd, rfl, (hN.below hB25_27), (hDn.below hB25_27)⟩, (rwf.below hb26), RInts.nil_ _⟩
  go_upto_region 13 with fail
  try simp only [hW25, hW26]
  clear hW25 hW26
  have hb27 : Below w27.heap.size w27 (w27.alloc (.cells #[.slice (some ⟨w21.heap.size, 0, none⟩) 1 1, .slice (some ⟨w26.heap.size, 0, none⟩) 1 1, .slice none 0 0] 39)) := below_allocN
  have hx := Has.new w27 39 #[.slice (some ⟨w21.heap.size, 0, none⟩) 1 1, .slice (some ⟨w26.heap.size, 0, none⟩) 1 1, .slice none 0 0]
  generalize World.alloc w27 _ = w28 at hb27 hx ⊢
  have gx : w27.heap.size < w28.heap.size := hx.lt
  try simp only [List.append]
  go_wp2_with fail
  have hB26_28 := Below_trans' hb26 hb26.size hb27
  have hB25_28 := Below_trans' hb25 hb25.size hB26_28
  have hB24_28 := Below_trans' hb24 hb24.size hB25_28
  have hB23_28 := Below_trans' hb23 hb23.size hB24_28
  have hB22_28 := Below_trans' hb22 hb22.size hB23_28
  have hB21_28 := Below_trans' hb21 hb21.size hB22_28
  have hB20_28 := Below_trans' hb20 hb20.size hB21_28
  have hB19_28 := Below_trans' hb19 hb19.size hB20_28
  have hB18_28 := Below_trans' hb18 hb18.size hB19_28
  have hB17_28 := Below_trans' hb17 hb17.size hB18_28
  have hB16_28 := Below_trans' hb16 hb16.size hB17_28
  have hB15_28 := Below_trans' hb15 hb15.size hB16_28
  have hB14_28 := Below_trans' hb14 hb14.size hB15_28
  have hB13_28 := Below_trans' hb13 hb13.size hB14_28
  have hB12_28 := Below_trans' hb12 hb12.size hB13_28
  have hB11_28 := Below_trans' hb11 hb11.size hB12_28
  have hB10_28 := Below_trans' hb10 hb10.size hB11_28
  have hB9_28 := Below_trans' hb9 hb9.size hB10_28
  refine (same14_eq AA (some ⟨w20.heap.size, 0, none⟩) 3 cA 3 3 ex14l w28 (rA.below below_lnk hB9_28) (rL.below below_lnk hB21_28)).mono ?_
  rintro e w29 ⟨rfl, hb28⟩
  go_wp2_with fail
  have hB27_29 := Below_trans' hb27 hb27.size hb28
  have hB26_29 := Below_trans' hb26 hb26.size hB27_29
  have hB25_29 := Below_trans' hb25 hb25.size hB26_29
  have hB24_29 := Below_trans' hb24 hb24.size hB25_29
  have hB23_29 := Below_trans' hb23 hb23.size hB24_29
  have hB22_29 := Below_trans' hb22 hb22.size hB23_29
  have hB21_29 := Below_trans' hb21 hb21.size hB22_29
  have hB20_29 := Below_trans' hb20 hb20.size hB21_29
  have hB19_29 := Below_trans' hb19 hb19.size hB20_29
  have hB18_29 := Below_trans' hb18 hb18.size hB19_29
  have hB17_29 := Below_trans' hb17 hb17.size hB18_29
  have hB16_29 := Below_trans' hb16 hb16.size hB17_29
  have hB15_29 := Below_trans' hb15 hb15.size hB16_29
  have hB14_29 := Below_trans' hb14 hb14.size hB15_29
  have hB13_29 := Below_trans' hb13 hb13.size hB14_29
  have hB12_29 := Below_trans' hb12 hb12.size hB13_29
  have hB11_29 := Below_trans' hb11 hb11.size hB12_29
  have hB10_29 := Below_trans' hb10 hb10.size hB11_29
  refine (same14_eq AK (some ⟨w20.heap.size, 0, none⟩) 2 cK 2 3 ex14k w29 (rK.below below_lnk hB10_29) ((rL.below below_lnk hB21_29).takes (k := 2) (by decide))).mono ?_
  rintro e w30 ⟨rfl, hb29⟩
  have hB28_30 := Below_trans' hb28 hb28.size hb29
  have hB27_30 := Below_trans' hb27 hb27.size hB28_30
  have hB26_30 := Below_trans' hb26 hb26.size hB27_30
  have hB25_30 := Below_trans' hb25 hb25.size hB26_30
  have hB24_30 := Below_trans' hb24 hb24.size hB25_30
  have hB23_30 := Below_trans' hb23 hb23.size hB24_30
  have hB22_30 := Below_trans' hb22 hb22.size hB23_30
  have hB21_30 := Below_trans' hb21 hb21.size hB22_30
  have hB20_30 := Below_trans' hb20 hb20.size hB21_30
  have hB19_30 := Below_trans' hb19 hb19.size hB20_30
  have hB18_30 := Below_trans' hb18 hb18.size hB19_30
  have hB17_30 := Below_trans' hb17 hb17.size hB18_30
  have hB16_30 := Below_trans' hb16 hb16.size hB17_30
  have hB15_30 := Below_trans' hb15 hb15.size hB16_30
  have hB14_30 := Below_trans' hb14 hb14.size hB15_30
  have hB13_30 := Below_trans' hb13 hb13.size hB14_30
  have hB12_30 := Below_trans' hb12 hb12.size hB13_30
  have co1_0 := (ho1.below hB12_30 ho1.lt).cell 0
  have co1_1 := (ho1.below hB12_30 ho1.lt).cell 1
  have co1_2 := (ho1.below hB12_30 ho1.lt).cell 2
  have cx_0 := (hx.below hB28_30 hx.lt).cell 0
  have cx_1 := (hx.below hB28_30 hx.lt).cell 1
  have cx_2 := (hx.below hB28_30 hx.lt).cell 2
  go_wp2_with fail
  have hB11_30 := Below_trans' hb11 hb11.size hB12_30
  refine (same_eq _ _ _ _ _ _ _ _ _ _ _ _ _ _ _ _ _ _ ex14o w30 (hO1.below hB11_30) ⟨(rwe.below hB22_30), (rR.below below_rnd hB27_30), RAgg.nil_ _ _ _⟩).mono ?_
  rintro e w31 ⟨rfl, hb30⟩
  clear co1_0 co1_1 co1_2 cx_0 cx_1 cx_2
  go_wp2_with fail
  have hB29_31 := Below_trans' hb29 hb29.size hb30
  have hB28_31 := Below_trans' hb28 hb28.size hB29_31
  have hB27_31 := Below_trans' hb27 hb27.size hB28_31
  have hB26_31 := Below_trans' hb26 hb26.size hB27_31
  have hB25_31 := Below_trans' hb25 hb25.size hB26_31
  have hB24_31 := Below_trans' hb24 hb24.size hB25_31
  have hB23_31 := Below_trans' hb23 hb23.size hB24_31
  have hB22_31 := Below_trans' hb22 hb22.size hB23_31
  have hB21_31 := Below_trans' hb21 hb21.size hB22_31
  have hB20_31 := Below_trans' hb20 hb20.size hB21_31
  have hB19_31 := Below_trans' hb19 hb19.size hB20_31
  have hB18_31 := Below_trans' hb18 hb18.size hB19_31
  have hB17_31 := Below_trans' hb17 hb17.size hB18_31
  have hB16_31 := Below_trans' hb16 hb16.size hB17_31
  have hB15_31 := Below_trans' hb15 hb15.size hB16_31
  have hB14_31 := Below_trans' hb14 hb14.size hB15_31
  have hB13_31 := Below_trans' hb13 hb13.size hB14_31
  have hB12_31 := Below_trans' hb12 hb12.size hB13_31
  have hB11_31 := Below_trans' hb11 hb11.size hB12_31
  have hB10_31 := Below_trans' hb10 hb10.size hB11_31
  refine (leads_any AK 2 cK ex14k 0 2 w31 (rK.below below_lnk hB10_31) (by decide)).mono ?_
  rintro e w32 ⟨rfl, hb31⟩
  rw [ex14_p1]
  go_wp2_with fail
  have hB30_32 := Below_trans' hb30 hb30.size hb31
  have hB29_32 := Below_trans' hb29 hb29.size hB30_32
  have hB28_32 := Below_trans' hb28 hb28.size hB29_32
  have hB27_32 := Below_trans' hb27 hb27.size hB28_32
  have hB26_32 := Below_trans' hb26 hb26.size hB27_32
  have hB25_32 := Below_trans' hb25 hb25.size hB26_32
  have hB24_32 := Below_trans' hb24 hb24.size hB25_32
  have hB23_32 := Below_trans' hb23 hb23.size hB24_32
  have hB22_32 := Below_trans' hb22 hb22.size hB23_32
  have hB21_32 := Below_trans' hb21 hb21.size hB22_32
  have hB20_32 := Below_trans' hb20 hb20.size hB21_32
  have hB19_32 := Below_trans' hb19 hb19.size hB20_32
  have hB18_32 := Below_trans' hb18 hb18.size hB19_32
  have hB17_32 := Below_trans' hb17 hb17.size hB18_32
  have hB16_32 := Below_trans' hb16 hb16.size hB17_32
  have hB15_32 := Below_trans' hb15 hb15.size hB16_32
  have hB14_32 := Below_trans' hb14 hb14.size hB15_32
  have hB13_32 := Below_trans' hb13 hb13.size hB14_32
  have hB12_32 := Below_trans' hb12 hb12.size hB13_32
  have hB11_32 := Below_trans' hb11 hb11.size hB12_32
  have hB10_32 := Below_trans' hb10 hb10.size hB11_32
  refine (leads_any AK 2 cK ex14k 2 0 w32 (rK.below below_lnk hB10_32) (by decide)).mono ?_
  rintro e w33 ⟨rfl, hb32⟩
  rw [ex14_p2]
  go_wp2_with fail
  have hB31_33 := Below_trans' hb31 hb31.size hb32
  have hB30_33 := Below_trans' hb30 hb30.size hB31_33
  have hB29_33 := Below_trans' hb29 hb29.size hB30_33
  have hB28_33 := Below_trans' hb28 hb28.size hB29_33
  have hB27_33 := Below_trans' hb27 hb27.size hB28_33
  have hB26_33 := Below_trans' hb26 hb26.size hB27_33
  have hB25_33 := Below_trans' hb25 hb25.size hB26_33
  have hB24_33 := Below_trans' hb24 hb24.size hB25_33
  have hB23_33 := Below_trans' hb23 hb23.size hB24_33
  have hB22_33 := Below_trans' hb22 hb22.size hB23_33
  have hB21_33 := Below_trans' hb21 hb21.size hB22_33
  have hB20_33 := Below_trans' hb20 hb20.size hB21_33
  have hB19_33 := Below_trans' hb19 hb19.size hB20_33
  have hB18_33 := Below_trans' hb18 hb18.size hB19_33
  have hB17_33 := Below_trans' hb17 hb17.size hB18_33
  have hB16_33 := Below_trans' hb16 hb16.size hB17_33
  have hB15_33 := Below_trans' hb15 hb15.size hB16_33
  have hB14_33 := Below_trans' hb14 hb14.size hB15_33
  have hB13_33 := Below_trans' hb13 hb13.size hB14_33
  have hB12_33 := Below_trans' hb12 hb12.size hB13_33
  have hB11_33 := Below_trans' hb11 hb11.size hB12_33
  have hB10_33 := Below_trans' hb10 hb10.size hB11_33
  refine (leads_any AK 2 cK ex14k 0 0 w33 (rK.below below_lnk hB10_33) (by decide)).mono ?_
  rintro e w34 ⟨rfl, hb33⟩
  rw [ex14_p3]
  go_wp2_with fail
  have hB32_34 := Below_trans' hb32 hb32.size hb33
  have hB31_34 := Below_trans' hb31 hb31.size hB32_34
  have hB30_34 := Below_trans' hb30 hb30.size hB31_34
  have hB29_34 := Below_trans' hb29 hb29.size hB30_34
  have hB28_34 := Below_trans' hb28 hb28.size hB29_34
  have hB27_34 := Below_trans' hb27 hb27.size hB28_34
  have hB26_34 := Below_trans' hb26 hb26.size hB27_34
  have hB25_34 := Below_trans' hb25 hb25.size hB26_34
  have hB24_34 := Below_trans' hb24 hb24.size hB25_34
  have hB23_34 := Below_trans' hb23 hb23.size hB24_34
  have hB22_34 := Below_trans' hb22 hb22.size hB23_34
  have hB21_34 := Below_trans' hb21 hb21.size hB22_34
  refine (leads_any (some ⟨w20.heap.size, 0, none⟩) 3 3 ex14l 0 0 w34 (rL.below below_lnk hB21_34) (by decide)).mono ?_
  rintro e w35 ⟨rfl, hb34⟩
  rw [ex14_p4]
  go_wp2
  go_ret
  have hB33_35 := Below_trans' hb33 hb33.size hb34
  have hB32_35 := Below_trans' hb32 hb32.size hB33_35
  have hB31_35 := Below_trans' hb31 hb31.size hB32_35
  have hB30_35 := Below_trans' hb30 hb30.size hB31_35
  have hB29_35 := Below_trans' hb29 hb29.size hB30_35
  have hB28_35 := Below_trans' hb28 hb28.size hB29_35
  have hB27_35 := Below_trans' hb27 hb27.size hB28_35
  have hB26_35 := Below_trans' hb26 hb26.size hB27_35
  have hB25_35 := Below_trans' hb25 hb25.size hB26_35
  have hB24_35 := Below_trans' hb24 hb24.size hB25_35
  have hB23_35 := Below_trans' hb23 hb23.size hB24_35
  have hB22_35 := Below_trans' hb22 hb22.size hB23_35
  have hB21_35 := Below_trans' hb21 hb21.size hB22_35
  have hB20_35 := Below_trans' hb20 hb20.size hB21_35
  have hB19_35 := Below_trans' hb19 hb19.size hB20_35
  have hB18_35 := Below_trans' hb18 hb18.size hB19_35
  have hB17_35 := Below_trans' hb17 hb17.size hB18_35
  have hB16_35 := Below_trans' hb16 hb16.size hB17_35
  have hB15_35 := Below_trans' hb15 hb15.size hB16_35
  have hB14_35 := Below_trans' hb14 hb14.size hB15_35
  have hB13_35 := Below_trans' hb13 hb13.size hB14_35
  have hB12_35 := Below_trans' hb12 hb12.size hB13_35
  have hB11_35 := Below_trans' hb11 hb11.size hB12_35
  have hB10_35 := Below_trans' hb10 hb10.size hB11_35
  have hB9_35 := Below_trans' hb9 hb9.size hB10_35
  have hB8_35 := Below_trans' hb8 hb8.size hB9_35
  have hB7_35 := Below_trans' hb7 hb7.size hB8_35
  have hB6_35 := Below_trans' hb6 hb6.size hB7_35
  have hB5_35 := Below_trans' hb5 hb5.size hB6_35
  have hB4_35 := Below_trans' hb4 hb4.size hB5_35
  have hB3_35 := Below_trans' hb3 hb3.size hB4_35
  have hB2_35 := Below_trans' hb2 hb2.size hB3_35
  have hB1_35 := Below_trans' hb1 hb1.size hB2_35
  have hB0_35 := Below_trans' hb0 hb0.size hB1_35
  exact ⟨rfl, hB0_35⟩
end Go.Proofs.YtolbceckbnifmaaGreat

namespace Go.Proofs.YtolbceckbnifmaaGreat
open Go.RowKit Go.Proofs Go.Shelf
attribute [local go_sem] cell?_more cell?_alloc_some cell?_setCell_far frozen?_alloc_some frozen?_more
theorem one14_any (c k : Int) (A : Option Addr) (n cp : Nat) (l : List Row) (At : Option Addr) (nt ct : Nat) (lot : List Int) (w : World) (h : RRows w A n cp l) (h' : RInts w At nt ct lot) :
    Calls Tryz.prog 27 #[.agg #[.int .i64 c, .int .u8 k, .slice A n cp], .slice At nt ct] w fun e w' => e = .returned (.bool (mayS c k l 1 1 1 lot == 0)) ∧ Below w.heap.size w w' := by
  have hb0 : Below w.heap.size w (w.alloc (.cells #[.int .i64 c, .int .u8 k, .slice A n cp] 27)) := below_allocN
  have hP0 := Has.new w 27 #[.int .i64 c, .int .u8 k, .slice A n cp]
  generalize hW : World.alloc w _ = W0 at hb0 hP0
  have p0 := hP0.cell 0
  have p1 := hP0.cell 1
  have p2 := hP0.cell 2
  go_enter Tryz.func27, Tryz.ntmps27
  go_wp2_with fail
  try simp only [hW]
  clear hW
  refine (may_any c k A n cp l 1 1 1 At nt ct lot W0 (h.below hb0) (h'.below hb0)).mono ?_
  rintro e w1 ⟨rfl, hb1⟩
  go_wp2
  go_ret
  exact ⟨rfl, Below_trans' hb0 hb0.size hb1⟩
theorem may14_any (C : Array Value) (m : M) (hC : Mat C m) (c : Int) (A : Option Addr) (n cp : Nat) (lot : List Int) (w : World) (h : RInts w A n cp lot) :
    Calls Tryz.prog 24 #[.agg C, .int .i64 c, .slice A n cp] w fun e w' => e = .returned (.bool (rightS m c && lotS lot c)) ∧ Below w.heap.size w w' := by
  have hs := hC.size
  have hA0 : Has (w.alloc (.cells C 24)) w.heap.size 24 C := Has.new _ _ _
  have hb0 : Below w.heap.size w (w.alloc (.cells C 24)) := (Below.refl _ _).alloc (Nat.le_refl _) _
  generalize hW : World.alloc w (.cells C 24) = W at *
  go_enter Tryz.func24, Tryz.ntmps24
  go_upto_region 1 with fail
  try rw [hW]
  clear hW
  go_wp2_with (refine ldMat rfl rfl rfl hA0 hs ?_)
  refine (rright_any C m hC c W).mono ?_
  rintro e w1 ⟨rfl, hb1⟩
  have hb01 := Below_trans' hb0 hb0.size hb1
  have hlot := rlot_any A n cp lot c w1 (h.below hb01)
  cases e1 : rightS m c with
  | false =>
    go_wp2
    go_ret
    exact ⟨ret_b (by rw [e1]; rfl), hb01⟩
  | true =>
    go_wp2_with fail
    refine hlot.mono ?_
    rintro e w2 ⟨rfl, rfl⟩
    go_wp2
    go_ret
    exact ⟨ret_b (by rw [e1]; simp), hb01⟩
end Go.Proofs.YtolbceckbnifmaaGreat
