/-
  The law RankedOrder.
-/
import Derived.Test.YtolbceckbnifmaaGreatW14q
import Derived.Test.YtolbceckbnifmaaGreatSpecSt
namespace Go.Proofs.YtolbceckbnifmaaGreat
open Go.RowKit Go.Proofs Go.Shelf
attribute [local go_sem] cell?_more cell?_alloc_some cell?_setCell_far frozen?_alloc_some frozen?_more
set_option maxRecDepth 100000 in
set_option maxHeartbeats 8000000 in
theorem rankedOrder_any (C : Array Value) (m : M) (hC : Mat C m) (c : Int) (A : Option Addr) (n cp : Nat) (lot : List Int) (w : World) (h : RInts w A n cp lot) :
    Calls Tryz.prog 6 #[.agg C, .int .i64 c, .slice A n cp] w fun e w' => e = .returned (.bool true) ∧ Below w.heap.size w w' := by
  have hs := hC.size
  have hM : Has (w.alloc (.cells C 24)) w.heap.size 24 C := Has.new _ _ _
  have hb0 : Below w.heap.size w (w.alloc (.cells C 24)) := (Below.refl _ _).alloc (Nat.le_refl _) _
  go_enter Tryz.func6, Tryz.ntmps6
  go_upto_region 1 with fail
  generalize World.alloc w _ = W at *
  go_wp2_with (refine ldMat rfl rfl rfl hM hs ?_)
  refine (may14_any C m hC c A n cp lot W (h.below hb0)).mono ?_
  rintro e w1 ⟨rfl, hb1⟩
  have hbw1 := Below_trans' hb0 hb0.size hb1
  replace hM := hM.below hb1 hM.lt
  cases hr : rightS m c && lotS lot c with
  | false =>
    clear hr
    go_wp2_with fail
    refine (wakes14_any _).mono ?_
    rintro e w9 ⟨rfl, hb9⟩
    go_wp2
    go_ret
    exact ⟨rfl, Below_trans' hbw1 (hbw1).size hb9⟩
  | true =>
    rw [Bool.and_eq_true] at hr
    have hc := rightS_iff.1 hr.1
    obtain ⟨K, rfl⟩ : ∃ K : Nat, c = K := ⟨c.toNat, by omega⟩
    have hK10 : K ≤ 10 := by omega
    have hE := ordErr_ok (m := m) (c := K) (lot := lot) (by omega) hr.2 hr.1
    have hLP := lotP_of hr.2
    have hnK : n ≤ 1000 := by
      have h1 := hr.2
      unfold lotS at h1
      rw [Bool.and_eq_true, decide_eq_true_eq] at h1
      have := h.len
      omega
    have hr10 := hide (right_ten hr.1)
    have Hb := hide (right_bd hr.1)
    have hod := hide (ordV_ok hE)
    have h45 := lnkO_45 (m := m) hLP hK10
    have hlk := hide (fun (k : Lk) (hk : k ∈ lnkO m lot K) => lnkO_link hLP hk)
    have hnx := hide (fun (i : Nat) (h k : Lk) (hi : (lnkO m lot K)[i]? = some h) (hk : (lnkO m lot K)[i + 1]? = some k) => lnkO_next hLP hi hk)
    have hll := hide (lnkO_length (m := m) hLP)
    have HE := hide hE
    clear hr hc hE hLP
    have ldm := hM
    go_wp2_with (refine ldMat rfl rfl rfl ldm hs ?_)
    refine (order_any C m hC K A n cp lot w1 (h.below hbw1) hnK).mono ?_
    rintro e w2 ⟨va, rfl, hO2, hb2⟩
    rw [hod.out] at hO2
    rw [HE.out]
    have hbw2 := Below_trans' hbw1 hbw1.size hb2
    have hM2 := hM.below hb2 hM.lt
    clear ldm hM HE hod
    generalize lnkO m lot K = all at *
    obtain ⟨Aa, ca, rfl⟩ := hO2.slice
    have hRa := hO2.reads
    obtain ⟨N, hN⟩ : ∃ N, all.length = N := ⟨_, rfl⟩
    rw [hN] at hRa h45 ⊢
    have HN := hide hN
    rw [hN] at hll
    clear hO2 hN hb1 hb2 hb0
    go_wp2_with fail
    go_loopw [9, 10] (fun u s wr => ∃ X : Nat, X ≤ K ∧ s = .int .i64 X ∧ u = .int .i64 ((rawL m ((rangeI K).take X) (rangeI K)).length : Nat) ∧ Below w2.heap.size w2 wr) (fun _ s _ => K - (intOf s).toNat)
    case atStart => exact ⟨0, Nat.zero_le _, rfl, rfl, Below.refl _ _⟩
    case round =>
      obtain ⟨X, hX, rfl, rfl, hb⟩ := hrel
      by_cases hlt : X < K
      · have hnr := congrArg List.length (rawL_next (m := m) (ys := rangeI K) (get_rangeI hlt))
        rw [List.length_append] at hnr
        have hL0 : (rawL m ((rangeI K).take X) (rangeI K)).length ≤ 100 := by
          have h1 := raw_len (m := m) (xs := (rangeI K).take X) (ys := rangeI K)
          have h2 : ((rangeI K).take X).length * (rangeI K).length ≤ 10 * 10 := Nat.mul_le_mul (by rw [List.length_take, length_rangeI]; omega) (by rw [length_rangeI]; omega)
          omega
        have HNR := hide hnr
        clear hnr
        generalize (rawL m ((rangeI K).take X) (rangeI K)).length = r0 at *
        obtain ⟨wx, rfl⟩ : ∃ wx : World, wx = wr := ⟨_, rfl⟩
        go_wp2_with fail
        go_loopw [9, 11] (fun u s wr => ∃ Y : Nat, Y ≤ K ∧ s = .int .i64 Y ∧ u = .int .i64 (r0 + (rawRow m ((rangeI K).take Y) (X : Int)).length : Nat) ∧ Below w2.heap.size w2 wr) (fun _ s _ => K - (intOf s).toNat)
        case atStart => exact ⟨0, Nat.zero_le _, rfl, rfl, hb⟩
        case round =>
          clear hb
          obtain ⟨Y, hY, rfl, rfl, hb⟩ := hrel
          by_cases hltY : Y < K
          · have hnj := hide (rawRow_next (m := m) (x := (X : Int)) (get_rangeI hltY))
            have hrl : (rawRow m ((rangeI K).take Y) (X : Int)).length ≤ 10 := by
              have h2 := rawRow_len (m := m) (ys := (rangeI K).take Y) (x := (X : Int))
              rw [List.length_take, length_rangeI] at h2
              omega
            have hbt : Hid (decide (0 < marginS m (X : Int) (Y : Int)) = beatI m (X : Int) (Y : Int)) := by
              unfold Hid
              rw [margin_three (by omega) (by omega) hr10.out]
              unfold beatI
              rw [decide_eq_decide]
              simp
            have hMr := hM2.below hb hM2.lt
            go_wp2_with (refine ldMat rfl rfl rfl hMr hs ?_)
            refine (beats_any C m hC (X : Int) (Y : Int) wr).mono ?_
            rintro e w4 ⟨rfl, hb4⟩
            rw [hbt.out]
            have hb5 := Below_trans' hb hb.size hb4
            clear hMr
            cases hbe : beatI m (X : Int) (Y : Int) with
            | true =>
              have hl2 : Hid ((rawRow m ((rangeI K).take (Y + 1)) (X : Int)).length = (rawRow m ((rangeI K).take Y) (X : Int)).length + 1) := by unfold Hid; rw [hnj.out, if_pos hbe]; simp
              clear hbe hnj hbt
              generalize (rawRow m ((rangeI K).take Y) (X : Int)).length = r1 at *
              go_wp2
              go_roundw
              case rel => exact ⟨Y + 1, by omega, by go_num, by rw [hl2.out]; go_num, hb5⟩
              case measure => simp [intOf] <;> omega
            | false =>
              have hl2 : Hid ((rawRow m ((rangeI K).take (Y + 1)) (X : Int)).length = (rawRow m ((rangeI K).take Y) (X : Int)).length) := by unfold Hid; rw [hnj.out, if_neg (by rw [hbe]; simp)]
              clear hbe hnj hbt
              generalize (rawRow m ((rangeI K).take Y) (X : Int)).length = r1 at *
              go_wp2
              go_roundw
              case rel => exact ⟨Y + 1, by omega, by go_num, by rw [hl2.out]; go_num, hb5⟩
              case measure => simp [intOf] <;> omega
          · obtain rfl : Y = K := by omega
            have e : Hid ((rangeI Y).take Y = rangeI Y) := List.take_of_length_le (by rw [length_rangeI]; exact Nat.le_refl _)
            rw [e.out, ← HNR.out]
            go_wp2
            go_roundw
            case rel => exact ⟨X + 1, by omega, by go_num, rfl, hb⟩
            case measure => simp [intOf] <;> omega
      · obtain rfl : X = K := by omega
        have e : Hid ((rangeI X).take X = rangeI X) := List.take_of_length_le (by rw [length_rangeI]; exact Nat.le_refl _)
        rw [e.out, ← hll.out]
        obtain ⟨wE, rfl⟩ : ∃ wE : World, wE = wr := ⟨_, rfl⟩
        have hbE := Below_trans' hbw2 hbw2.size hb
        have hRE := hRa.below below_lnk hb
        have hME := hM2.below hb hM2.lt
        have hlotE := h.below hbE
        clear hb hRa hM2 hbw2
        go_wp2_with fail
        go_loopw [12] (fun s wr => ∃ i : Nat, i ≤ N ∧ s = .int .i64 i ∧ Below wE.heap.size wE wr) (fun s _ => N - (intOf s).toNat)
        case atStart => exact ⟨0, Nat.zero_le _, rfl, Below.refl _ _⟩
        case round =>
          obtain ⟨i, hi, rfl, hb⟩ := hrel
          by_cases hlti : i < N
          · obtain ⟨b, off, x, y, mg, f, rfl, c0, c1, c2, c3, hat, _⟩ := (hRE.below below_lnk hb).lnk hlti
            have hq := hlk.out _ (List.mem_of_getElem? hat.out)
            simp only at hq
            obtain ⟨⟨x0, x1⟩, ⟨y0, y1⟩, hbeat, hdef, _⟩ := hq
            obtain ⟨P, rfl⟩ : ∃ P : Nat, x = (P : Int) := ⟨x.toNat, by omega⟩
            obtain ⟨R, rfl⟩ : ∃ R : Nat, y = (R : Int) := ⟨y.toNat, by omega⟩
            have hP10 : P < 10 := by omega
            have hR10 : R < 10 := by omega
            have e3 : mg = m P R - m R P := by have := congrArg (fun k : Lk => k.2.2.1) hdef; simpa [lkM] using this
            have e4 : f = m P R := by have := congrArg (fun k : Lk => k.2.2.2) hdef; simpa [lkM] using this
            have hbx := Hb.out P R hP10 hR10
            have hby := Hb.out R P hR10 hP10
            rw [Int.toNat_natCast, Int.toNat_natCast] at hbeat
            have hMr := hME.below hb hME.lt
            have p0 := (hMr.cell (P * 10 + R)).trans (hC.at_ P R hP10 hR10)
            have p1 := (hMr.cell (R * 10 + P)).trans (hC.at_ R P hR10 hP10)
            subst e3 e4
            have Hat := hide hat.out
            clear hdef hat hMr
            generalize hu : m P R = u at *
            generalize hz : m R P = z at *
            have Hu := hide hu
            have Hz := hide hz
            clear hu hz
            have hba : Below wr.heap.size wr (wr.alloc (.cells #[.int .i64 (P : Int), .int .i64 (R : Int), .int .i64 (u - z), .int .i64 u] 49)) := (Below.refl _ _).alloc (Nat.le_refl _) _
            have hkn := Has.new wr 49 #[.int .i64 (P : Int), .int .i64 (R : Int), .int .i64 (u - z), .int .i64 u]
            have n1 : ¬ (X : Int) ≤ (P : Int) := by omega
            have n2 : ¬ (X : Int) ≤ (R : Int) := by omega
            have n3 : ¬ u - z < 1 := by omega
            have n6 : decide ((P : Int) < 0) = false := decide_eq_false (by omega)
            have n7 : decide ((R : Int) < 0) = false := decide_eq_false (by omega)
            have n8 : decide ((X : Int) ≤ (P : Int)) = false := decide_eq_false (by omega)
            have n9 : decide ((X : Int) ≤ (R : Int)) = false := decide_eq_false (by omega)
            have n4 : (P : Int) < 10 := by omega
            have n5 : (R : Int) < 10 := by omega
            go_upto_region 19 with fail
            generalize World.alloc wr _ = W2 at *
            have hb2 := Below_trans' hb hb.size hba
            have q0 := keep_cell hba p0
            have q1 := keep_cell hba p1
            have hk0 := hkn.cell 0
            have hk1 := hkn.cell 1
            have hk2 := hkn.cell 2
            have hk3x := hkn.cell 3
            clear p0 p1 c0 c1 c2 c3
            refine wp_region_more (by kernel_rfl) (by kernel_rfl) ?_
            repeat (go_big_quiet_step (fail))
            refine wpQuiet_nil ?_
            rintro w3 ⟨qw3, hww3⟩
            have hbw3 := below_of_eq hww3
            clear hww3 qw3
            have hb3 := Below_trans' hb2 hb2.size hbw3
            have hk3 := hkn.below hbw3 hkn.lt
            clear q0 q1 hk0 hk1 hk2 hk3x hkn
            by_cases hi0 : i = 0
            · have hi0' : ((i : Int) == 0) = true := by rw [beq_iff_eq]; omega
              clear hi0
              go_wp2
              go_roundw
              case rel => exact ⟨i + 1, by omega, by go_num, hb3⟩
              case measure => simp [intOf] <;> omega
            · have hi0' : ((i : Int) == 0) = false := by rw [beq_eq_false_iff_ne]; omega
              obtain ⟨j, hj⟩ : ∃ j, j + 1 = i := ⟨i - 1, by omega⟩
              have ej : (i : Int) - 1 = (j : Int) := by omega
              have hjN : j < N := by omega
              have hjN' : (j : Int) < (N : Int) := by omega
              obtain ⟨b', off', hx, hy, hmg, hf, e', d0, d1, d2, d3, hatj, _⟩ := (hRE.below below_lnk hb3).lnk hjN
              cases e'
              have hn := hnx.out j _ _ hatj.out (by rw [hj]; exact Hat.out)
              simp only at hn
              obtain ⟨o1, o2, o3⟩ := hn
              have hqj := hlk.out _ (List.mem_of_getElem? hatj.out)
              simp only at hqj
              obtain ⟨⟨hx0, hx1⟩, ⟨hy0, hy1⟩, -⟩ := hqj
              clear hatj hi0 hj
              have hbb : Below w3.heap.size w3 (w3.alloc (.cells #[.int .i64 hx, .int .i64 hy, .int .i64 hmg, .int .i64 hf] 49)) := (Below.refl _ _).alloc (Nat.le_refl _) _
              have hhn := Has.new w3 49 #[.int .i64 hx, .int .i64 hy, .int .i64 hmg, .int .i64 hf]
              go_upto_region 23 with fail
              generalize World.alloc w3 _ = W4 at *
              have hb4 := Below_trans' hb3 hb3.size hbb
              have hk4 := hk3.below hbb hk3.lt
              clear d0 d1 d2 d3 hk3
              have k0 := hk4.cell 0
              have k1 := hk4.cell 1
              have k2 := hk4.cell 2
              have k3 := hk4.cell 3
              have g0 := hhn.cell 0
              have g1 := hhn.cell 1
              have g2 := hhn.cell 2
              have g3 := hhn.cell 3
              have m1 : ¬ hmg < u - z := by omega
              by_cases em : hmg = u - z
              · have em' : (hmg == u - z) = true := by rw [beq_iff_eq]; exact em
                have m2 : ¬ hf < u := by have := o2 em; omega
                by_cases ef : hf = u
                · have ef' : (hf == u) = true := by rw [beq_iff_eq]; exact ef
                  obtain ⟨p1, p2⟩ := o3 em ef
                  have P1 := hide p1
                  have P2 := hide p2
                  clear o1 o2 o3 em ef p1 p2
                  have hlot4 := hlotE.below hb4
                  by_cases ex : hx = (P : Int)
                  · have ex' : (hx == (P : Int)) = true := by rw [beq_iff_eq]; exact ex
                    obtain ⟨r1, r2⟩ := P2.out ex
                    have ey' : (hy == (R : Int)) = false := by rw [beq_eq_false_iff_ne]; exact r1
                    have R2 := hide r2
                    subst ex
                    clear r1 r2
                    go_upto_region 26 with fail
                    refine wp_region_flowz [0, 1, 2, 3, 4, 5, 6, 7, 8, 9, 10, 11, 12, 15, 16] [0, 1, 2, 3, 4, 5, 6, 7, 8, 9, 10, 11, 12, 15, 16, 17, 18, 19, 20, 21, 22, 23, 24, 25, 26, 27, 28, 29, 30, 31, 32, 33, 34, 35, 36, 39, 40, 41, 42, 43, 44, 45] (fun w' => ∃ q, w' = More W4 q) (by kernel_rfl) (by kernel_rfl) (below_more ((Below.refl W4.heap.size W4).drew)) ?_
                    simp only [pickOps, List.getElem?_cons_zero, List.getElem?_cons_succ]
                    repeat (go_big_quiet_step (fail))
                    refine wpQuiet_nil ?_
                    have hdr : Below W4.heap.size W4 W4.drew := (Below.refl _ _).drew
                    refine flow_one 13 (by kernel_rfl) rfl ?_
                    go_wp2
                    refine FlowPost.mk ⟨below_more hdr, ?_⟩
                    refine flow_one 14 (by kernel_rfl) rfl ?_
                    go_wp2
                    refine FlowPost.mk ⟨below_more hdr, ?_⟩
                    refine flow_pure [17, 18, 19, 20, 21, 22, 23, 24, 25, 26, 27, 28, 29, 30, 31, 32, 33, 34, 35, 36, 39, 40] (by kernel_rfl) (below_more hdr) ?_
                    simp only [pickOps, List.getElem?_cons_zero, List.getElem?_cons_succ]
                    repeat (go_big_quiet_step (fail))
                    refine wpQuiet_nil ?_
                    have hbl2 : Below W4.heap.size W4 (W4.alloc (.cells #[.int .i64 (hy), .int .i64 ((R : Int))] 3)).drew := ((Below.refl _ _).alloc (Nat.le_refl _) _).drew
                    have hll2 := lit2 (Has.new W4 3 #[.int .i64 (hy), .int .i64 ((R : Int))]).drew (by unfold I64; omega) (by unfold I64; omega)
                    refine flow_one 37 (by kernel_rfl) rfl ?_
                    go_wp2
                    generalize (World.alloc W4 _).drew = w7 at hll2 hbl2 ⊢
                    refine FlowPost.mk ⟨below_more hbl2, ?_⟩
                    refine flow_one 38 (by kernel_rfl) rfl ?_
                    go_wp2_with fail
                    refine (rfirst_any A n cp lot (some ⟨W4.heap.size, 0, none⟩) 2 2 [hy, (R : Int)] w7 (hlot4.below hbl2) hll2).mono ?_
                    rintro e w8 ⟨rfl, rfl⟩
                    rw [R2.out]
                    go_wp2
                    refine FlowPost.mk ⟨below_more hbl2, ?_⟩
                    refine flow_pure [41, 42, 43, 44, 45] (by kernel_rfl) (below_more hbl2) ?_
                    simp only [pickOps, List.getElem?_cons_zero, List.getElem?_cons_succ]
                    repeat (go_big_quiet_step (fail))
                    refine wpQuiet_nil ?_
                    refine flow_rest [] (by kernel_rfl) ?_
                    simp only [pickOps]
                    have hb5 := Below_trans' hb4 hb4.size hbl2
                    clear k0 k1 k2 k3 g0 g1 g2 g3
                    go_wp2
                    go_roundw
                    case rel => exact ⟨i + 1, by omega, by go_num, hb5⟩
                    case measure => simp [intOf] <;> omega
                  · have ex' : (hx == (P : Int)) = false := by rw [beq_eq_false_iff_ne]; exact ex
                    have ex2 : (hx != (P : Int)) = true := by rw [bne_iff_ne]; exact ex
                    have R2 := hide (P1.out ex)
                    clear ex
                    go_upto_region 26 with fail
                    refine wp_region_flowz [0, 1, 2, 3, 4, 5, 6, 7, 8, 9, 10, 11, 12, 15, 16] [0, 1, 2, 3, 4, 5, 6, 7, 8, 9, 10, 11, 12, 15, 16, 17, 18, 19, 20, 21, 22, 23, 24, 25, 26, 27, 28, 29, 30, 31, 32, 33, 34, 35, 36, 39, 40, 41, 42, 43, 44, 45] (fun w' => ∃ q, w' = More W4 q) (by kernel_rfl) (by kernel_rfl) (below_more ((Below.refl W4.heap.size W4).drew)) ?_
                    simp only [pickOps, List.getElem?_cons_zero, List.getElem?_cons_succ]
                    repeat (go_big_quiet_step (fail))
                    refine wpQuiet_nil ?_
                    have hdr : Below W4.heap.size W4 W4.drew := (Below.refl _ _).drew
                    have hbl2 : Below W4.heap.size W4 (W4.alloc (.cells #[.int .i64 (hx), .int .i64 ((P : Int))] 3)).drew := ((Below.refl _ _).alloc (Nat.le_refl _) _).drew
                    have hll2 := lit2 (Has.new W4 3 #[.int .i64 (hx), .int .i64 ((P : Int))]).drew (by unfold I64; omega) (by unfold I64; omega)
                    refine flow_one 13 (by kernel_rfl) rfl ?_
                    go_wp2
                    generalize (World.alloc W4 _).drew = w7 at hll2 hbl2 ⊢
                    refine FlowPost.mk ⟨below_more hbl2, ?_⟩
                    refine flow_one 14 (by kernel_rfl) rfl ?_
                    go_wp2_with fail
                    refine (rfirst_any A n cp lot (some ⟨W4.heap.size, 0, none⟩) 2 2 [hx, (P : Int)] w7 (hlot4.below hbl2) hll2).mono ?_
                    rintro e w8 ⟨rfl, rfl⟩
                    rw [R2.out]
                    go_wp2
                    refine FlowPost.mk ⟨below_more hbl2, ?_⟩
                    refine flow_pure [17, 18, 19, 20, 21, 22, 23, 24, 25, 26, 27, 28, 29, 30, 31, 32, 33, 34, 35, 36, 39, 40] (by kernel_rfl) (below_more hbl2) ?_
                    simp only [pickOps, List.getElem?_cons_zero, List.getElem?_cons_succ]
                    repeat (go_big_quiet_step (fail))
                    refine wpQuiet_nil ?_
                    refine flow_one 37 (by kernel_rfl) rfl ?_
                    go_wp2
                    refine FlowPost.mk ⟨below_more hbl2, ?_⟩
                    refine flow_one 38 (by kernel_rfl) rfl ?_
                    go_wp2
                    refine FlowPost.mk ⟨below_more hbl2, ?_⟩
                    refine flow_pure [41, 42, 43, 44, 45] (by kernel_rfl) (below_more hbl2) ?_
                    simp only [pickOps, List.getElem?_cons_zero, List.getElem?_cons_succ]
                    repeat (go_big_quiet_step (fail))
                    refine wpQuiet_nil ?_
                    refine flow_rest [] (by kernel_rfl) ?_
                    simp only [pickOps]
                    have hb5 := Below_trans' hb4 hb4.size hbl2
                    clear k0 k1 k2 k3 g0 g1 g2 g3
                    go_wp2
                    go_roundw
                    case rel => exact ⟨i + 1, by omega, by go_num, hb5⟩
                    case measure => simp [intOf] <;> omega
                · have ef' : (hf == u) = false := by rw [beq_eq_false_iff_ne]; exact ef
                  clear o1 o2 o3 em ef
                  go_upto_region 26 with fail
                  refine wp_region_more (by kernel_rfl) (by kernel_rfl) ?_
                  repeat (go_big_quiet_step (fail))
                  refine wpQuiet_nil ?_
                  rintro w5 ⟨qw5, hww5⟩
                  have hbw5 := below_of_eq hww5
                  clear hww5 qw5
                  have hb5 := Below_trans' hb4 hb4.size hbw5
                  clear k0 k1 k2 k3 g0 g1 g2 g3
                  go_wp2
                  go_roundw
                  case rel => exact ⟨i + 1, by omega, by go_num, hb5⟩
                  case measure => simp [intOf] <;> omega
              · have em' : (hmg == u - z) = false := by rw [beq_eq_false_iff_ne]; exact em
                clear o1 o2 o3 em
                go_upto_region 26 with fail
                refine wp_region_more (by kernel_rfl) (by kernel_rfl) ?_
                repeat (go_big_quiet_step (fail))
                refine wpQuiet_nil ?_
                rintro w5 ⟨qw5, hww5⟩
                have hbw5 := below_of_eq hww5
                clear hww5 qw5
                have hb5 := Below_trans' hb4 hb4.size hbw5
                clear k0 k1 k2 k3 g0 g1 g2 g3
                go_wp2
                go_roundw
                case rel => exact ⟨i + 1, by omega, by go_num, hb5⟩
                case measure => simp [intOf] <;> omega
          · obtain rfl : i = N := by omega
            have hbf := Below_trans' hbE hbE.size hb
            go_wp2_with fail
            refine (wakes14_any _).mono ?_
            rintro e w9 ⟨rfl, hb9⟩
            go_wp2
            go_ret
            exact ⟨rfl, Below_trans' hbf (hbf).size hb9⟩
end Go.Proofs.YtolbceckbnifmaaGreat
