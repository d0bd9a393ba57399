/-
  The law RankedLocks.
-/
import Derived.Test.YtolbceckbnifmaaGreatW14q
namespace Go.Proofs.YtolbceckbnifmaaGreat
open Go.RowKit Go.Proofs Go.Shelf
attribute [local go_sem] cell?_more cell?_alloc_some cell?_setCell_far frozen?_alloc_some frozen?_more
set_option maxRecDepth 100000 in
set_option maxHeartbeats 4000000 in
theorem rankedLocks_any (C : Array Value) (m : M) (hC : Mat C m) (c : Int) (A : Option Addr) (n cp : Nat) (lot : List Int) (w : World) (h : RInts w A n cp lot) :
    Calls Tryz.prog 5 #[.agg C, .int .i64 c, .slice A n cp] w fun e w' => e = .returned (.bool true) ∧ Below w.heap.size w w' := by
  have hs := hC.size
  have hM : Has (w.alloc (.cells C 24)) w.heap.size 24 C := Has.new _ _ _
  have hb0 : Below w.heap.size w (w.alloc (.cells C 24)) := (Below.refl _ _).alloc (Nat.le_refl _) _
  go_enter Tryz.func5, Tryz.ntmps5
  go_upto_region 1 with fail
  generalize World.alloc w _ = W at *
  go_wp2_with (refine ldMat rfl rfl rfl hM hs ?_)
  refine (may14_any C m hC c A n cp lot W (h.below hb0)).mono ?_
  rintro e w1 ⟨rfl, hb1⟩
  have hbw1 := Below_trans' hb0 hb0.size hb1
  replace hM := hM.below hb1 hM.lt
  cases hr : rightS m c && lotS lot c with
  | false =>
    clear hr
    go_wp2_with fail
    refine (wakes14_any _).mono ?_
    rintro e w9 ⟨rfl, hb9⟩
    go_wp2
    go_ret
    exact ⟨rfl, Below_trans' hbw1 (hbw1).size hb9⟩
  | true =>
    rw [Bool.and_eq_true] at hr
    have hc := rightS_iff.1 hr.1
    obtain ⟨K, rfl⟩ : ∃ K : Nat, c = K := ⟨c.toNat, by omega⟩
    have hK10 : K ≤ 10 := by omega
    have hE := ordErr_ok (m := m) (c := K) (lot := lot) (by omega) hr.2 hr.1
    have hLP := lotP_of hr.2
    have hnK : n ≤ 1000 := by
      have h1 := hr.2
      unfold lotS at h1
      rw [Bool.and_eq_true, decide_eq_true_eq] at h1
      have := h.len
      omega
    have hod := hide (ordV_ok hE)
    have hlo := hide (lockV_ok hE)
    have hnd := hide (lnkO_nodup (m := m) hLP)
    have hac := hide (lockM_acyc (m := m) hLP)
    have h45 := lnkO_45 (m := m) hLP hK10
    have hlk := hide (show lockM m lot K = lockS (lnkO m lot K) from rfl)
    have HE := hide hE
    clear hr hc hE hLP
    have ldm := hM
    go_wp2_with (refine ldMat rfl rfl rfl ldm hs ?_)
    refine (order_any C m hC K A n cp lot w1 (h.below hbw1) hnK).mono ?_
    rintro e w2 ⟨va, rfl, hO2, hb2⟩
    rw [hod.out] at hO2
    rw [HE.out]
    have hbw2 := Below_trans' hbw1 hbw1.size hb2
    have ldm2 := hM.below hb2 hM.lt
    clear ldm
    go_wp2_with (refine ldMat rfl rfl rfl ldm2 hs ?_)
    refine (lock_any C m hC K A n cp lot w2 (h.below hbw2) hnK).mono ?_
    rintro e w3 ⟨vl, rfl, hO3, hb3⟩
    rw [hlo.out, hlk.out] at hO3
    rw [HE.out]
    rw [hlk.out] at hac
    have hbw3 := Below_trans' hbw2 hbw2.size hb3
    clear ldm2 hM hlk HE hod hlo
    generalize lnkO m lot K = all at *
    obtain ⟨lk, hlk⟩ : ∃ lk, lk = lockS all := ⟨_, rfl⟩
    have HLK := hide hlk
    rw [← hlk] at hO3 hac
    clear hlk
    obtain ⟨Aa, ca, rfl⟩ := hO2.slice
    obtain ⟨Al, cl, rfl⟩ := hO3.slice
    have hRa := (hO2.below hb3).reads
    have hRl := hO3.reads
    have hLl : lk.length ≤ 45 := by rw [HLK.out]; exact Nat.le_trans (lock_len _) h45
    obtain ⟨N, hN⟩ : ∃ N, all.length = N := ⟨_, rfl⟩
    obtain ⟨L, hL⟩ : ∃ L, lk.length = L := ⟨_, rfl⟩
    rw [hN] at hRa h45 ⊢
    rw [hL] at hRl hLl ⊢
    have HN := hide hN
    have HL := hide hL
    have hLc : L ≤ cl := hRl.2.1
    clear hO2 hO3 hN hL hb1 hb2 hb3 hb0
    go_wp2_with fail
    go_loopw [11, 12] (fun u s wr => ∃ i : Nat, i ≤ N ∧ s = .int .i64 i ∧ u = .int .i64 ((lockS (all.take i)).length : Nat) ∧ Below w3.heap.size w3 wr) (fun _ s _ => N - (intOf s).toNat)
    case atStart => exact ⟨0, Nat.zero_le _, rfl, by rw [List.take_zero]; rfl, Below.refl _ _⟩
    case round =>
      obtain ⟨i, hi, rfl, rfl, hb⟩ := hrel
      by_cases hlt : i < N
      · obtain ⟨b, off, x, y, mg, f, rfl, c0, c1, c2, c3, hat, _⟩ := (hRa.below below_lnk hb).lnk hlt
        have hpre := lock_pre all i
        have hat_le : (lockS (all.take i)).length ≤ L := by have := hpre.length_le; rw [← HLK.out, HL.out] at this; exact this
        have htk := lock_takes all i
        rw [← HLK.out] at htk
        cases hle : leadsB (lockS (all.take i)) y x with
        | false =>
          obtain ⟨y1, y2⟩ := lock_yes hat.out hle
          rw [← HLK.out] at y1
          have hlen : Hid ((lockS (all.take (i + 1))).length = (lockS (all.take i)).length + 1) := by unfold Hid; rw [y2]; simp
          clear hle y2 htk hpre
          generalize (lockS (all.take i)).length = at_ at *
          have hlt2 : at_ < L := by have := (List.getElem?_eq_some_iff.1 y1).1; rw [HL.out] at this; exact this
          obtain ⟨b', off', x', y', m', f', rfl, d0, d1, d2, d3, hat', _⟩ := (hRl.below below_lnk hb).lnk hlt2
          have e := hat'.out.symm.trans y1
          cases e
          clear hat hat' y1
          go_wp2_with fail
          refine wp_region_more (by kernel_rfl) (by kernel_rfl) ?_
          repeat (go_big_quiet_step (fail))
          refine wpQuiet_nil ?_
          rintro w5 ⟨qw5, hww5⟩
          have hbw5 := below_of_eq hww5
          clear hww5 qw5
          have hb5 := Below_trans' hb hb.size hbw5
          clear c0 c1 c2 c3 d0 d1 d2 d3
          go_wp2
          go_roundw
          case rel => exact ⟨i + 1, by omega, by go_num, by rw [hlen.out]; go_num, hb5⟩
          case measure => simp [intOf] <;> omega
        | true =>
          obtain ⟨n1, n2⟩ := lock_no hnd.out hat.out hle
          rw [← HLK.out] at n1
          have hno := hide (congrArg List.length n2)
          have hback : Hid (leadsB (lk.take (lockS (all.take i)).length) y x = true) := by unfold Hid; rw [htk]; exact hle
          clear hle n2 htk hpre
          obtain ⟨at_, hAT⟩ : ∃ at_, (lockS (all.take i)).length = at_ := ⟨_, rfl⟩
          have HAT := hide hAT
          rw [hAT] at n1 hback hat_le ⊢
          clear hAT
          by_cases hlt2 : at_ < L
          · obtain ⟨b', off', x', y', m', f', rfl, d0, d1, d2, d3, hat', _⟩ := (hRl.below below_lnk hb).lnk hlt2
            have hne : Hid (¬ (x = x' ∧ y = y' ∧ mg = m' ∧ f = f')) := by
              rintro ⟨rfl, rfl, rfl, rfl⟩
              exact n1 hat'.out
            clear n1 hat hat'
            by_cases e1 : x = x'
            · by_cases e2 : y = y'
              · by_cases e3 : mg = m'
                · have e4 : (f' == f) = false := by rw [beq_eq_false_iff_ne]; exact fun e => hne.out ⟨e1, e2, e3, e.symm⟩
                  subst e1 e2 e3
                  go_wp2_with fail
                  refine wp_region_more (by kernel_rfl) (by kernel_rfl) ?_
                  repeat (go_big_quiet_step (fail))
                  refine wpQuiet_nil ?_
                  rintro w5 ⟨qw5, hww5⟩
                  have hbw5 := below_of_eq hww5
                  clear hww5 qw5
                  have hb5 := Below_trans' hb hb.size hbw5
                  clear d0 d1 d2 d3
                  have d0 := keep_cell hbw5 c0
                  have d1 := keep_cell hbw5 c1
                  have hRl5 := hRl.below below_lnk hb5
                  have hq : ∀ q, Calls Tryz.prog 22 #[.slice (some ⟨b', off', none⟩) at_ cl, .int .i64 y, .int .i64 x] (More w5 q) fun e w'' => e = .returned (.bool true) ∧ ∃ q', w'' = More w5 q' := fun q => more_of ((leads_any _ at_ cl (lk.take at_) y x (More w5 q) ((hRl5.takes hat_le).below below_lnk (more_below w5 q)) (by omega)).mono fun e w' ⟨he, hb'⟩ => ⟨by rw [he, hback.out], hb'⟩)
                  clear c0 c1 c2 c3
                  have ic : (at_ : Int) ≤ (cl : Int) := by omega
                  have ic2 : at_ ≤ cl := by omega
                  go_upto_region 13 with fail
                  refine wp_region_more (by kernel_rfl) (by kernel_rfl) ?_
                  repeat (go_big_quiet_step ((go_at_call 22; with_reducible exact hq _)))
                  refine wpQuiet_nil ?_
                  rintro w6 ⟨qw6, hww6⟩
                  have hbw6 := below_of_eq hww6
                  clear hww6 qw6
                  have hb6 := Below_trans' hb5 hb5.size hbw6
                  clear d0 d1 hq
                  go_wp2
                  go_roundw
                  case rel => exact ⟨i + 1, by omega, by go_num, by rw [hno.out, HAT.out], hb6⟩
                  case measure => simp [intOf] <;> omega
                · have e4 : (m' == mg) = false := by rw [beq_eq_false_iff_ne]; exact fun e => e3 e.symm
                  subst e1 e2
                  clear e3
                  go_wp2_with fail
                  refine wp_region_more (by kernel_rfl) (by kernel_rfl) ?_
                  repeat (go_big_quiet_step (fail))
                  refine wpQuiet_nil ?_
                  rintro w5 ⟨qw5, hww5⟩
                  have hbw5 := below_of_eq hww5
                  clear hww5 qw5
                  have hb5 := Below_trans' hb hb.size hbw5
                  clear d0 d1 d2 d3
                  have d0 := keep_cell hbw5 c0
                  have d1 := keep_cell hbw5 c1
                  have hRl5 := hRl.below below_lnk hb5
                  have hq : ∀ q, Calls Tryz.prog 22 #[.slice (some ⟨b', off', none⟩) at_ cl, .int .i64 y, .int .i64 x] (More w5 q) fun e w'' => e = .returned (.bool true) ∧ ∃ q', w'' = More w5 q' := fun q => more_of ((leads_any _ at_ cl (lk.take at_) y x (More w5 q) ((hRl5.takes hat_le).below below_lnk (more_below w5 q)) (by omega)).mono fun e w' ⟨he, hb'⟩ => ⟨by rw [he, hback.out], hb'⟩)
                  clear c0 c1 c2 c3
                  have ic : (at_ : Int) ≤ (cl : Int) := by omega
                  have ic2 : at_ ≤ cl := by omega
                  go_upto_region 13 with fail
                  refine wp_region_more (by kernel_rfl) (by kernel_rfl) ?_
                  repeat (go_big_quiet_step ((go_at_call 22; with_reducible exact hq _)))
                  refine wpQuiet_nil ?_
                  rintro w6 ⟨qw6, hww6⟩
                  have hbw6 := below_of_eq hww6
                  clear hww6 qw6
                  have hb6 := Below_trans' hb5 hb5.size hbw6
                  clear d0 d1 hq
                  go_wp2
                  go_roundw
                  case rel => exact ⟨i + 1, by omega, by go_num, by rw [hno.out, HAT.out], hb6⟩
                  case measure => simp [intOf] <;> omega
              · have e4 : (y' == y) = false := by rw [beq_eq_false_iff_ne]; exact fun e => e2 e.symm
                subst e1
                clear e2
                go_wp2_with fail
                refine wp_region_more (by kernel_rfl) (by kernel_rfl) ?_
                repeat (go_big_quiet_step (fail))
                refine wpQuiet_nil ?_
                rintro w5 ⟨qw5, hww5⟩
                have hbw5 := below_of_eq hww5
                clear hww5 qw5
                have hb5 := Below_trans' hb hb.size hbw5
                clear d0 d1 d2 d3
                have d0 := keep_cell hbw5 c0
                have d1 := keep_cell hbw5 c1
                have hRl5 := hRl.below below_lnk hb5
                have hq : ∀ q, Calls Tryz.prog 22 #[.slice (some ⟨b', off', none⟩) at_ cl, .int .i64 y, .int .i64 x] (More w5 q) fun e w'' => e = .returned (.bool true) ∧ ∃ q', w'' = More w5 q' := fun q => more_of ((leads_any _ at_ cl (lk.take at_) y x (More w5 q) ((hRl5.takes hat_le).below below_lnk (more_below w5 q)) (by omega)).mono fun e w' ⟨he, hb'⟩ => ⟨by rw [he, hback.out], hb'⟩)
                clear c0 c1 c2 c3
                have ic : (at_ : Int) ≤ (cl : Int) := by omega
                have ic2 : at_ ≤ cl := by omega
                go_upto_region 13 with fail
                refine wp_region_more (by kernel_rfl) (by kernel_rfl) ?_
                repeat (go_big_quiet_step ((go_at_call 22; with_reducible exact hq _)))
                refine wpQuiet_nil ?_
                rintro w6 ⟨qw6, hww6⟩
                have hbw6 := below_of_eq hww6
                clear hww6 qw6
                have hb6 := Below_trans' hb5 hb5.size hbw6
                clear d0 d1 hq
                go_wp2
                go_roundw
                case rel => exact ⟨i + 1, by omega, by go_num, by rw [hno.out, HAT.out], hb6⟩
                case measure => simp [intOf] <;> omega
            · have e4 : (x' == x) = false := by rw [beq_eq_false_iff_ne]; exact fun e => e1 e.symm
              clear e1
              go_wp2_with fail
              refine wp_region_more (by kernel_rfl) (by kernel_rfl) ?_
              repeat (go_big_quiet_step (fail))
              refine wpQuiet_nil ?_
              rintro w5 ⟨qw5, hww5⟩
              have hbw5 := below_of_eq hww5
              clear hww5 qw5
              have hb5 := Below_trans' hb hb.size hbw5
              clear d0 d1 d2 d3
              have d0 := keep_cell hbw5 c0
              have d1 := keep_cell hbw5 c1
              have hRl5 := hRl.below below_lnk hb5
              have hq : ∀ q, Calls Tryz.prog 22 #[.slice (some ⟨b', off', none⟩) at_ cl, .int .i64 y, .int .i64 x] (More w5 q) fun e w'' => e = .returned (.bool true) ∧ ∃ q', w'' = More w5 q' := fun q => more_of ((leads_any _ at_ cl (lk.take at_) y x (More w5 q) ((hRl5.takes hat_le).below below_lnk (more_below w5 q)) (by omega)).mono fun e w' ⟨he, hb'⟩ => ⟨by rw [he, hback.out], hb'⟩)
              clear c0 c1 c2 c3
              have ic : (at_ : Int) ≤ (cl : Int) := by omega
              have ic2 : at_ ≤ cl := by omega
              go_upto_region 13 with fail
              refine wp_region_more (by kernel_rfl) (by kernel_rfl) ?_
              repeat (go_big_quiet_step ((go_at_call 22; with_reducible exact hq _)))
              refine wpQuiet_nil ?_
              rintro w6 ⟨qw6, hww6⟩
              have hbw6 := below_of_eq hww6
              clear hww6 qw6
              have hb6 := Below_trans' hb5 hb5.size hbw6
              clear d0 d1 hq
              go_wp2
              go_roundw
              case rel => exact ⟨i + 1, by omega, by go_num, by rw [hno.out, HAT.out], hb6⟩
              case measure => simp [intOf] <;> omega
          · clear n1 hat
            go_wp2_with fail
            refine wp_region_more (by kernel_rfl) (by kernel_rfl) ?_
            repeat (go_big_quiet_step (fail))
            refine wpQuiet_nil ?_
            rintro w5 ⟨qw5, hww5⟩
            have hbw5 := below_of_eq hww5
            clear hww5 qw5
            have hb5 := Below_trans' hb hb.size hbw5
            have d0 := keep_cell hbw5 c0
            have d1 := keep_cell hbw5 c1
            have hRl5 := hRl.below below_lnk hb5
            have hq : ∀ q, Calls Tryz.prog 22 #[.slice Al at_ cl, .int .i64 y, .int .i64 x] (More w5 q) fun e w'' => e = .returned (.bool true) ∧ ∃ q', w'' = More w5 q' := fun q => more_of ((leads_any Al at_ cl (lk.take at_) y x (More w5 q) ((hRl5.takes hat_le).below below_lnk (more_below w5 q)) (by omega)).mono fun e w' ⟨he, hb'⟩ => ⟨by rw [he, hback.out], hb'⟩)
            clear c0 c1 c2 c3
            have ic : (at_ : Int) ≤ (cl : Int) := by omega
            have ic2 : at_ ≤ cl := by omega
            go_upto_region 13 with fail
            refine wp_region_more (by kernel_rfl) (by kernel_rfl) ?_
            repeat (go_big_quiet_step ((go_at_call 22; with_reducible exact hq _)))
            refine wpQuiet_nil ?_
            rintro w6 ⟨qw6, hww6⟩
            have hbw6 := below_of_eq hww6
            clear hww6 qw6
            have hb6 := Below_trans' hb5 hb5.size hbw6
            clear d0 d1 hq
            go_wp2
            go_roundw
            case rel => exact ⟨i + 1, by omega, by go_num, by rw [hno.out, HAT.out], hb6⟩
            case measure => simp [intOf] <;> omega
      · obtain rfl : i = N := by omega
        have e : Hid ((lockS (all.take i)).length = L) := by unfold Hid; rw [List.take_of_length_le (by rw [HN.out]; exact Nat.le_refl _), ← HLK.out, HL.out]
        rw [e.out]
        have hbE := Below_trans' hbw3 hbw3.size hb
        have hRE := hRl.below below_lnk hb
        obtain ⟨wE, rfl⟩ : ∃ wE : World, wE = wr := ⟨_, rfl⟩
        clear hb hRl hRa hbw3
        go_wp2_with fail
        go_loopw [13] (fun s wr => ∃ x : Nat, x ≤ K ∧ s = .int .i64 x ∧ Below wE.heap.size wE wr) (fun s _ => K - (intOf s).toNat)
        case atStart => exact ⟨0, Nat.zero_le _, rfl, Below.refl _ _⟩
        case round =>
          obtain ⟨x, hx, rfl, hb⟩ := hrel
          by_cases hxK : x < K
          · have hno : Hid (leadsB lk (x : Int) (x : Int) = false) := by
              unfold Hid
              cases hq : leadsB lk (x : Int) (x : Int) with
              | false => rfl
              | true => exact absurd (leads_iff.1 hq) (hac.out _)
            go_wp2_with fail
            refine (leads_any Al L cl lk (x : Int) (x : Int) wr (hRE.below below_lnk hb) (by omega)).mono ?_
            rintro e w5 ⟨rfl, hb5⟩
            rw [hno.out]
            have hb6 := Below_trans' hb hb.size hb5
            go_wp2
            go_roundw
            case rel => exact ⟨x + 1, by omega, by go_num, hb6⟩
            case measure => simp [intOf] <;> omega
          · have hbf := Below_trans' hbE hbE.size hb
            go_wp2_with fail
            refine (wakes14_any _).mono ?_
            rintro e w9 ⟨rfl, hb9⟩
            go_wp2
            go_ret
            exact ⟨rfl, Below_trans' hbf (hbf).size hb9⟩
end Go.Proofs.YtolbceckbnifmaaGreat
