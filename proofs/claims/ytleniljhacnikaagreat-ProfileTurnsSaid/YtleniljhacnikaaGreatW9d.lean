/-
  The reference's profiles: Sums, Check.
-/
import Derived.Test.YtleniljhacnikaaGreatW9c
namespace Go.Proofs.YtleniljhacnikaaGreat
open Go.RowKit Go.Proofs
attribute [local go_sem] cell?_more cell?_alloc_some cell?_setCell_far frozen?_alloc_some frozen?_more

set_option maxHeartbeats 1000000 in
theorem sums_any (A : Option Addr) (n cp : Nat) (l : List Row) (w : World) (h : RRows w A n cp l) (hpos : ∀ i, i < l.length → 0 < (l.getD i ([], 0)).2) :
    Calls Tryz.prog 58 #[.slice A n cp] w fun e w' => e = .returned (.int .i64 (capS l n)) ∧ w = w' := by
  have hn := h.le
  have hl := h.len
  have Hpos := hide hpos
  clear hpos
  go_enter Tryz.func58, Tryz.ntmps58
  go_wp2
  go_loop [3, 4] (fun s i => ∃ (k : Nat) (S : Int), k ≤ n ∧ i = .int .i64 k ∧ s = .int .i64 S ∧ Hid (S = totS (l.take k)) ∧ 0 ≤ S ∧ S ≤ 1000000) (fun _ i => n - (intOf i).toNat)
  case atStart => exact ⟨0, 0, Nat.zero_le _, rfl, rfl, by simp [Hid, totS], by omega, by omega⟩
  case round =>
    obtain ⟨k, S, hk, rfl, rfl, hS, s0, s1⟩ := hrel
    by_cases hlt : k < n
    · obtain ⟨b, off, Am, nm, cm, ms, y, rfl, hc0, hm0, hc1, hd, hat, hy⟩ := h.step hlt
      have y0 := Hpos.out k (by omega)
      rw [getD_of hat.out] at y0
      have hT := hide (totS_take_succ hat.out)
      by_cases hbig : 1000000 - S < y
      · have hge := totS_mono (l := l) Hpos.out (a := k + 1) (b := n) (by omega) (by omega)
        have hcap : Hid (capS l n = 1000001) := by
          unfold Hid capS
          rw [hT.out, ← hS.out] at hge
          simp only at hge
          split
          · rfl
          · omega
        go_wp2
        go_ret
        exact ⟨ret_i (by rw [hcap.out]), rfl⟩
      · go_wp2
        go_round
        case rel => exact ⟨k + 1, S + y, by omega, by go_num, rfl, by unfold Hid; rw [hT.out, hS.out], by omega, by omega⟩
        case measure => simp [intOf] <;> omega
    · obtain rfl : k = n := by omega
      go_wp2
      go_ret
      exact ⟨ret_i (by unfold capS; rw [← hS.out, if_neg (by omega)]), rfl⟩

set_option maxHeartbeats 2000000 in
theorem rcheck_any (c k : Int) (A : Option Addr) (n cp : Nat) (l : List Row) (w : World) (h : RRows w A n cp l) :
    Calls Tryz.prog 26 #[.agg #[.int .i64 c, .int .u8 k, .slice A n cp]] w fun e w' => e = .returned (.int .i64 (checkS c k l)) ∧ Below w.heap.size w w' := by
  have hn := h.le
  have hl := h.len
  have hbP : Below w.heap.size w (w.alloc (.cells #[.int .i64 c, .int .u8 k, .slice A n cp] 24)) := (Below.refl _ _).alloc (Nat.le_refl _) _
  have hPP := Has.new w 24 #[.int .i64 c, .int .u8 k, .slice A n cp]
  by_cases h64 : 64 < n
  · go_enter Tryz.func26, Tryz.ntmps26
    go_wp2
    go_ret
    exact ⟨ret_i (by rw [checkS, if_pos (by omega)]), hbP⟩
  by_cases herr : newErr c k = 0
  · have Herr := hide herr
    clear herr
    go_enter Tryz.func26, Tryz.ntmps26
    go_wp2_with fail
    refine (rnew_ok _ _ _ Herr.out).mono ?_
    rintro e w5 ⟨rfl, hb5⟩
    have hP5 := hPP.below hb5 hPP.lt
    have hbE := Below_trans' hbP hbP.size (hb5.alloc hb5.size (.cells #[.int .i64 c, .int .u8 k, .slice none 0 0] 24))
    go_wp2
    go_loopw [6] (fun i wr => ∃ t : Nat, t ≤ n ∧ i = .int .i64 t ∧ Hid (∀ j, j < t → rowOK c k l j = true) ∧ Below w.heap.size w wr ∧ Has wr w.heap.size 24 #[.int .i64 c, .int .u8 k, .slice A n cp]) (fun i _ => n - (intOf i).toNat)
    case atStart => exact ⟨0, Nat.zero_le _, rfl, fun j hj => absurd hj (by omega), hbE, hP5.alloc _⟩
    case round =>
      obtain ⟨t, ht, rfl, hok, hb, hP⟩ := hrel
      have p0 : wr.cell? ⟨w.heap.size, 0, none⟩ = some (.int .i64 c) := hP.cell 0
      have p1 : wr.cell? ⟨w.heap.size, 1, none⟩ = some (.int .u8 k) := hP.cell 1
      by_cases hlt : t < n
      · have hr := h.below hb
        obtain ⟨b, off, Am, nm, cm, ms, y, rfl, hc0, hm0, hc1, hd, hat, hy⟩ := hr.step hlt
        obtain ⟨b', off', Al, nl, cl, ml, yl, e1, hc0', hm0', hc1', hd', hat', hy'⟩ := hr.step (k := t - 1) (by omega)
        cases e1
        have hrow := hide (rowOK_eq (c := c) (k := k) hat'.out hat.out)
        have b1 : (0 : Int) ≤ (t : Int) := by omega
        have b2 : (t : Int) < (n : Int) := by omega
        by_cases y1 : y < 1
        · have g1 : decide (y < 1) = true := by simpa using y1
          have hro : rowOK c k l t = false := by rw [hrow.out]; simp; intros; omega
          have Hro := hide hro
          clear hro
          go_wp2
          refine wp_region_more (by kernel_rfl) (by kernel_rfl) ?_
          repeat (go_big_quiet_step ((first | (go_at_call 56; exact more_of (rbcheck_any _ _ _ _ ms _ _ (hm0.more _))) | (go_at_call 57; exact more_of (ahead_any _ _ _ _ _ _ ml ms _ (hm0'.more _) (hm0.more _))))))
          refine wpQuiet_nil ?_
          rintro w1 ⟨qw1, hww1⟩
          have hbw1 := below_of_eq hww1
          clear hww1 qw1
          go_wp2
          go_ret
          exact ⟨ret_i (by rw [checkS, if_neg (by omega), hl, if_pos (.inl (allN_false hlt Hro.out))]), Below_trans' hb hb.size hbw1⟩
        have g1 : decide (y < 1) = false := by simpa using y1
        by_cases hbc : bcheckS k ms c = 0
        · have g2 : (bcheckS k ms c != 0) = false := by simp [hbc]
          by_cases ht0 : t = 0
          · have g3 : decide (0 < (t : Int)) = false := by simp; omega
            have g4 : decide (0 < t) = false := by simp; omega
            have hro : rowOK c k l t = true := by rw [hrow.out]; simp [hbc, ht0]; omega
            clear ht0
            have Hro := hide hro
            clear hro
            go_wp2
            refine wp_region_more (by kernel_rfl) (by kernel_rfl) ?_
            repeat (go_big_quiet_step ((first | (go_at_call 56; exact more_of (rbcheck_any _ _ _ _ ms _ _ (hm0.more _))) | (go_at_call 57; exact more_of (ahead_any _ _ _ _ _ _ ml ms _ (hm0'.more _) (hm0.more _))))))
            refine wpQuiet_nil ?_
            rintro w1 ⟨qw1, hww1⟩
            have hbw1 := below_of_eq hww1
            clear hww1 qw1
            go_wp2
            go_roundw
            case rel => exact ⟨t + 1, by omega, by go_num, fun j hj => by
              by_cases ej : j = t
              · rw [ej]; exact Hro.out
              · exact hok.out j (by omega), Below_trans' hb hb.size hbw1, hP.below hbw1 hP.lt⟩
            case measure => simp [intOf] <;> omega
          · have g3 : decide (0 < (t : Int)) = true := by simp; omega
            have g4 : decide (0 < t) = true := by simp; omega
            have e1 : IntKind.i64.wrap ((t : Int) - 1) = (t : Int) - 1 := IntWalk.i64_in _ (by omega)
            have e2 : ((t : Int) - 1).toNat = t - 1 := by omega
            have b3 : (1 : Int) ≤ (t : Int) := by omega
            have b4 : (t : Int) - 1 < (n : Int) := by omega
            by_cases hcm : aheadB ml ms = true
            · have hro : rowOK c k l t = true := by rw [hrow.out]; unfold aheadB at hcm; simp at hcm; simp [hbc, hcm]; omega
              clear hbc ht0
              have Hro := hide hro
              clear hro
              go_wp2
              refine wp_region_more (by kernel_rfl) (by kernel_rfl) ?_
              repeat (go_big_quiet_step ((first | (go_at_call 56; exact more_of (rbcheck_any _ _ _ _ ms _ _ (hm0.more _))) | (go_at_call 57; exact more_of (ahead_any _ _ _ _ _ _ ml ms _ (hm0'.more _) (hm0.more _))))))
              refine wpQuiet_nil ?_
              rintro w1 ⟨qw1, hww1⟩
              have hbw1 := below_of_eq hww1
              clear hww1 qw1
              go_wp2
              go_roundw
              case rel => exact ⟨t + 1, by omega, by go_num, fun j hj => by
                by_cases ej : j = t
                · rw [ej]; exact Hro.out
                · exact hok.out j (by omega), Below_trans' hb hb.size hbw1, hP.below hbw1 hP.lt⟩
              case measure => simp [intOf] <;> omega
            · have hcm : aheadB ml ms = false := by simpa using hcm
              have hro : rowOK c k l t = false := by rw [hrow.out]; unfold aheadB at hcm; simp at hcm; simp [ht0]; omega
              clear hbc ht0
              have Hro := hide hro
              clear hro
              go_wp2
              refine wp_region_more (by kernel_rfl) (by kernel_rfl) ?_
              repeat (go_big_quiet_step ((first | (go_at_call 56; exact more_of (rbcheck_any _ _ _ _ ms _ _ (hm0.more _))) | (go_at_call 57; exact more_of (ahead_any _ _ _ _ _ _ ml ms _ (hm0'.more _) (hm0.more _))))))
              refine wpQuiet_nil ?_
              rintro w1 ⟨qw1, hww1⟩
              have hbw1 := below_of_eq hww1
              clear hww1 qw1
              go_wp2
              go_ret
              exact ⟨ret_i (by rw [checkS, if_neg (by omega), hl, if_pos (.inl (allN_false hlt Hro.out))]), Below_trans' hb hb.size hbw1⟩
        · have g2 : (bcheckS k ms c != 0) = true := by simp [hbc]
          have hro : rowOK c k l t = false := by rw [hrow.out]; simp [hbc]
          have Hro := hide hro
          clear hro
          go_wp2
          refine wp_region_more (by kernel_rfl) (by kernel_rfl) ?_
          repeat (go_big_quiet_step ((first | (go_at_call 56; exact more_of (rbcheck_any _ _ _ _ ms _ _ (hm0.more _))) | (go_at_call 57; exact more_of (ahead_any _ _ _ _ _ _ ml ms _ (hm0'.more _) (hm0.more _))))))
          refine wpQuiet_nil ?_
          rintro w1 ⟨qw1, hww1⟩
          have hbw1 := below_of_eq hww1
          clear hww1 qw1
          go_wp2
          go_ret
          exact ⟨ret_i (by rw [checkS, if_neg (by omega), hl, if_pos (.inl (allN_false hlt Hro.out))]), Below_trans' hb hb.size hbw1⟩
      · obtain rfl : t = n := by omega
        have hall : Hid (allN t (rowOK c k l) = true) := allN_true.2 hok.out
        have hpos : ∀ i, i < l.length → 0 < (l.getD i ([], 0)).2 := fun i hi => rowOK_many (hok.out i (by omega))
        have Hpos := hide hpos
        clear hpos
        have hc := capS_end (l := l)
        rw [hl] at hc
        by_cases htot : 1000000 < totS l
        · have hcap : 1000000 < capS l t := hc.2 htot
          clear hc
          go_wp2_with (go_at_call 58; refine (sums_any _ _ _ l _ (h.below hb) Hpos.out).mono ?_; rintro e w' ⟨rfl, rfl⟩)
          go_ret
          exact ⟨ret_i (by rw [checkS, if_neg (by omega), hl, if_neg (by rw [hall.out, Herr.out]; simp), if_pos htot]), hb⟩
        · have hcap : ¬ 1000000 < capS l t := fun hh => by have := hc.1 hh; omega
          clear hc
          go_wp2_with (go_at_call 58; refine (sums_any _ _ _ l _ (h.below hb) Hpos.out).mono ?_; rintro e w' ⟨rfl, rfl⟩)
          go_ret
          exact ⟨ret_i (by rw [checkS, if_neg (by omega), hl, if_neg (by rw [hall.out, Herr.out]; simp), if_neg (by omega)]), hb⟩
  · have Herr := hide herr
    clear herr
    go_enter Tryz.func26, Tryz.ntmps26
    go_wp2_with fail
    refine (rnew_bad _ _ _ Herr.out).mono ?_
    rintro e w5 ⟨rfl, hb5⟩
    go_wp2
    go_ret
    exact ⟨ret_i (by rw [checkS, if_neg (by omega), hl, if_pos (.inr Herr.out)]), Below_trans' hbP hbP.size (hb5.alloc hb5.size _)⟩
end Go.Proofs.YtleniljhacnikaaGreat
