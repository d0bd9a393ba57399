/-
  The reference's ballots: Fine, Check.
-/
import Derived.Test.YtleniljhacnikaaGreatW8b
namespace Go.Proofs.YtleniljhacnikaaGreat
open Go.RowKit Go.Proofs
attribute [local go_sem] cell?_more cell?_alloc_some

theorem all_take_succ {p : Int → Bool} {xs : List Int} {k : Nat} {v : Int} (h : xs[k]? = some v) : (xs.take (k + 1)).all p = ((xs.take k).all p && p v) := by
  rw [List.take_add_one, h]; simp

theorem all_take {p : Int → Bool} {xs : List Int} (h : xs.all p = true) (k : Nat) : (xs.take k).all p = true := by
  rw [List.all_eq_true] at *
  exact fun x hx => h x (List.mem_of_mem_take hx)

theorem sortedB_take {xs : List Int} (h : sortedB xs = true) (k : Nat) : sortedB (xs.take k) = true := by
  induction xs generalizing k with
  | nil => simp [sortedB]
  | cons a r ih =>
    cases k with
    | zero => simp [sortedB]
    | succ k =>
      cases r with
      | nil => simp [sortedB]
      | cons b s =>
        simp only [sortedB, Bool.and_eq_true, decide_eq_true_eq] at h
        have := ih h.2 k
        cases k with
        | zero => simp [sortedB]
        | succ k => simp only [List.take_succ_cons, sortedB, Bool.and_eq_true, decide_eq_true_eq] at *; exact ⟨h.1, this⟩

theorem first_one {xs : List Int} {t : Nat} {v : Int} (h0 : ¬ 0 < t) (h : xs[t]? = some v) : Hid (sortedB (xs.take (t + 1)) = true) := by
  obtain rfl : t = 0 := by omega
  unfold Hid
  rw [List.take_add_one, h]
  simp [sortedB]

set_option maxHeartbeats 400000 in
theorem rfine_any (k : Int) (A : Option Addr) (n c : Nat) (ms : List Int) (cs : Int) (w : World) (h : RInts w A n c ms) :
    Calls Tryz.prog 63 #[.agg #[.int .u8 k, .slice A n c], .int .i64 cs] w fun e w' => e = .returned (.bool (fineS k ms cs)) ∧ Below w.heap.size w w' := by
  have hn := h.le
  have hl := h.len
  have hb0 := (Below.refl w.heap.size w).alloc (Nat.le_refl _) (.cells #[.int .u8 k, .slice A n c] 32)
  by_cases h3 : k = 3
  · subst h3
    go_enter Tryz.func63, Tryz.ntmps63
    go_wp2
    go_loop [6] (fun i => ∃ j : Nat, j ≤ n ∧ i = .int .i64 j ∧ Hid (ms.all (fun x => inR 0 11 x) = (ms.drop j).all (fun x => inR 0 11 x))) (fun i => n - (intOf i).toNat)
    case atStart => exact ⟨0, Nat.zero_le _, rfl, by simp [Hid]⟩
    case round =>
      obtain ⟨j, hj, rfl, hp⟩ := hrel
      by_cases hlt : j < n
      · obtain ⟨b, off, v, rfl, hc, hd, _⟩ := h.step hlt
        by_cases hv : v < 0
        · go_wp2
          go_ret
          exact ⟨ret_b (by unfold fineS; rw [if_pos rfl, hp.out, hd.out]; simp [inR]; omega), hb0⟩
        · by_cases hv2 : 10 < v
          · go_wp2
            go_ret
            exact ⟨ret_b (by unfold fineS; rw [if_pos rfl, hp.out, hd.out]; simp [inR]; omega), hb0⟩
          · go_wp2
            go_round
            case rel => exact ⟨j + 1, by omega, by go_num, by unfold Hid; rw [hp.out, hd.out]; simp [inR] <;> omega⟩
            case measure => simp [intOf] <;> omega
      · have hd := hide (h.done hlt)
        by_cases hz : (n : Int) = cs
        · have hz' : ((n : Int) == cs) = true := by simpa using hz
          go_wp2
          go_ret
          exact ⟨ret_b (by unfold fineS; rw [if_pos rfl, hp.out, hd.out]; simp [hl, hz]), hb0⟩
        · have hz' : ((n : Int) == cs) = false := by simpa using hz
          go_wp2
          go_ret
          exact ⟨ret_b (by unfold fineS; rw [if_pos rfl, hp.out, hd.out]; simp [hl, hz]), hb0⟩
  · by_cases h12 : k = 1 ∨ k = 2
    · rcases h12 with rfl | rfl
      · go_enter Tryz.func63, Tryz.ntmps63
        go_wp2
        go_loopw [7] (fun i wr => ∃ t : Nat, t ≤ n ∧ i = .int .i64 t ∧ Hid ((ms.take t).all (fun x => inR 0 cs x) = true) ∧ Hid (True) ∧ Hid ((ms.take t).Nodup) ∧ Below w.heap.size w wr ∧ Has wr w.heap.size 32 #[.int .u8 1, .slice A n c]) (fun i _ => n - (intOf i).toNat)
        case atStart => exact ⟨0, Nat.zero_le _, rfl, by simp [Hid], trivial, by simp [Hid], hb0, Has.new _ _ _⟩
        case round =>
          obtain ⟨t, ht, rfl, hal, hso, hno, hb, hB⟩ := hrel
          have hk0 := hB.cell 0
          have hk1 := hB.cell 1
          by_cases hlt : t < n
          · have hr := h.below hb
            obtain ⟨b, off, v, rfl, hc, hd, hat, _⟩ := hr.step hlt
            have hr' := hr.take (k := t) (by omega)
            by_cases hv : v < 0
            · go_wp2
              go_ret
              refine ⟨ret_b ?_, hb⟩
              have : ms.all (fun x => inR 0 cs x) = false := by
                rw [← Bool.not_eq_true]; intro hh
                have := inR_iff.1 (List.all_eq_true.1 hh v (List.mem_of_getElem? hat.out)); omega
              rw [fineS_1, this]; rfl
            · by_cases hv2 : cs ≤ v
              · go_wp2
                go_ret
                refine ⟨ret_b ?_, hb⟩
                have : ms.all (fun x => inR 0 cs x) = false := by
                  rw [← Bool.not_eq_true]; intro hh
                  have := inR_iff.1 (List.all_eq_true.1 hh v (List.mem_of_getElem? hat.out)); omega
                rw [fineS_1, this]; rfl
              · have b1 : (0 : Int) ≤ (t : Int) := by omega
                have b2 : (t : Int) < (n : Int) := by omega
                have b3 : (t : Int) ≤ (c : Int) := by have := h.2.1; omega
                have hin : inR 0 cs v = true := inR_iff.2 (by omega)
                have Hin := hide hin
                clear hin
                by_cases ht0 : 0 < t
                · have g1 : decide (0 < (t : Int)) = true := by simp; omega
                  go_wp2
                  refine wp_region_more (by kernel_rfl) (by kernel_rfl) ?_
                  repeat (go_big_quiet_step (fail))
                  refine wpQuiet_nil ?_
                  rintro w1 ⟨qw1, hww1⟩
                  have hbw1 := below_of_eq hww1
                  clear hww1 qw1
                  have hc1 := keep_cell hbw1 hc
                  have hr1 := hr'.below hbw1
                  have hbA := Below_trans' hb hb.size hbw1
                  by_cases hm : v ∈ ms.take t
                  · have hp : (0 : Int) ≤ placeS (ms.take t) v 0 := placeS_nn hm
                    have hm' := hide hm
                    clear hm
                    go_wp2
                    refine wp_region_more (by kernel_rfl) (by kernel_rfl) ?_
                    repeat (go_big_quiet_step ((go_at_call 62; exact more_same (place_any _ _ _ (ms.take t) _ _ (hr1.more _)))))
                    refine wpQuiet_nil ?_
                    rintro w2 ⟨qw2, hww2⟩
                    have hbw2 := below_of_eq hww2
                    clear hww2 qw2
                    go_wp2
                    go_ret
                    refine ⟨ret_b ?_, Below_trans' hbA hbA.size hbw2⟩
                    have : nodupB ms = false := decide_eq_false fun hh => ((nodup_take_succ hat.out).1 (nodup_take hh _)).2 hm'.out
                    rw [fineS_1, this]; simp
                  · have hp : placeS (ms.take t) v 0 < 0 := (placeS_neg (Int.le_refl 0)).2 hm
                    have hm' := hide hm
                    clear hm
                    go_wp2
                    refine wp_region_more (by kernel_rfl) (by kernel_rfl) ?_
                    repeat (go_big_quiet_step ((go_at_call 62; exact more_same (place_any _ _ _ (ms.take t) _ _ (hr1.more _)))))
                    refine wpQuiet_nil ?_
                    rintro w2 ⟨qw2, hww2⟩
                    have hbw2 := below_of_eq hww2
                    clear hww2 qw2
                    go_wp2
                    go_roundw
                    case rel =>
                      refine ⟨_, ?_, by go_num, ?_, trivial, (nodup_take_succ hat.out).2 ⟨hno.out, hm'.out⟩, Below_trans' hbA hbA.size hbw2, (hB.below hbw1 hB.lt).below hbw2 (hB.below hbw1 hB.lt).lt⟩
                      · omega
                      · unfold Hid; rw [all_take_succ hat.out, hal.out, Hin.out]; rfl
                    case measure => simp [intOf] <;> omega
                · have g1 : decide (0 < (t : Int)) = false := by simp; omega
                  go_wp2
                  refine wp_region_more (by kernel_rfl) (by kernel_rfl) ?_
                  repeat (go_big_quiet_step (fail))
                  refine wpQuiet_nil ?_
                  rintro w1 ⟨qw1, hww1⟩
                  have hbw1 := below_of_eq hww1
                  clear hww1 qw1
                  have hc1 := keep_cell hbw1 hc
                  have hr1 := hr'.below hbw1
                  have hbA := Below_trans' hb hb.size hbw1
                  by_cases hm : v ∈ ms.take t
                  · have hp : (0 : Int) ≤ placeS (ms.take t) v 0 := placeS_nn hm
                    have hm' := hide hm
                    clear hm
                    go_wp2
                    refine wp_region_more (by kernel_rfl) (by kernel_rfl) ?_
                    repeat (go_big_quiet_step ((go_at_call 62; exact more_same (place_any _ _ _ (ms.take t) _ _ (hr1.more _)))))
                    refine wpQuiet_nil ?_
                    rintro w2 ⟨qw2, hww2⟩
                    have hbw2 := below_of_eq hww2
                    clear hww2 qw2
                    go_wp2
                    go_ret
                    refine ⟨ret_b ?_, Below_trans' hbA hbA.size hbw2⟩
                    have : nodupB ms = false := decide_eq_false fun hh => ((nodup_take_succ hat.out).1 (nodup_take hh _)).2 hm'.out
                    rw [fineS_1, this]; simp
                  · have hp : placeS (ms.take t) v 0 < 0 := (placeS_neg (Int.le_refl 0)).2 hm
                    have hm' := hide hm
                    clear hm
                    go_wp2
                    refine wp_region_more (by kernel_rfl) (by kernel_rfl) ?_
                    repeat (go_big_quiet_step ((go_at_call 62; exact more_same (place_any _ _ _ (ms.take t) _ _ (hr1.more _)))))
                    refine wpQuiet_nil ?_
                    rintro w2 ⟨qw2, hww2⟩
                    have hbw2 := below_of_eq hww2
                    clear hww2 qw2
                    go_wp2
                    go_roundw
                    case rel =>
                      refine ⟨_, ?_, by go_num, ?_, trivial, (nodup_take_succ hat.out).2 ⟨hno.out, hm'.out⟩, Below_trans' hbA hbA.size hbw2, (hB.below hbw1 hB.lt).below hbw2 (hB.below hbw1 hB.lt).lt⟩
                      · omega
                      · unfold Hid; rw [all_take_succ hat.out, hal.out, Hin.out]; rfl
                    case measure => simp [intOf] <;> omega
          · obtain rfl : t = n := by omega
            go_wp2
            go_ret
            refine ⟨ret_b ?_, hb⟩
            have hno' := hno.out
            have hal' := hal.out
            have hso' := hso.out
            rw [List.take_of_length_le (by omega)] at hno' hal'
            try rw [List.take_of_length_le (by omega)] at hso'
            rw [fineS_1]; simp [hal', nodupB, hno']
      · go_enter Tryz.func63, Tryz.ntmps63
        go_wp2
        go_loopw [7] (fun i wr => ∃ t : Nat, t ≤ n ∧ i = .int .i64 t ∧ Hid ((ms.take t).all (fun x => inR 0 cs x) = true) ∧ Hid (sortedB (ms.take t) = true) ∧ Hid ((ms.take t).Nodup) ∧ Below w.heap.size w wr ∧ Has wr w.heap.size 32 #[.int .u8 2, .slice A n c]) (fun i _ => n - (intOf i).toNat)
        case atStart => exact ⟨0, Nat.zero_le _, rfl, by simp [Hid], by simp [Hid, sortedB], by simp [Hid], hb0, Has.new _ _ _⟩
        case round =>
          obtain ⟨t, ht, rfl, hal, hso, hno, hb, hB⟩ := hrel
          have hk0 := hB.cell 0
          have hk1 := hB.cell 1
          by_cases hlt : t < n
          · have hr := h.below hb
            obtain ⟨b, off, v, rfl, hc, hd, hat, _⟩ := hr.step hlt
            have hr' := hr.take (k := t) (by omega)
            by_cases hv : v < 0
            · go_wp2
              go_ret
              refine ⟨ret_b ?_, hb⟩
              have : ms.all (fun x => inR 0 cs x) = false := by
                rw [← Bool.not_eq_true]; intro hh
                have := inR_iff.1 (List.all_eq_true.1 hh v (List.mem_of_getElem? hat.out)); omega
              rw [fineS_2, this]; rfl
            · by_cases hv2 : cs ≤ v
              · go_wp2
                go_ret
                refine ⟨ret_b ?_, hb⟩
                have : ms.all (fun x => inR 0 cs x) = false := by
                  rw [← Bool.not_eq_true]; intro hh
                  have := inR_iff.1 (List.all_eq_true.1 hh v (List.mem_of_getElem? hat.out)); omega
                rw [fineS_2, this]; rfl
              · have b1 : (0 : Int) ≤ (t : Int) := by omega
                have b2 : (t : Int) < (n : Int) := by omega
                have b3 : (t : Int) ≤ (c : Int) := by have := h.2.1; omega
                have hin : inR 0 cs v = true := inR_iff.2 (by omega)
                have Hin := hide hin
                clear hin
                by_cases ht0 : 0 < t
                · have g1 : decide (0 < (t : Int)) = true := by simp; omega
                  obtain ⟨m, rfl⟩ : ∃ m : Nat, t = m + 1 := ⟨t - 1, by omega⟩
                  obtain ⟨b', off', u, e, hc', hd', hu, _⟩ := hr.step (k := m) (by omega)
                  cases e
                  have b4 : (0 : Int) ≤ (m : Int) := by omega
                  have b5 : (m : Int) < (n : Int) := by omega
                  have e1 : IntKind.i64.wrap (m : Int) = m := IntWalk.i64_in _ (by omega)
                  have hs := hide (sorted_take ms m u v hu.out hat.out)
                  by_cases hvu : v ≤ u
                  · go_wp2
                    refine wp_region_more (by kernel_rfl) (by kernel_rfl) ?_
                    repeat (go_big_quiet_step (fail))
                    refine wpQuiet_nil ?_
                    rintro w1 ⟨qw1, hww1⟩
                    have hbw1 := below_of_eq hww1
                    clear hww1 qw1
                    go_wp2
                    go_ret
                    refine ⟨ret_b ?_, Below_trans' hb hb.size hbw1⟩
                    by_cases hvu2 : v = u
                    · have : nodupB ms = false := decide_eq_false fun hh => ((nodup_take_succ hat.out).1 (nodup_take hh _)).2 (by
                        rw [hvu2]; exact mem_take_of hu.out (by omega))
                      rw [fineS_2, this]; simp
                    · have : sortedB ms = false := by
                        rw [← Bool.not_eq_true]; intro hh
                        have h2 := sortedB_take hh (m + 2)
                        rw [hs.out] at h2
                        simp at h2; omega
                      rw [fineS_2, this]; simp
                  · go_wp2
                    refine wp_region_more (by kernel_rfl) (by kernel_rfl) ?_
                    repeat (go_big_quiet_step (fail))
                    refine wpQuiet_nil ?_
                    rintro w1 ⟨qw1, hww1⟩
                    have hbw1 := below_of_eq hww1
                    clear hww1 qw1
                    have hc1 := keep_cell hbw1 hc
                    have hr1 := hr'.below hbw1
                    have hbA := Below_trans' hb hb.size hbw1
                    by_cases hm : v ∈ ms.take (m + 1)
                    · have hp : (0 : Int) ≤ placeS (ms.take (m + 1)) v 0 := placeS_nn hm
                      have hm' := hide hm
                      clear hm
                      go_wp2
                      refine wp_region_more (by kernel_rfl) (by kernel_rfl) ?_
                      repeat (go_big_quiet_step ((go_at_call 62; exact more_same (place_any _ _ _ (ms.take (m + 1)) _ _ (hr1.more _)))))
                      refine wpQuiet_nil ?_
                      rintro w2 ⟨qw2, hww2⟩
                      have hbw2 := below_of_eq hww2
                      clear hww2 qw2
                      go_wp2
                      go_ret
                      refine ⟨ret_b ?_, Below_trans' hbA hbA.size hbw2⟩
                      have : nodupB ms = false := decide_eq_false fun hh => ((nodup_take_succ hat.out).1 (nodup_take hh _)).2 hm'.out
                      rw [fineS_2, this]; simp
                    · have hp : placeS (ms.take (m + 1)) v 0 < 0 := (placeS_neg (Int.le_refl 0)).2 hm
                      have hm' := hide hm
                      clear hm
                      go_wp2
                      refine wp_region_more (by kernel_rfl) (by kernel_rfl) ?_
                      repeat (go_big_quiet_step ((go_at_call 62; exact more_same (place_any _ _ _ (ms.take (m + 1)) _ _ (hr1.more _)))))
                      refine wpQuiet_nil ?_
                      rintro w2 ⟨qw2, hww2⟩
                      have hbw2 := below_of_eq hww2
                      clear hww2 qw2
                      go_wp2
                      go_roundw
                      case rel =>
                        refine ⟨_, ?_, by go_num, ?_, by unfold Hid; rw [hs.out, hso.out]; simp; omega, (nodup_take_succ hat.out).2 ⟨hno.out, hm'.out⟩, Below_trans' hbA hbA.size hbw2, (hB.below hbw1 hB.lt).below hbw2 (hB.below hbw1 hB.lt).lt⟩
                        · omega
                        · unfold Hid; rw [all_take_succ hat.out, hal.out, Hin.out]; rfl
                      case measure => simp [intOf] <;> omega
                · have g1 : decide (0 < (t : Int)) = false := by simp; omega
                  go_wp2
                  refine wp_region_more (by kernel_rfl) (by kernel_rfl) ?_
                  repeat (go_big_quiet_step (fail))
                  refine wpQuiet_nil ?_
                  rintro w1 ⟨qw1, hww1⟩
                  have hbw1 := below_of_eq hww1
                  clear hww1 qw1
                  have hc1 := keep_cell hbw1 hc
                  have hr1 := hr'.below hbw1
                  have hbA := Below_trans' hb hb.size hbw1
                  by_cases hm : v ∈ ms.take t
                  · have hp : (0 : Int) ≤ placeS (ms.take t) v 0 := placeS_nn hm
                    have hm' := hide hm
                    clear hm
                    go_wp2
                    refine wp_region_more (by kernel_rfl) (by kernel_rfl) ?_
                    repeat (go_big_quiet_step ((go_at_call 62; exact more_same (place_any _ _ _ (ms.take t) _ _ (hr1.more _)))))
                    refine wpQuiet_nil ?_
                    rintro w2 ⟨qw2, hww2⟩
                    have hbw2 := below_of_eq hww2
                    clear hww2 qw2
                    go_wp2
                    go_ret
                    refine ⟨ret_b ?_, Below_trans' hbA hbA.size hbw2⟩
                    have : nodupB ms = false := decide_eq_false fun hh => ((nodup_take_succ hat.out).1 (nodup_take hh _)).2 hm'.out
                    rw [fineS_2, this]; simp
                  · have hp : placeS (ms.take t) v 0 < 0 := (placeS_neg (Int.le_refl 0)).2 hm
                    have hm' := hide hm
                    clear hm
                    go_wp2
                    refine wp_region_more (by kernel_rfl) (by kernel_rfl) ?_
                    repeat (go_big_quiet_step ((go_at_call 62; exact more_same (place_any _ _ _ (ms.take t) _ _ (hr1.more _)))))
                    refine wpQuiet_nil ?_
                    rintro w2 ⟨qw2, hww2⟩
                    have hbw2 := below_of_eq hww2
                    clear hww2 qw2
                    go_wp2
                    go_roundw
                    case rel =>
                      refine ⟨_, ?_, by go_num, ?_, first_one ht0 hat.out, (nodup_take_succ hat.out).2 ⟨hno.out, hm'.out⟩, Below_trans' hbA hbA.size hbw2, (hB.below hbw1 hB.lt).below hbw2 (hB.below hbw1 hB.lt).lt⟩
                      · omega
                      · unfold Hid; rw [all_take_succ hat.out, hal.out, Hin.out]; rfl
                    case measure => simp [intOf] <;> omega
          · obtain rfl : t = n := by omega
            go_wp2
            go_ret
            refine ⟨ret_b ?_, hb⟩
            have hno' := hno.out
            have hal' := hal.out
            have hso' := hso.out
            rw [List.take_of_length_le (by omega)] at hno' hal'
            try rw [List.take_of_length_le (by omega)] at hso'
            rw [fineS_2]; simp [hal', nodupB, hno', hso']
    · have k1 : (k != 1) = true := by simp; omega
      have k2 : (k != 2) = true := by simp; omega
      have k3 : (k == 3) = false := by simp; omega
      have hf : Hid (fineS k ms cs = false) := by unfold Hid fineS; rw [if_neg (by omega), if_neg (by omega), if_neg (by omega)]
      go_enter Tryz.func63, Tryz.ntmps63
      go_wp2
      go_ret
      exact ⟨ret_b (by rw [hf.out]), hb0⟩
end Go.Proofs.YtleniljhacnikaaGreat
