/-
  Prefers, in the program and in the reference; the reference's Check, Ahead, Ints, Turned.
-/
import Derived.Test.YtleniljhacnikaaGreatW8c
namespace Go.Proofs.YtleniljhacnikaaGreat
open Go.RowKit Go.Proofs
attribute [local go_sem] cell?_more cell?_alloc_some

theorem rbcheck_any (k : Int) (A : Option Addr) (n c : Nat) (ms : List Int) (cs : Int) (w : World) (h : RInts w A n c ms) :
    Calls Tryz.prog 56 #[.agg #[.int .u8 k, .slice A n c], .int .i64 cs] w fun e w' => e = .returned (.int .i64 (bcheckS k ms cs)) ∧ Below w.heap.size w w' := by
  have hb0 := (Below.refl w.heap.size w).alloc (Nat.le_refl _) (.cells #[.int .u8 k, .slice A n c] 32)
  by_cases hc : cs < 1
  · go_enter Tryz.func56, Tryz.ntmps56
    go_wp2
    go_ret
    exact ⟨ret_i (by rw [bcheckS, if_pos (by omega)]), hb0⟩
  · by_cases hc2 : 10 < cs
    · go_enter Tryz.func56, Tryz.ntmps56
      go_wp2
      go_ret
      exact ⟨ret_i (by rw [bcheckS, if_pos (by omega)]), hb0⟩
    · by_cases hf : fineS k ms cs = true
      · have Hf := hide hf
        clear hf
        go_enter Tryz.func56, Tryz.ntmps56
        go_wp2_with (go_at_call 63; refine (rfine_any _ _ _ _ ms _ _ (h.below hb0)).mono ?_; rintro e w1 ⟨he, hb1⟩; rw [Hf.out] at he; subst he)
        go_ret
        exact ⟨ret_i (by rw [bcheckS, if_neg (by omega), if_pos Hf.out]), hb0.trans (hb1.mono (by simp))⟩
      · have hf' : fineS k ms cs = false := by simpa using hf
        have Hf := hide hf'
        clear hf hf'
        go_enter Tryz.func56, Tryz.ntmps56
        go_wp2_with (go_at_call 63; refine (rfine_any _ _ _ _ ms _ _ (h.below hb0)).mono ?_; rintro e w1 ⟨he, hb1⟩; rw [Hf.out] at he; subst he)
        go_ret
        exact ⟨ret_i (by rw [bcheckS, if_neg (by omega), if_neg (by rw [Hf.out]; simp)]), hb0.trans (hb1.mono (by simp))⟩

theorem ints_any (A A' : Option Addr) (n c n' c' : Nat) (xs ys : List Int) (w : World) (h : RInts w A n c xs) (h' : RInts w A' n' c' ys) :
    Calls Tryz.prog 20 #[.slice A n c, .slice A' n' c'] w fun e w' => e = .returned (.bool (xs == ys)) ∧ Below w.heap.size w w' := by
  have hn := h.le
  have hn' := h'.le
  have hl := h.len
  have hl' := h'.len
  by_cases hnn : n = n'
  · subst hnn
    go_enter Tryz.func20, Tryz.ntmps20
    go_wp2
    go_loopw [5] (fun i wr => ∃ k : Nat, k ≤ n ∧ i = .int .i64 k ∧ Hid ((xs == ys) = (xs.drop k == ys.drop k)) ∧ Below w.heap.size w wr) (fun i _ => n - (intOf i).toNat)
    case atStart => exact ⟨0, Nat.zero_le _, rfl, by simp [Hid], Below.refl _ _⟩
    case round =>
      obtain ⟨k, hk, rfl, hp, hb⟩ := hrel
      by_cases hlt : k < n
      · obtain ⟨b, off, v, rfl, hc, hd, _⟩ := (h.below hb).step hlt
        obtain ⟨b', off', u, rfl, hc', hd', _⟩ := (h'.below hb).step hlt
        have b1 : (0 : Int) ≤ (k : Int) := by omega
        have b2 : (k : Int) < (n : Int) := by omega
        by_cases hv : v = u
        · have hz : (v != u) = false := by simp [hv]
          have Hv := hide hv
          clear hv
          go_wp2
          refine wp_region_more (by kernel_rfl) (by kernel_rfl) ?_
          repeat (go_big_quiet_step (fail))
          refine wpQuiet_nil ?_
          rintro w1 ⟨qw1, hww1⟩
          have hbw1 := below_of_eq hww1
          clear hww1 qw1
          go_wp2
          go_roundw
          case rel => exact ⟨k + 1, by omega, by go_num, by unfold Hid; rw [hp.out, hd.out, hd'.out, Hv.out]; simp, Below_trans' hb hb.size hbw1⟩
          case measure => simp [intOf] <;> omega
        · have hz : (v != u) = true := by simp [hv]
          go_wp2
          refine wp_region_more (by kernel_rfl) (by kernel_rfl) ?_
          repeat (go_big_quiet_step (fail))
          refine wpQuiet_nil ?_
          rintro w1 ⟨qw1, hww1⟩
          have hbw1 := below_of_eq hww1
          clear hww1 qw1
          go_wp2
          go_ret
          exact ⟨ret_b (by rw [hp.out, hd.out, hd'.out]; simp [hv]), Below_trans' hb hb.size hbw1⟩
      · have hd := hide (h.done hlt)
        have hd' := hide (h'.done hlt)
        go_wp2
        go_ret
        exact ⟨ret_b (by rw [hp.out, hd.out, hd'.out]; simp), hb⟩
  · have hz : ((n : Int) != (n' : Int)) = true := by simp; omega
    have hne : (xs == ys) = false := by
      rw [← Bool.not_eq_true]; intro hh; rw [beq_iff_eq] at hh; subst hh; omega
    have Hne := hide hne
    clear hne
    go_enter Tryz.func20, Tryz.ntmps20
    go_wp2
    go_ret
    exact ⟨ret_b (by rw [Hne.out]), Below.refl _ _⟩

/-- One list comes before another. -/
def aheadB (xs ys : List Int) : Bool := decide (cmpL xs ys < 0)

theorem ahead_any (A A' : Option Addr) (n c n' c' : Nat) (xs ys : List Int) (w : World) (h : RInts w A n c xs) (h' : RInts w A' n' c' ys) :
    Calls Tryz.prog 57 #[.slice A n c, .slice A' n' c'] w fun e w' => e = .returned (.bool (aheadB xs ys)) ∧ Below w.heap.size w w' := by
  have hn := h.le
  have hn' := h'.le
  go_enter Tryz.func57, Tryz.ntmps57
  go_wp2
  go_loopw [5] (fun i wr => ∃ k : Nat, k ≤ n ∧ k ≤ n' ∧ i = .int .i64 k ∧ Hid (cmpL xs ys = cmpL (xs.drop k) (ys.drop k)) ∧ Below w.heap.size w wr) (fun i _ => n - (intOf i).toNat)
  case atStart => exact ⟨0, Nat.zero_le _, Nat.zero_le _, rfl, by simp [Hid], Below.refl _ _⟩
  case round =>
    obtain ⟨k, hk, hk', rfl, hp, hb⟩ := hrel
    by_cases hlt : k < n
    · obtain ⟨b, off, v, rfl, hc, hd, _⟩ := (h.below hb).step hlt
      by_cases hlt' : k < n'
      · obtain ⟨b', off', u, rfl, hc', hd', _⟩ := (h'.below hb).step hlt'
        have b1 : (0 : Int) ≤ (k : Int) := by omega
        have b2 : (k : Int) < (n : Int) := by omega
        have b3 : (k : Int) < (n' : Int) := by omega
        by_cases hv : v = u
        · have hz : (v != u) = false := by simp [hv]
          have Hv := hide hv
          clear hv
          go_wp2
          refine wp_region_more (by kernel_rfl) (by kernel_rfl) ?_
          repeat (go_big_quiet_step (fail))
          refine wpQuiet_nil ?_
          rintro w1 ⟨qw1, hww1⟩
          have hbw1 := below_of_eq hww1
          clear hww1 qw1
          go_wp2
          go_roundw
          case rel => exact ⟨k + 1, by omega, by omega, by go_num, by unfold Hid; rw [hp.out, hd.out, hd'.out, Hv.out]; simp [cmpL, cmpI], Below_trans' hb hb.size hbw1⟩
          case measure => simp [intOf] <;> omega
        · have hz : (v != u) = true := by simp [hv]
          go_wp2
          refine wp_region_more (by kernel_rfl) (by kernel_rfl) ?_
          repeat (go_big_quiet_step (fail))
          refine wpQuiet_nil ?_
          rintro w1 ⟨qw1, hww1⟩
          have hbw1 := below_of_eq hww1
          clear hww1 qw1
          have hc2 := keep_cell hbw1 hc
          have hc2' := keep_cell hbw1 hc'
          go_wp2
          refine wp_region_more (by kernel_rfl) (by kernel_rfl) ?_
          repeat (go_big_quiet_step (fail))
          refine wpQuiet_nil ?_
          rintro w2 ⟨qw2, hww2⟩
          have hbw2 := below_of_eq hww2
          clear hww2 qw2
          go_wp2
          go_ret
          refine ⟨ret_b ?_, Below_trans' (Below_trans' hb hb.size hbw1) (Below_trans' hb hb.size hbw1).size hbw2⟩
          rw [aheadB, hp.out, hd.out, hd'.out]
          by_cases h1 : v < u
          · simp [cmpL, cmpI, h1]
          · have h2 : u < v := by omega
            simp [cmpL, cmpI, h1, h2]
      · have hd' := hide (h'.done hlt')
        go_wp2
        go_ret
        exact ⟨ret_b (by rw [aheadB, hp.out, hd.out, hd'.out]; simp [cmpL] <;> omega), hb⟩
    · have hd := hide (h.done hlt)
      by_cases hlt' : n < n'
      · obtain ⟨b', off', u, rfl, hc', hd', _⟩ := (h'.below hb).step (k := k) (by omega)
        go_wp2
        go_ret
        exact ⟨ret_b (by rw [aheadB, hp.out, hd.out, hd'.out]; simp [cmpL] <;> omega), hb⟩
      · have hd' := hide (h'.done (k := k) (by omega))
        go_wp2
        go_ret
        exact ⟨ret_b (by rw [aheadB, hp.out, hd.out, hd'.out]; simp [cmpL] <;> omega), hb⟩



end Go.Proofs.YtleniljhacnikaaGreat
