/-
  The reference's naturals: words of 32 bits; numbers of one word.
-/
import Derived.Test.YtolbceckbnifmaaGreatOwn
import Derived.Test.YtolbceckbnifmaaGreatW8a
import Derived.Deep.Cut
namespace Go.Proofs.YtolbceckbnifmaaGreat
open Go.RowKit Go.Proofs
attribute [local go_sem] cell?_more cell?_alloc_some cell?_setCell_far frozen?_alloc_some frozen?_more

/-- A number of one word. -/
def lm (a : Int) : List Int := if a = 0 then [] else [a]
theorem lm_zero : lm 0 = [] := rfl
theorem lm_pos {a : Int} (h : a ≠ 0) : lm a = [a] := by unfold lm; rw [if_neg h]
theorem lm_len (a : Int) : (lm a).length ≤ 1 := by unfold lm; split <;> simp
/-- It is trimmed. -/
def okW (xs : List Int) : Prop := xs.length ≤ 96 ∧ ∀ x, xs.getLast? = some x → x ≠ 0
theorem lm_ok (a : Int) : okW (lm a) := by
  unfold lm okW
  split
  · exact ⟨by simp, fun x h => by simp at h⟩
  · rename_i h; exact ⟨by simp, fun x hx => by simp at hx; subst hx; exact h⟩
theorem one_ok : okW [1] := ⟨by simp, fun x hx => by simp at hx; subst hx; omega⟩

set_option maxRecDepth 100000 in
theorem wcheck_ok (A : Option Addr) (n c : Nat) (xs : List Int) (w : World) (h : RWrds w A n c xs) (hk : okW xs) :
    Calls Tryz.prog 164 #[.slice A n c] w fun e w' => e = .returned (.int .i64 0) ∧ w = w' := by
  have hl := h.len
  have hn : n ≤ 96 := by have := hk.1; omega
  have b0 : ¬ (96 : Int) < (n : Int) := by omega
  by_cases h0 : 0 < n
  · obtain ⟨b, off, v, rfl, hc, _, hat, hv0, hv1⟩ := h.step (show n - 1 < n by omega)
    have hvz : v ≠ 0 := hk.2 v (by rw [List.getLast?_eq_getElem?, hl]; exact hat.out)
    have e1 : (v == 0) = false := by simpa using hvz
    have b1 : (0 : Int) < (n : Int) := by omega
    have e2 : (n : Int) - 1 = ((n - 1 : Nat) : Int) := by omega
    have b3 : (0 : Int) ≤ ((n - 1 : Nat) : Int) := by omega
    have b4 : ((n - 1 : Nat) : Int) < (n : Int) := by omega
    clear hvz hat
    go_enter Tryz.func164, Tryz.ntmps164
    go_wp2
    go_ret
    exact ⟨rfl, rfl⟩
  · have b1 : ¬ (0 : Int) < (n : Int) := by omega
    go_enter Tryz.func164, Tryz.ntmps164
    go_wp2
    go_ret
    exact ⟨rfl, rfl⟩
theorem wboth_ok (A : Option Addr) (n c : Nat) (xs : List Int) (A' : Option Addr) (n' c' : Nat) (ys : List Int) (w : World) (h : RWrds w A n c xs) (h' : RWrds w A' n' c' ys) (hk : okW xs) (hk' : okW ys) :
    Calls Tryz.prog 154 #[.slice A n c, .slice A' n' c'] w fun e w' => e = .returned (.int .i64 0) ∧ w = w' := by
  go_enter Tryz.func154, Tryz.ntmps154
  go_wp2_with fail
  refine (wcheck_ok A n c xs w h hk).mono ?_
  rintro e w' ⟨rfl, rfl⟩
  go_wp2_with fail
  refine (wcheck_ok A' n' c' ys w h' hk').mono ?_
  rintro e w' ⟨rfl, rfl⟩
  go_wp2
  go_ret
  exact ⟨rfl, rfl⟩
theorem at_val (A : Option Addr) (n c : Nat) (xs : List Int) (i : Nat) (w : World) (h : RWrds w A n c xs) {v : Int} (hv : xs.getD i 0 = v) :
    Calls Tryz.prog 165 #[.slice A n c, .int .i64 (i : Int)] w fun e w' => e = .returned (.int .u64 v) ∧ w = w' := by
  have hl := h.len
  by_cases h0 : i < n
  · obtain ⟨b, off, u, rfl, hc, _, hat, hv0, hv1⟩ := h.step h0
    obtain rfl : u = v := by rw [← hv]; simp [List.getD, hat.out]
    have b1 : (0 : Int) ≤ (i : Int) := by omega
    have b2 : (i : Int) < (n : Int) := by omega
    have b3 : ¬ (n : Int) ≤ (i : Int) := by omega
    clear hat hv
    go_enter Tryz.func165, Tryz.ntmps165
    go_wp2
    go_ret
    exact ⟨rfl, rfl⟩
  · have b3 : (n : Int) ≤ (i : Int) := by omega
    obtain rfl : 0 = v := by rw [← hv]; simp [List.getD, List.getElem?_eq_none (show xs.length ≤ i by omega)]
    clear hv
    go_enter Tryz.func165, Tryz.ntmps165
    go_wp2
    go_ret
    exact ⟨rfl, rfl⟩
set_option maxRecDepth 100000 in
set_option maxHeartbeats 1000000 in
theorem wsame_any (A A' : Option Addr) (n c n' c' : Nat) (xs ys : List Int) (w : World) (h : RWrds w A n c xs) (h' : RWrds w A' n' c' ys) :
    Calls Tryz.prog 105 #[.slice A n c, .slice A' n' c'] w fun e w' => e = .returned (.bool (xs == ys)) ∧ Below w.heap.size w w' := by
  have hn := h.le
  have hn' := h'.le
  have hl := h.len
  have hl' := h'.len
  by_cases hnn : n = n'
  · subst hnn
    go_enter Tryz.func105, Tryz.ntmps105
    go_wp2
    go_loopw [5] (fun i wr => ∃ k : Nat, k ≤ n ∧ i = .int .i64 k ∧ Hid ((xs == ys) = (xs.drop k == ys.drop k)) ∧ Below w.heap.size w wr) (fun i _ => n - (intOf i).toNat)
    case atStart => exact ⟨0, Nat.zero_le _, rfl, by simp [Hid], Below.refl _ _⟩
    case round =>
      obtain ⟨k, hk, rfl, hp, hb⟩ := hrel
      by_cases hlt : k < n
      · obtain ⟨b, off, v, rfl, hc, hd, _⟩ := (h.below hb).step hlt
        obtain ⟨b', off', u, rfl, hc', hd', _⟩ := (h'.below hb).step hlt
        have b1 : (0 : Int) ≤ (k : Int) := by omega
        have b2 : (k : Int) < (n : Int) := by omega
        by_cases hv : v = u
        · have hz : (v != u) = false := by simp [hv]
          have Hv := hide hv
          clear hv
          go_wp2
          refine wp_region_more (by kernel_rfl) (by kernel_rfl) ?_
          repeat (go_big_quiet_step (fail))
          refine wpQuiet_nil ?_
          rintro w1 ⟨qw1, hww1⟩
          have hbw1 := below_of_eq hww1
          clear hww1 qw1
          go_wp2
          go_roundw
          case rel => exact ⟨k + 1, by omega, by go_num, by unfold Hid; rw [hp.out, hd.out, hd'.out, Hv.out]; simp, Below_trans' hb hb.size hbw1⟩
          case measure => simp [intOf] <;> omega
        · have hz : (v != u) = true := by simp [hv]
          go_wp2
          refine wp_region_more (by kernel_rfl) (by kernel_rfl) ?_
          repeat (go_big_quiet_step (fail))
          refine wpQuiet_nil ?_
          rintro w1 ⟨qw1, hww1⟩
          have hbw1 := below_of_eq hww1
          clear hww1 qw1
          go_wp2
          go_ret
          exact ⟨ret_b (by rw [hp.out, hd.out, hd'.out]; simp [hv]), Below_trans' hb hb.size hbw1⟩
      · go_wp2
        go_ret
        exact ⟨ret_b (by rw [hp.out, h.done hlt, h'.done hlt]; rfl), hb⟩
  · have hnz : ((n : Int) != (n' : Int)) = true := by simp; omega
    go_enter Tryz.func105, Tryz.ntmps105
    go_wp2
    go_ret
    exact ⟨ret_b (by symm; rw [beq_eq_false_iff_ne]; intro e; apply hnn; rw [← hl, ← hl', e]), Below.refl _ _⟩
/-- Which of two numbers of one word is less. -/
theorem less_small (A A' : Option Addr) (n c n' c' : Nat) (a b : Int) (w : World) (h : RWrds w A n c (lm a)) (h' : RWrds w A' n' c' (lm b)) (ha : 0 ≤ a) (hb : 0 ≤ b) :
    Calls Tryz.prog 157 #[.slice A n c, .slice A' n' c'] w fun e w' => e = .returned (.bool (decide (a < b))) ∧ Below w.heap.size w w' := by
  have hl := h.len
  have hl' := h'.len
  by_cases ha0 : a = 0
  · subst ha0
    rw [lm_zero] at hl
    simp at hl
    subst hl
    by_cases hb0 : b = 0
    · subst hb0
      rw [lm_zero] at hl'
      simp at hl'
      subst hl'
      go_enter Tryz.func157, Tryz.ntmps157
      go_wp2
      go_loopw [5] (fun i wr => i = .int .i64 (-1) ∧ wr = w) (fun _ _ => 0)
      case atStart => exact ⟨by go_num, rfl⟩
      case round =>
        obtain ⟨rfl, rfl⟩ := hrel
        go_wp2
        go_ret
        exact ⟨rfl, Below.refl _ _⟩
    · rw [lm_pos hb0] at hl'
      simp at hl'
      subst hl'
      go_enter Tryz.func157, Tryz.ntmps157
      go_wp2
      go_ret
      exact ⟨ret_b (by simp; omega), Below.refl _ _⟩
  · rw [lm_pos ha0] at hl h
    simp at hl
    subst hl
    by_cases hb0 : b = 0
    · subst hb0
      rw [lm_zero] at hl'
      simp at hl'
      subst hl'
      go_enter Tryz.func157, Tryz.ntmps157
      go_wp2
      go_ret
      exact ⟨ret_b (by symm; simp; omega), Below.refl _ _⟩
    · rw [lm_pos hb0] at hl' h'
      simp at hl'
      subst hl'
      obtain ⟨b1, off, v, rfl, hc, _, hat, _⟩ := h.step (show 0 < 1 by omega)
      obtain ⟨b2, off', u, rfl, hc', _, hat', _⟩ := h'.step (show 0 < 1 by omega)
      obtain rfl : a = v := by simpa using hat.out
      obtain rfl : b = u := by simpa using hat'.out
      simp only [Nat.add_zero] at hc hc'
      clear hat hat'
      go_enter Tryz.func157, Tryz.ntmps157
      go_wp2
      go_loopw [5] (fun i wr => ((i = .int .i64 0) ∨ (i = .int .i64 (-1) ∧ a = b)) ∧ Below w.heap.size w wr) (fun i _ => (intOf i + 1).toNat)
      case atStart => exact ⟨.inl (by go_num), Below.refl _ _⟩
      case round =>
        obtain ⟨hi, hbw⟩ := hrel
        rcases hi with rfl | ⟨rfl, hab⟩
        · have c1 := keep_cell hbw hc
          have c2 := keep_cell hbw hc'
          by_cases hab : a = b
          · have hz : (a != b) = false := by simp [hab]
            have HAB := hide hab
            clear hab
            go_wp2
            refine wp_region_more (by kernel_rfl) (by kernel_rfl) ?_
            repeat (go_big_quiet_step (fail))
            refine wpQuiet_nil ?_
            rintro w1 ⟨qw1, hww1⟩
            have hbw1 := below_of_eq hww1
            clear hww1 qw1
            go_wp2
            go_roundw
            case rel => exact ⟨.inr ⟨by go_num, HAB.out⟩, Below_trans' hbw hbw.size hbw1⟩
            case measure => simp [intOf]
          · have hz : (a != b) = true := by simp [hab]
            go_wp2
            refine wp_region_more (by kernel_rfl) (by kernel_rfl) ?_
            repeat (go_big_quiet_step (fail))
            refine wpQuiet_nil ?_
            rintro w1 ⟨qw1, hww1⟩
            have hbw1 := below_of_eq hww1
            clear hww1 qw1
            have hb1 := Below_trans' hbw hbw.size hbw1
            have d1 := keep_cell hb1 hc
            have d2 := keep_cell hb1 hc'
            go_upto_region 7 with (fail)
            refine wp_region_more (by kernel_rfl) (by kernel_rfl) ?_
            repeat (go_big_quiet_step (fail))
            refine wpQuiet_nil ?_
            rintro w2 ⟨qw2, hww2⟩
            have hbw2 := below_of_eq hww2
            clear hww2 qw2
            go_wp2
            go_ret
            exact ⟨rfl, Below_trans' hb1 hb1.size hbw2⟩
        · go_wp2
          go_ret
          exact ⟨ret_b (by simp; omega), hbw⟩
end Go.Proofs.YtolbceckbnifmaaGreat
