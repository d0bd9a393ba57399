/-
  The reference of assertions: By, elected, runoff.
-/
import Derived.Test.YtkmcgpaoekphmaaW41r
import Derived.Test.YtkmcgpaoekphmaaW41l
namespace Go.Proofs.Ytkmcgpaoekphmaa
open Go.RowKit Go.Proofs Go.Shelf
attribute [local go_sem] cell?_more cell?_alloc_some cell?_setCell_far frozen?_alloc_some frozen?_more
theorem by41_any (r : Nat) (w : World) : Calls Try.prog 31 #[.int .u8 (r : Int)] w fun e w' => e = .returned (.int .u8 (by41 r)) ∧ w = w' := by
  have hr : r = 1 ∨ r = 2 ∨ r = 5 ∨ r = 6 ∨ r = 7 ∨ r = 8 ∨ r = 9 ∨ (r ≠ 1 ∧ r ≠ 2 ∧ r ≠ 5 ∧ r ≠ 6 ∧ r ≠ 7 ∧ r ≠ 8 ∧ r ≠ 9) := by omega
  rcases hr with rfl | rfl | rfl | rfl | rfl | rfl | rfl | hr
  · go_enter Try.func31, Try.ntmps31
    go_wp2
    go_ret
    exact ⟨rfl, rfl⟩
  · go_enter Try.func31, Try.ntmps31
    go_wp2
    go_ret
    exact ⟨rfl, rfl⟩
  · go_enter Try.func31, Try.ntmps31
    go_wp2
    go_ret
    exact ⟨rfl, rfl⟩
  · go_enter Try.func31, Try.ntmps31
    go_wp2
    go_ret
    exact ⟨rfl, rfl⟩
  · go_enter Try.func31, Try.ntmps31
    go_wp2
    go_ret
    exact ⟨rfl, rfl⟩
  · go_enter Try.func31, Try.ntmps31
    go_wp2
    go_ret
    exact ⟨rfl, rfl⟩
  · go_enter Try.func31, Try.ntmps31
    go_wp2
    go_ret
    exact ⟨rfl, rfl⟩
  · have hv : Hid (by41 r = 0) := by unfold Hid by41; rw [if_neg hr.1, if_neg hr.2.1, if_neg (by omega), if_neg hr.2.2.2.2.2.2]
    have e1 : ((r : Int) == 1) = false := by simp; omega
    have e2 : ((r : Int) == 2) = false := by simp; omega
    have e5 : ((r : Int) == 5) = false := by simp; omega
    have e6 : ((r : Int) == 6) = false := by simp; omega
    have e7 : ((r : Int) == 7) = false := by simp; omega
    have e8 : ((r : Int) == 8) = false := by simp; omega
    have e9 : ((r : Int) == 9) = false := by simp; omega
    clear hr
    go_enter Try.func31, Try.ntmps31
    go_wp2
    go_ret
    exact ⟨ret_i hv.out.symm, rfl⟩

/-- The first k are distinct candidates. -/
theorem electB_take {xs : List Int} {C k : Nat} {v : Int} (h : xs[k]? = some v) : electB (xs.take (k + 1)) C = (electB (xs.take k) C && inR 0 C v && !inL (xs.take k) v) := by
  rw [take_succ_of h]
  unfold electB
  rw [List.all_append, Bool.eq_iff_iff]
  simp only [List.all_cons, List.all_nil, Bool.and_true, Bool.and_eq_true, decide_eq_true_eq, Bool.not_eq_true', ← Bool.not_eq_true, inL_iff]
  constructor
  · rintro ⟨⟨h1, h2⟩, h3⟩
    rw [List.nodup_append] at h3
    exact ⟨⟨⟨h1, h3.1⟩, h2⟩, fun hm => h3.2.2 v hm v (by simp) rfl⟩
  · rintro ⟨⟨⟨h1, h3⟩, h2⟩, h4⟩
    refine ⟨⟨h1, h2⟩, ?_⟩
    rw [List.nodup_append]
    exact ⟨h3, by simp, fun a ha b hb e => by simp at hb; subst hb; subst e; exact h4 ha⟩
theorem electB_pre {xs : List Int} {C k : Nat} (h : electB (xs.take k) C = false) : electB xs C = false := by
  unfold electB at *
  rw [Bool.and_eq_false_iff] at *
  rcases h with h | h
  · left
    rw [List.all_eq_false] at *
    obtain ⟨x, hx, hb⟩ := h
    exact ⟨x, List.mem_of_mem_take hx, hb⟩
  · right
    rw [decide_eq_false_iff_not] at *
    exact fun hn => h (hn.sublist (List.take_sublist _ _))
set_option maxRecDepth 100000 in
set_option maxHeartbeats 2000000 in
theorem elected41_any (A : Option Addr) (n c : Nat) (xs : List Int) (seats : Int) (C : Nat) (w : World) (h : RInts w A n c xs) :
    Calls Try.prog 32 #[.slice A n c, .int .i64 seats, .int .i64 (C : Int)] w fun e w' => e = .returned (.bool (((n : Int) == seats) && electB xs C)) ∧ Below w.heap.size w w' := by
  have hn := h.le
  have hnc := h.2.1
  have hcm := h.2.2.1
  have Hl := hide h.len
  by_cases hs : (n : Int) = seats
  · have b1 : ((n : Int) != seats) = false := by simp [hs]
    have b2 : ((n : Int) == seats) = true := by simp [hs]
    clear hs
    rw [b2, Bool.true_and]
    clear b2
    go_enter Try.func32, Try.ntmps32
    go_wp2
    go_loopw [7] (fun i wr => ∃ k : Nat, k ≤ n ∧ i = .int .i64 k ∧ Hid (electB (xs.take k) C = true) ∧ Below w.heap.size w wr) (fun i _ => n - (intOf i).toNat)
    case atStart => exact ⟨0, Nat.zero_le _, rfl, rfl, Below.refl _ _⟩
    case round =>
      obtain ⟨k, hk, rfl, hp, hb⟩ := hrel
      by_cases hlt : k < n
      · have h1 := h.below hb
        have hT := h1.take (k := k) (by omega)
        obtain ⟨b, off, v, rfl, hc, _, hat, _⟩ := h1.step hlt
        have hkc : k ≤ c := by omega
        have hst := hide (electB_take (C := C) hat.out)
        have hIn : ∀ q, Calls Try.prog 34 #[.slice (some ⟨b, off, none⟩) k c, .int .i64 v] (More wr q) fun e w' => e = .returned (.bool (inL (xs.take k) v)) ∧ More wr q = w' := fun q => in41_any _ _ _ _ _ _ (hT.more q)
        have hbad : Hid ((inR 0 C v && !inL (xs.take k) v) = false → electB xs C = false) := fun hf => electB_pre (k := k + 1) (by rw [hst.out, Bool.and_assoc, hf, Bool.and_false])
        have hgood : Hid ((inR 0 C v && !inL (xs.take k) v) = true → electB (xs.take (k + 1)) C = true) := fun ht => by rw [hst.out, Bool.and_assoc, ht, hp.out]; rfl
        clear hst
        by_cases v0 : v < 0
        · have hv := hide (hbad.out (by unfold inR; rw [decide_eq_false (by omega)]; rfl))
          have d0 : decide (v < 0) = true := by simpa using v0
          go_wp2
          refine wp_region_more (by kernel_rfl) (by kernel_rfl) ?_
          repeat (go_big_quiet_step (fail))
          refine wpQuiet_nil ?_
          rintro w1 ⟨qw1, hww1⟩
          have hbw1 := below_of_eq hww1
          clear hww1 qw1
          go_wp2
          go_ret
          exact ⟨ret_b hv.out.symm, Below_trans' hb hb.size hbw1⟩
        · have d0 : decide (v < 0) = false := by simpa using v0
          by_cases vC : (C : Int) ≤ v
          · have hv := hide (hbad.out (by unfold inR; rw [decide_eq_false (show ¬ v < (C : Int) by omega)]; simp))
            have d1 : decide ((C : Int) ≤ v) = true := by simpa using vC
            go_wp2
            refine wp_region_more (by kernel_rfl) (by kernel_rfl) ?_
            repeat (go_big_quiet_step (fail))
            refine wpQuiet_nil ?_
            rintro w1 ⟨qw1, hww1⟩
            have hbw1 := below_of_eq hww1
            clear hww1 qw1
            go_wp2
            go_ret
            exact ⟨ret_b hv.out.symm, Below_trans' hb hb.size hbw1⟩
          · have d1 : decide ((C : Int) ≤ v) = false := by simpa using vC
            have hr : Hid (inR 0 C v = true) := by unfold Hid; rw [inR_iff]; omega
            cases hi : inL (xs.take k) v with
            | true =>
              have hv := hide (hbad.out (by rw [hi]; simp))
              rw [hi] at hIn
              clear hi
              go_wp2
              refine wp_region_more (by kernel_rfl) (by kernel_rfl) ?_
              repeat (go_big_quiet_step ((go_at_call 34; with_reducible exact more_same (hIn _))))
              refine wpQuiet_nil ?_
              rintro w1 ⟨qw1, hww1⟩
              have hbw1 := below_of_eq hww1
              clear hww1 qw1
              go_wp2
              go_ret
              exact ⟨ret_b hv.out.symm, Below_trans' hb hb.size hbw1⟩
            | false =>
              have hv := hide (hgood.out (by rw [hi, hr.out]; rfl))
              rw [hi] at hIn
              clear hi
              go_wp2
              refine wp_region_more (by kernel_rfl) (by kernel_rfl) ?_
              repeat (go_big_quiet_step ((go_at_call 34; with_reducible exact more_same (hIn _))))
              refine wpQuiet_nil ?_
              rintro w1 ⟨qw1, hww1⟩
              have hbw1 := below_of_eq hww1
              clear hww1 qw1
              have hbb := Below_trans' hb hb.size hbw1
              go_wp2
              go_roundw
              case rel => exact ⟨k + 1, by omega, by go_num, hv, hbb⟩
              case measure => simp [intOf] <;> omega
      · have hv : Hid (electB xs C = true) := by
          have := hp.out
          rw [List.take_of_length_le (by rw [Hl.out]; omega)] at this
          exact this
        go_wp2
        go_ret
        exact ⟨ret_b hv.out.symm, hb⟩
  · have b1 : ((n : Int) != seats) = true := by simp [hs]
    have b2 : Hid ((((n : Int) == seats) && electB xs C) = false) := by unfold Hid; simp [hs]
    clear hs
    go_enter Try.func32, Try.ntmps32
    go_wp2
    go_ret
    exact ⟨ret_b b2.out.symm, Below.refl _ _⟩
end Go.Proofs.Ytkmcgpaoekphmaa
