/-
  Assertions: the reference's validity, kind of ballots, and value of a ballot.
  Assertions: the reference's value of a ballot.
  Assertions: the total of a profile, plain; and as both count it.
-/
import Derived.Test.YtkmcgpaoekphmaaGreatW41a
import Derived.Test.YtkmcgpaoekphmaaGreatW8a
import Derived.Test.YtkmcgpaoekphmaaGreatW9a
namespace Go.Proofs.YtkmcgpaoekphmaaGreat
open Go.RowKit Go.Proofs Go.Shelf
attribute [local go_sem] cell?_more cell?_alloc_some cell?_setCell_far frozen?_alloc_some frozen?_more
set_option maxRecDepth 100000 in
theorem in41v_any (A : Option Addr) (n c : Nat) (xs : List Int) (x : Int) (w : World) (h : RInts w A n c xs) :
    Calls Tryz.prog 58 #[.slice A n c, .int .i64 x] w fun e w' => e = .returned (.bool (inL xs x)) ∧ w = w' := by
  have hn := h.le
  have Hl := hide h.len
  go_enter Tryz.func58, Tryz.ntmps58
  go_wp2
  go_loopw [5] (fun i wr => ∃ k : Nat, k ≤ n ∧ i = .int .i64 k ∧ Hid (inL (xs.take k) x = false) ∧ w = wr) (fun i _ => n - (intOf i).toNat)
  case atStart => exact ⟨0, Nat.zero_le _, rfl, rfl, rfl⟩
  case round =>
    obtain ⟨k, hk, rfl, hp, rfl⟩ := hrel
    by_cases hlt : k < n
    · obtain ⟨b, off, v, rfl, hc, _, hat, _⟩ := h.step hlt
      by_cases hv : v = x
      · have b1 : (v == x) = true := by simp [hv]
        have hr : Hid (inL xs x = true) := inL_iff.2 (hv ▸ List.mem_of_getElem? hat.out)
        clear hv
        go_wp2
        go_ret
        exact ⟨ret_b hr.out.symm, by trivial⟩
      · have b1 : (v == x) = false := by simp [hv]
        have hr : Hid (inL (xs.take (k + 1)) x = false) := by
          unfold Hid
          rw [List.take_add_one, hat.out]
          have h0 := hp.out
          unfold inL at *
          simp at h0 ⊢
          exact ⟨h0, fun e => hv e.symm⟩
        clear hv
        go_wp2
        go_roundw
        case rel => exact ⟨k + 1, by omega, by go_num, hr, by trivial⟩
        case measure => simp [intOf] <;> omega
    · have hkn : k = n := by omega
      have hv : Hid (inL xs x = false) := by
        have := hp.out
        rw [hkn, List.take_of_length_le (by rw [Hl.out]; omega)] at this
        exact this
      go_wp2
      go_ret
      exact ⟨ret_b hv.out.symm, by trivial⟩
theorem in41v_val {E : Bool} (A : Option Addr) (n c : Nat) (xs : List Int) (x : Int) (w : World) (h : RInts w A n c xs) (hE : inL xs x = E) : Calls Tryz.prog 58 #[.slice A n c, .int .i64 x] w fun e w' => e = .returned (.bool E) ∧ w = w' := hE ▸ in41v_any A n c xs x w h

set_option maxRecDepth 100000 in
/-- The first who is left, or -1. -/
theorem leads_any (A : Option Addr) (n c : Nat) (ms : List Int) (A' : Option Addr) (n' c' : Nat) (L : List Int) (w : World) (h : RInts w A n c ms) (h' : RInts w A' n' c' L) :
    Calls Tryz.prog 60 #[.slice A n c, .slice A' n' c'] w fun e w' => e = .returned (.int .i64 ((firstL ms L).getD (-1))) ∧ w = w' := by
  have hn := h.le
  have Hl := hide h.len
  go_enter Tryz.func60, Tryz.ntmps60
  go_wp2
  go_loopw [5] (fun i wr => ∃ k : Nat, k ≤ n ∧ i = .int .i64 k ∧ Hid (firstL ms L = firstL (ms.drop k) L) ∧ w = wr) (fun i _ => n - (intOf i).toNat)
  case atStart => exact ⟨0, Nat.zero_le _, rfl, rfl, rfl⟩
  case round =>
    obtain ⟨k, hk, rfl, hp, rfl⟩ := hrel
    by_cases hlt : k < n
    · obtain ⟨b, off, v, rfl, hc, hd, hat, _⟩ := h.step hlt
      cases hin : inL L v with
      | true =>
        have hv : Hid ((firstL ms L).getD (-1) = v) := by unfold Hid; rw [hp.out, hd.out, firstL_cons_t hin]; rfl
        have Hin := hide hin
        clear hin
        go_wp2_with (go_at_call 58; with_reducible refine (in41v_val _ _ _ _ _ _ h' Hin.out).mono ?_; rintro e w' ⟨rfl, rfl⟩)
        go_ret
        exact ⟨ret_i hv.out.symm, by trivial⟩
      | false =>
        have hv : Hid (firstL ms L = firstL (ms.drop (k + 1)) L) := by unfold Hid; rw [hp.out, hd.out, firstL_cons_f hin]
        have Hin := hide hin
        clear hin
        go_wp2_with (go_at_call 58; with_reducible refine (in41v_val _ _ _ _ _ _ h' Hin.out).mono ?_; rintro e w' ⟨rfl, rfl⟩)
        go_roundw
        case rel => exact ⟨k + 1, by omega, by go_num, hv, by trivial⟩
        case measure => simp [intOf] <;> omega
    · have hkn : k = n := by omega
      have hv : Hid ((firstL ms L).getD (-1) = -1) := by unfold Hid; rw [hp.out, hkn, List.drop_of_length_le (by rw [Hl.out]; omega)]; rfl
      go_wp2
      go_ret
      exact ⟨ret_i hv.out.symm, rfl⟩

theorem rkind41_any (k x y : Int) (A : Option Addr) (n cp : Nat) (w : World) :
    Calls Tryz.prog 29 #[.agg #[.int .u8 k, .int .i64 x, .int .i64 y, .slice A n cp]] w fun e w' => e = .returned (.int .u8 (kindA k)) ∧ Below w.heap.size w w' := by
  have hb : Below w.heap.size w (w.alloc (.cells #[.int .u8 k, .int .i64 x, .int .i64 y, .slice A n cp] 24)) := below_allocN
  have hP := Has.new w 24 #[.int .u8 k, .int .i64 x, .int .i64 y, .slice A n cp]
  go_enter Tryz.func29, Tryz.ntmps29
  go_upto_region 1 with fail
  generalize World.alloc w _ = W0 at hb hP ⊢
  have p0 := hP.cell 0
  by_cases h : k = 1 ∨ k = 2
  · have hv : Hid (kindA k = 2) := by unfold Hid kindA; rw [if_pos h]
    rcases h with rfl | rfl
    · go_wp2
      go_ret
      exact ⟨ret_i hv.out.symm, hb⟩
    · go_wp2
      go_ret
      exact ⟨ret_i hv.out.symm, hb⟩
  · have hv : Hid (kindA k = 1) := by unfold Hid kindA; rw [if_neg h]
    have e1 : (k == 1) = false := by simp; omega
    have e2 : (k == 2) = false := by simp; omega
    clear h
    go_wp2
    go_ret
    exact ⟨ret_i hv.out.symm, hb⟩

set_option maxRecDepth 100000 in
set_option maxHeartbeats 4000000 in
theorem rmay41_any (k x y : Int) (A : Option Addr) (n cp : Nat) (L : List Int) (c : Int) (w : World) (h : RInts w A n cp L) :
    Calls Tryz.prog 34 #[.agg #[.int .u8 k, .int .i64 x, .int .i64 y, .slice A n cp], .int .i64 c] w fun e w' => e = .returned (.bool (fineA k x y L c)) ∧ Below w.heap.size w w' := by
  have hl := hide h.len
  have hn := h.le
  have hb : Below w.heap.size w (w.alloc (.cells #[.int .u8 k, .int .i64 x, .int .i64 y, .slice A n cp] 24)) := below_allocN
  have hP := Has.new w 24 #[.int .u8 k, .int .i64 x, .int .i64 y, .slice A n cp]
  go_enter Tryz.func34, Tryz.ntmps34
  go_upto_region 1 with fail
  generalize World.alloc w _ = W0 at hb hP ⊢
  have p0 := hP.cell 0
  have p1 := hP.cell 1
  have p2 := hP.cell 2
  have p3 := hP.cell 3
  have hL := h.below hb
  by_cases hx : inR 0 c x = true ∧ inR 0 c y = true
  · have hx0 := inR_iff.1 hx.1
    have hy0 := inR_iff.1 hx.2
    have hv : Hid (fineA k x y L c = (riseB c L && tailA k x y L)) := by unfold Hid fineA; rw [hx.1, hx.2]; simp
    have x1 : ¬ x < 0 := by omega
    have x2 : ¬ c ≤ x := by omega
    have y1 : ¬ y < 0 := by omega
    have y2 : ¬ c ≤ y := by omega
    clear hx hx0 hy0
    go_upto_region 3 with fail
    go_wp2
    go_loopw [5] (fun i wr => ∃ k : Nat, k ≤ n ∧ i = .int .i64 k ∧ Hid (allN k (riseAt c L) = true) ∧ Below W0.heap.size W0 wr) (fun i _ => n - (intOf i).toNat)
    case atStart => exact ⟨0, Nat.zero_le _, rfl, allN_zero _, Below.refl _ _⟩
    case round =>
      obtain ⟨j, hj, rfl, hp, hB⟩ := hrel
      have hPr := hP.below hB hP.lt
      have hLr := hL.below hB
      have hbr := Below_trans' hb hb.size hB
      clear p0 p1 p2 p3
      have p0 := hPr.cell 0
      have p1 := hPr.cell 1
      have p2 := hPr.cell 2
      have p3 := hPr.cell 3
      by_cases hlt : j < n
      · obtain ⟨b, off, v, rfl, hc, _, hat, _⟩ := hLr.step hlt
        have hbad : Hid (riseAt c L j = false → fineA k x y L c = false) := fun hf => by rw [hv.out, show riseB c L = false from allN_false (by rw [hl.out]; exact hlt) hf]; rfl
        have hgood : Hid (riseAt c L j = true → allN (j + 1) (riseAt c L) = true) := fun ht => allN_succ hp.out ht
        by_cases hin : inR 0 c v = true
        · have hin0 := inR_iff.1 hin
          have Hin := hide hin
          have v1 : decide (v < 0) = false := by simp; omega
          have v2 : decide (c ≤ v) = false := by simp; omega
          clear hin hin0
          rcases Nat.eq_zero_or_pos j with h0 | h0
          · have ht := hide (hgood.out (by subst h0; rw [riseAt_zero hat.out]; exact Hin.out))
            have b0 : decide (0 < j) = false := by simp; omega
            have b2 : decide ((0 : Int) < (j : Int)) = false := by simp; omega
            clear h0
            go_wp2
            refine wp_region_more (by kernel_rfl) (by kernel_rfl) ?_
            repeat (go_big_quiet_step (fail))
            refine wpQuiet_nil ?_
            rintro w1 ⟨qw1, hww1⟩
            have hbw1 := below_of_eq hww1
            clear hww1 qw1
            have hB1 := Below_trans' hB hB.size hbw1
            go_wp2
            go_roundw
            case rel => exact ⟨j + 1, by omega, by go_num, ht, hB1⟩
            case measure => simp [intOf] <;> omega
          · obtain ⟨i, rfl⟩ : ∃ i, j = i + 1 := ⟨j - 1, by omega⟩
            obtain ⟨b', off', u, e1, hc1, _, hat1, _⟩ := hLr.step (k := i) (by omega)
            cases e1
            have b1 : (i : Int) + 1 - 1 = (i : Int) := by omega
            by_cases huv : u < v
            · have d1 : decide (v ≤ u) = false := by simp; omega
              have ht := hide (hgood.out (by rw [riseAt_succ hat1.out hat.out, Hin.out]; simpa using huv))
              clear huv
              go_wp2
              refine wp_region_more (by kernel_rfl) (by kernel_rfl) ?_
              repeat (go_big_quiet_step (fail))
              refine wpQuiet_nil ?_
              rintro w1 ⟨qw1, hww1⟩
              have hbw1 := below_of_eq hww1
              clear hww1 qw1
              have hB1 := Below_trans' hB hB.size hbw1
              go_wp2
              go_roundw
              case rel => exact ⟨i + 2, by omega, by go_num, ht, hB1⟩
              case measure => simp [intOf] <;> omega
            · have d1 : decide (v ≤ u) = true := by simp; omega
              have hf := hide (hbad.out (by rw [riseAt_succ hat1.out hat.out, Hin.out]; simpa using huv))
              clear huv
              go_wp2
              refine wp_region_more (by kernel_rfl) (by kernel_rfl) ?_
              repeat (go_big_quiet_step (fail))
              refine wpQuiet_nil ?_
              rintro w1 ⟨qw1, hww1⟩
              have hbw1 := below_of_eq hww1
              clear hww1 qw1
              go_wp2
              go_ret
              exact ⟨ret_b hf.out.symm, Below_trans' hbr hbr.size hbw1⟩
        · have hr : riseAt c L j = false := by unfold riseAt; rw [show L.getD j 0 = v by simp [List.getD, hat.out]]; simp [hin]
          have hf := hide (hbad.out hr)
          clear hr
          rw [inR_iff] at hin
          by_cases v0 : v < 0
          · have v1 : decide (v < 0) = true := by simpa using v0
            clear hin v0
            go_wp2
            refine wp_region_more (by kernel_rfl) (by kernel_rfl) ?_
            repeat (go_big_quiet_step (fail))
            refine wpQuiet_nil ?_
            rintro w1 ⟨qw1, hww1⟩
            have hbw1 := below_of_eq hww1
            clear hww1 qw1
            go_wp2
            go_ret
            exact ⟨ret_b hf.out.symm, Below_trans' hbr hbr.size hbw1⟩
          · have v1 : decide (v < 0) = false := by simpa using v0
            have v2 : decide (c ≤ v) = true := by simp; omega
            clear hin v0
            go_wp2
            refine wp_region_more (by kernel_rfl) (by kernel_rfl) ?_
            repeat (go_big_quiet_step (fail))
            refine wpQuiet_nil ?_
            rintro w1 ⟨qw1, hww1⟩
            have hbw1 := below_of_eq hww1
            clear hww1 qw1
            go_wp2
            go_ret
            exact ⟨ret_b hf.out.symm, Below_trans' hbr hbr.size hbw1⟩
      · have hkn : j = n := by omega
        have hv2 : Hid (fineA k x y L c = tailA k x y L) := by unfold Hid; rw [hv.out, show riseB c L = true by unfold riseB; rw [hl.out, ← hkn]; exact hp.out]; rfl
        clear hv
        by_cases h5 : k = 5
        · subst h5
          have ht : Hid (tailA 5 x y L = (decide (y = 0) && inL L x && decide (1 < L.length))) := rfl
          by_cases hy0 : y = 0
          · have b1 : (y == 0) = true := by simp [hy0]
            have D1 := hide hy0
            clear hy0
            cases h1 : inL L x with
            | false =>
              have ht' : Hid (fineA 5 x y L c = false) := by unfold Hid; rw [hv2.out, ht.out, h1]; simp
              have H1 := hide h1
              clear h1
              go_wp2_with (go_at_call 58; with_reducible refine (in41v_val _ _ _ _ _ _ hLr H1.out).mono ?_; rintro e w' ⟨rfl, rfl⟩)
              go_ret
              exact ⟨ret_b ht'.out.symm, hbr⟩
            | true =>
              have ht' : Hid (fineA 5 x y L c = decide (2 ≤ (n : Int))) := by unfold Hid; rw [hv2.out, ht.out, h1, hl.out, decide_eq_true D1.out, Bool.true_and, Bool.true_and, decide_eq_decide]; omega
              have H1 := hide h1
              clear h1
              go_wp2_with (go_at_call 58; with_reducible refine (in41v_val _ _ _ _ _ _ hLr H1.out).mono ?_; rintro e w' ⟨rfl, rfl⟩)
              go_ret
              exact ⟨ret_b ht'.out.symm, hbr⟩
          · have b1 : (y == 0) = false := by simp [hy0]
            have ht' : Hid (fineA 5 x y L c = false) := by unfold Hid; rw [hv2.out, ht.out]; simp [hy0]
            clear hy0
            go_wp2
            go_ret
            exact ⟨ret_b ht'.out.symm, hbr⟩
        · have e5 : (k == 5) = false := by simp; omega
          by_cases hxy : x = y
          · have b1 : (x == y) = true := by simp [hxy]
            have ht' : Hid (fineA k x y L c = false) := by
              unfold Hid; rw [hv2.out]; unfold tailA
              rw [if_neg h5]; split
              · simp [hxy]
              · split
                · simp [hxy]
                · rfl
            clear h5 hxy
            go_wp2
            go_ret
            exact ⟨ret_b ht'.out.symm, hbr⟩
          · have b1 : (x == y) = false := by simp [hxy]
            by_cases h4 : k = 4
            · subst h4
              have ht : Hid (tailA 4 x y L = (decide (x ≠ y) && inL L x && inL L y)) := rfl
              cases h1 : inL L x with
              | false =>
                have ht' : Hid (fineA 4 x y L c = false) := by unfold Hid; rw [hv2.out, ht.out, h1]; simp
                have H1 := hide h1
                clear hxy h1 h5
                go_wp2_with (go_at_call 58; with_reducible refine (in41v_val _ _ _ _ _ _ hLr H1.out).mono ?_; rintro e w' ⟨rfl, rfl⟩)
                go_ret
                exact ⟨ret_b ht'.out.symm, hbr⟩
              | true =>
                have ht' : Hid (fineA 4 x y L c = inL L y) := by unfold Hid; rw [hv2.out, ht.out, h1]; simp [hxy]
                have H1 := hide h1
                clear hxy h1 h5
                go_wp2_with (go_at_call 58; first | (with_reducible refine (in41v_val _ _ _ _ _ _ hLr H1.out).mono ?_; rintro e w' ⟨rfl, rfl⟩) | (refine (in41v_any _ _ _ _ _ _ hLr).mono ?_; rintro e w' ⟨rfl, rfl⟩))
                go_ret
                exact ⟨ret_b ht'.out.symm, hbr⟩
            · have e4 : (k == 4) = false := by simp; omega
              by_cases h123 : k = 1 ∨ k = 2 ∨ k = 3
              · have ht' : Hid (fineA k x y L c = ((n : Int) == 0)) := by
                  unfold Hid; rw [hv2.out]; unfold tailA; rw [if_pos h123, hl.out, decide_eq_true hxy, Bool.true_and, Bool.eq_iff_iff]; simp
                clear h4 h5 hxy
                rcases h123 with rfl | rfl | rfl
                · go_wp2
                  go_ret
                  exact ⟨ret_b ht'.out.symm, hbr⟩
                · go_wp2
                  go_ret
                  exact ⟨ret_b ht'.out.symm, hbr⟩
                · go_wp2
                  go_ret
                  exact ⟨ret_b ht'.out.symm, hbr⟩
              · have ht' : Hid (fineA k x y L c = false) := by unfold Hid; rw [hv2.out]; unfold tailA; rw [if_neg h123, if_neg h4, if_neg h5]
                have e1 : (k == 1) = false := by simp; omega
                have e2 : (k == 2) = false := by simp; omega
                have e3 : (k == 3) = false := by simp; omega
                clear h4 h5 hxy h123
                go_wp2
                go_ret
                exact ⟨ret_b ht'.out.symm, hbr⟩
  · have hv : Hid (fineA k x y L c = false) := by
      unfold Hid fineA
      cases h1 : inR 0 c x with
      | false => rfl
      | true =>
        cases h2 : inR 0 c y with
        | false => rfl
        | true => exact absurd ⟨h1, h2⟩ hx
    rw [inR_iff, inR_iff] at hx
    by_cases x1 : x < 0
    · clear hx
      go_wp2
      go_ret
      exact ⟨ret_b hv.out.symm, hb⟩
    · by_cases x2 : c ≤ x
      · clear hx
        go_wp2
        go_ret
        exact ⟨ret_b hv.out.symm, hb⟩
      · by_cases y1 : y < 0
        · clear hx
          go_wp2
          go_ret
          exact ⟨ret_b hv.out.symm, hb⟩
        · have y2 : c ≤ y := by omega
          clear hx
          go_wp2
          go_ret
          exact ⟨ret_b hv.out.symm, hb⟩

theorem rcheck41_any (k x y : Int) (A : Option Addr) (n cp : Nat) (L : List Int) (c : Int) (w : World) (h : RInts w A n cp L) :
    Calls Tryz.prog 16 #[.agg #[.int .u8 k, .int .i64 x, .int .i64 y, .slice A n cp], .int .i64 c] w fun e w' => e = .returned (.int .i64 (checkA k x y L c)) ∧ Below w.heap.size w w' := by
  have hb : Below w.heap.size w (w.alloc (.cells #[.int .u8 k, .int .i64 x, .int .i64 y, .slice A n cp] 24)) := below_allocN
  have hP := Has.new w 24 #[.int .u8 k, .int .i64 x, .int .i64 y, .slice A n cp]
  go_enter Tryz.func16, Tryz.ntmps16
  go_upto_region 1 with fail
  generalize World.alloc w _ = W0 at hb hP ⊢
  have p0 := hP.cell 0
  have p1 := hP.cell 1
  have p2 := hP.cell 2
  have p3 := hP.cell 3
  have hL := h.below hb
  by_cases hc : c < 1 ∨ 10 < c
  · have hv : Hid (checkA k x y L c = 2) := by unfold Hid checkA; rw [if_pos hc]
    rcases hc with hc | hc
    · go_wp2
      go_ret
      exact ⟨ret_i hv.out.symm, hb⟩
    · have h1 : ¬ c < 1 := by omega
      go_wp2
      go_ret
      exact ⟨ret_i hv.out.symm, hb⟩
  · have h1 : ¬ c < 1 := by omega
    have h2 : ¬ 10 < c := by omega
    have hv : Hid (checkA k x y L c = if fineA k x y L c = true then 0 else 8) := by unfold Hid checkA; rw [if_neg hc]
    clear hc
    have hf := rmay41_any k x y A n cp L c W0 hL
    cases hf0 : fineA k x y L c with
    | true =>
      rw [hf0] at hf hv
      go_wp2_with fail
      refine hf.mono ?_
      rintro e w' ⟨rfl, hb'⟩
      go_wp2
      go_ret
      exact ⟨ret_i hv.out.symm, Below_trans' hb hb.size hb'⟩
    | false =>
      rw [hf0] at hf hv
      go_wp2_with fail
      refine hf.mono ?_
      rintro e w' ⟨rfl, hb'⟩
      go_wp2
      go_ret
      exact ⟨ret_i hv.out.symm, Below_trans' hb hb.size hb'⟩
end Go.Proofs.YtkmcgpaoekphmaaGreat

namespace Go.Proofs.YtkmcgpaoekphmaaGreat
open Go.RowKit Go.Proofs Go.Shelf
attribute [local go_sem] cell?_more cell?_alloc_some cell?_setCell_far frozen?_alloc_some frozen?_more
theorem only_not {ms : List Int} {x y : Int} (h : x ≠ y) : ¬ (onlyB ms x = true ∧ onlyB ms y = true) := by
  unfold onlyB; simp
  intro _ e _ e'
  exact h (e.symm.trans e')
theorem wref1 {x y : Int} {L ms : List Int} (h : x ≠ y) : worthA 1 x y L ms = refSide (onlyB ms x) (onlyB ms y) := (refSide_eq (only_not h)).symm
theorem wref2 (x y : Int) (L ms : List Int) : worthA 2 x y L ms = refSide (inL ms x && !inL ms y) (inL ms y && !inL ms x) := rfl
theorem wref3 (x y : Int) (L ms : List Int) : worthA 3 x y L ms = refSide (prefersS 1 ms x y) (prefersS 1 ms y x) :=
  (refSide_eq (a := prefersS 1 ms x y) (b := prefersS 1 ms y x) (fun ⟨h, h'⟩ => by rw [prefers_asym h] at h'; cases h')).symm
theorem rise_mem {c : Int} {L : List Int} (h : riseB c L = true) {v : Int} (hv : v ∈ L) : 0 ≤ v ∧ v < c := by
  obtain ⟨i, hi, rfl⟩ := List.getElem_of_mem hv
  have := allN_true.1 h i hi
  unfold riseAt at this
  rw [show L.getD i 0 = L[i] by simp [List.getD, hi], Bool.and_eq_true, inR_iff] at this
  exact this.1
theorem lead_eq {ms L : List Int} {x : Int} (h0 : 0 ≤ x) : decide (firstL ms L = some x) = ((firstL ms L).getD (-1) == x) := by
  cases h : firstL ms L with
  | none => simp; omega
  | some v => simp; rw [Bool.eq_iff_iff]; simp
theorem wref4 {x y : Int} {L ms : List Int} (h : x ≠ y) (hx : 0 ≤ x) (hy : 0 ≤ y) : worthA 4 x y L ms = refSide ((firstL ms L).getD (-1) == x) ((firstL ms L).getD (-1) == y) := by
  rw [worth4, lead_eq hx, lead_eq hy]
  exact (refSide_eq (fun ⟨h1, h2⟩ => h (by simp at h1 h2; omega))).symm
theorem wref5 {c x y : Int} {L ms : List Int} (hx : 0 ≤ x) (hr : riseB c L = true) : worthA 5 x y L ms = refSide ((firstL ms L).getD (-1) == x) (decide (0 ≤ (firstL ms L).getD (-1)) && ((firstL ms L).getD (-1) != x)) := by
  rw [worth5, lead_eq hx]
  have e : ((firstL ms L).isSome && decide (firstL ms L ≠ some x)) = (decide (0 ≤ (firstL ms L).getD (-1)) && ((firstL ms L).getD (-1) != x)) := by
    cases h : firstL ms L with
    | none => rfl
    | some v =>
      have := (rise_mem hr (firstL_mem h).2).1
      simp [this]
      rw [Bool.eq_iff_iff]; simp
  rw [e]
  exact (refSide_eq (fun ⟨h1, h2⟩ => by simp at h1 h2; omega)).symm
theorem refSide_t {b : Bool} : refSide true b = 2 := rfl
theorem refSide_ft : refSide false true = 0 := rfl
theorem refSide_ff : refSide false false = 1 := rfl

set_option maxRecDepth 100000 in
set_option maxHeartbeats 4000000 in
theorem rworth_any (k x y : Int) (A : Option Addr) (n cp : Nat) (L : List Int) (bk : Int) (Am : Option Addr) (nm cm : Nat) (ms : List Int) (c : Int) (w : World) (h : RInts w A n cp L) (hm : RInts w Am nm cm ms)
    (hF : FineA k x y L c) (h3 : k = 3 → bk = 1) :
    Calls Tryz.prog 30 #[.agg #[.int .u8 k, .int .i64 x, .int .i64 y, .slice A n cp], .agg #[.int .u8 bk, .slice Am nm cm]] w fun e w' => e = .returned (.int .i64 (worthA k x y L ms)) ∧ Below w.heap.size w w' := by
  have hb0 : Below w.heap.size w (w.alloc (.cells #[.int .u8 k, .int .i64 x, .int .i64 y, .slice A n cp] 24)) := below_allocN
  have hP := Has.new w 24 #[.int .u8 k, .int .i64 x, .int .i64 y, .slice A n cp]
  have hb1 : Below (w.alloc (.cells #[.int .u8 k, .int .i64 x, .int .i64 y, .slice A n cp] 24)).heap.size (w.alloc (.cells #[.int .u8 k, .int .i64 x, .int .i64 y, .slice A n cp] 24)) ((w.alloc (.cells #[.int .u8 k, .int .i64 x, .int .i64 y, .slice A n cp] 24)).alloc (.cells #[.int .u8 bk, .slice Am nm cm] 26)) := below_allocN
  have hQ := Has.new (w.alloc (.cells #[.int .u8 k, .int .i64 x, .int .i64 y, .slice A n cp] 24)) 26 #[.int .u8 bk, .slice Am nm cm]
  have hP1 := hP.below hb1 hP.lt
  have hb := Below_trans' hb0 hb0.size hb1
  clear hb0 hb1 hP
  rw [World.size_alloc] at hQ
  go_enter Tryz.func30, Tryz.ntmps30
  go_upto_region 1 with fail
  generalize World.alloc (World.alloc w _) _ = W0 at hb hP1 hQ ⊢
  have p0 := hP1.cell 0
  have p1 := hP1.cell 1
  have p2 := hP1.cell 2
  have p3 := hP1.cell 3
  have q0 := hQ.cell 0
  have q1 := hQ.cell 1
  have hL := h.below hb
  have hM := hm.below hb
  have Hx := hide (hF.ne)
  have Hx0 := hide hF.x0
  have Hy0 := hide hF.y0
  have Hr := hide hF.rise
  have hl := hide hm.len
  have H3 := hide h3
  rcases hF.k5 with rfl | rfl | rfl | rfl | rfl
  · have hv := hide (wref1 (L := L) (ms := ms) (Hx.out (by omega)))
    clear hF h3
    by_cases hn1 : nm = 1
    · subst hn1
      obtain ⟨b, off, v, rfl, hc, _, hat, _⟩ := hM.step (k := 0) (by omega)
      simp only [Nat.add_zero] at hc
      rw [only_of hat.out hl.out, only_of hat.out hl.out] at hv
      cases e1 : (v == x) with
      | true =>
        rw [e1, refSide_t] at hv
        go_upto_region 7 with (fail)
        refine wp_region_more (by kernel_rfl) (by kernel_rfl) ?_
        repeat (go_big_quiet_step (fail))
        refine wpQuiet_nil ?_
        rintro w1 ⟨qw1, hww1⟩
        have hbw1 := below_of_eq hww1
        clear hww1 qw1
        have p0' := keep_cell hbw1 p0
        have p1' := keep_cell hbw1 p1
        have p2' := keep_cell hbw1 p2
        have p3' := keep_cell hbw1 p3
        have q0' := keep_cell hbw1 q0
        have q1' := keep_cell hbw1 q1
        have hb1 := Below_trans' hb hb.size hbw1
        clear p0 p1 p2 p3 q0 q1
        have hc' := keep_cell hbw1 hc
        go_upto_region 8 with (fail)
        refine wp_region_more (by kernel_rfl) (by kernel_rfl) ?_
        repeat (go_big_quiet_step (fail))
        refine wpQuiet_nil ?_
        rintro w2 ⟨qw2, hww2⟩
        have hbw2 := below_of_eq hww2
        clear hww2 qw2
        go_wp2
        go_ret
        exact ⟨ret_i hv.out.symm, Below_trans' hb1 hb1.size hbw2⟩
      | false =>
        cases e2 : (v == y) with
        | true =>
          rw [e1, e2, refSide_ft] at hv
          go_upto_region 7 with (fail)
          refine wp_region_more (by kernel_rfl) (by kernel_rfl) ?_
          repeat (go_big_quiet_step (fail))
          refine wpQuiet_nil ?_
          rintro w1 ⟨qw1, hww1⟩
          have hbw1 := below_of_eq hww1
          clear hww1 qw1
          have p0' := keep_cell hbw1 p0
          have p1' := keep_cell hbw1 p1
          have p2' := keep_cell hbw1 p2
          have p3' := keep_cell hbw1 p3
          have q0' := keep_cell hbw1 q0
          have q1' := keep_cell hbw1 q1
          have hb1 := Below_trans' hb hb.size hbw1
          clear p0 p1 p2 p3 q0 q1
          have hc' := keep_cell hbw1 hc
          go_upto_region 8 with (fail)
          refine wp_region_more (by kernel_rfl) (by kernel_rfl) ?_
          repeat (go_big_quiet_step (fail))
          refine wpQuiet_nil ?_
          rintro w2 ⟨qw2, hww2⟩
          have hbw2 := below_of_eq hww2
          clear hww2 qw2
          go_wp2
          go_ret
          exact ⟨ret_i hv.out.symm, Below_trans' hb1 hb1.size hbw2⟩
        | false =>
          rw [e1, e2, refSide_ff] at hv
          go_upto_region 7 with (fail)
          refine wp_region_more (by kernel_rfl) (by kernel_rfl) ?_
          repeat (go_big_quiet_step (fail))
          refine wpQuiet_nil ?_
          rintro w1 ⟨qw1, hww1⟩
          have hbw1 := below_of_eq hww1
          clear hww1 qw1
          have p0' := keep_cell hbw1 p0
          have p1' := keep_cell hbw1 p1
          have p2' := keep_cell hbw1 p2
          have p3' := keep_cell hbw1 p3
          have q0' := keep_cell hbw1 q0
          have q1' := keep_cell hbw1 q1
          have hb1 := Below_trans' hb hb.size hbw1
          clear p0 p1 p2 p3 q0 q1
          have hc' := keep_cell hbw1 hc
          go_upto_region 8 with (fail)
          refine wp_region_more (by kernel_rfl) (by kernel_rfl) ?_
          repeat (go_big_quiet_step (fail))
          refine wpQuiet_nil ?_
          rintro w2 ⟨qw2, hww2⟩
          have hbw2 := below_of_eq hww2
          clear hww2 qw2
          go_wp2
          go_ret
          exact ⟨ret_i hv.out.symm, Below_trans' hb1 hb1.size hbw2⟩
    · have e1 : ((nm : Int) == 1) = false := by simp; omega
      rw [only_no (by rw [hl.out]; exact hn1), only_no (by rw [hl.out]; exact hn1), refSide_ff] at hv
      clear hn1
      go_upto_region 7 with (fail)
      refine wp_region_more (by kernel_rfl) (by kernel_rfl) ?_
      repeat (go_big_quiet_step (fail))
      refine wpQuiet_nil ?_
      rintro w1 ⟨qw1, hww1⟩
      have hbw1 := below_of_eq hww1
      clear hww1 qw1
      have p0' := keep_cell hbw1 p0
      have p1' := keep_cell hbw1 p1
      have p2' := keep_cell hbw1 p2
      have p3' := keep_cell hbw1 p3
      have q0' := keep_cell hbw1 q0
      have q1' := keep_cell hbw1 q1
      have hb1 := Below_trans' hb hb.size hbw1
      clear p0 p1 p2 p3 q0 q1
      have hM1 := hM.below hbw1
      go_upto_region 8 with (fail)
      refine wp_region_more (by kernel_rfl) (by kernel_rfl) ?_
      repeat (go_big_quiet_step (fail))
      refine wpQuiet_nil ?_
      rintro w2 ⟨qw2, hww2⟩
      have hbw2 := below_of_eq hww2
      clear hww2 qw2
      go_wp2
      go_ret
      exact ⟨ret_i hv.out.symm, Below_trans' hb1 hb1.size hbw2⟩
  · have hv := hide (wref2 x y L ms)
    clear hF h3
    have hI := in41v_any Am nm cm ms x W0 hM
    have hJ := in41v_any Am nm cm ms y W0 hM
    cases e1 : inL ms x
    · cases e2 : inL ms y
      · have hv2 : Hid (worthA 2 x y L ms = 1) := by unfold Hid; rw [hv.out, e1, e2]; rfl
        rw [e1] at hI
        rw [e2] at hJ
        clear e1 e2 hv
        go_wp2_with (go_at_call 58; first | (with_reducible refine hI.mono ?_; rintro e w' ⟨rfl, rfl⟩) | (with_reducible refine hJ.mono ?_; rintro e w' ⟨rfl, rfl⟩))
        go_ret
        exact ⟨ret_i hv2.out.symm, hb⟩
      · have hv2 : Hid (worthA 2 x y L ms = 0) := by unfold Hid; rw [hv.out, e1, e2]; rfl
        rw [e1] at hI
        rw [e2] at hJ
        clear e1 e2 hv
        go_wp2_with (go_at_call 58; first | (with_reducible refine hI.mono ?_; rintro e w' ⟨rfl, rfl⟩) | (with_reducible refine hJ.mono ?_; rintro e w' ⟨rfl, rfl⟩))
        go_ret
        exact ⟨ret_i hv2.out.symm, hb⟩
    · cases e2 : inL ms y
      · have hv2 : Hid (worthA 2 x y L ms = 2) := by unfold Hid; rw [hv.out, e1, e2]; rfl
        rw [e1] at hI
        rw [e2] at hJ
        clear e1 e2 hv
        go_wp2_with (go_at_call 58; first | (with_reducible refine hI.mono ?_; rintro e w' ⟨rfl, rfl⟩) | (with_reducible refine hJ.mono ?_; rintro e w' ⟨rfl, rfl⟩))
        go_ret
        exact ⟨ret_i hv2.out.symm, hb⟩
      · have hv2 : Hid (worthA 2 x y L ms = 1) := by unfold Hid; rw [hv.out, e1, e2]; rfl
        rw [e1] at hI
        rw [e2] at hJ
        clear e1 e2 hv
        go_wp2_with (go_at_call 58; first | (with_reducible refine hI.mono ?_; rintro e w' ⟨rfl, rfl⟩) | (with_reducible refine hJ.mono ?_; rintro e w' ⟨rfl, rfl⟩))
        go_ret
        exact ⟨ret_i hv2.out.symm, hb⟩
  · have hv := hide (wref3 x y L ms)
    obtain rfl : bk = 1 := H3.out rfl
    clear hF h3
    have hI := rprefers_any 1 Am nm cm ms x y W0 hM
    cases e1 : prefersS 1 ms x y
    · cases e2 : prefersS 1 ms y x
      · have hv2 : Hid (worthA 3 x y L ms = 1) := by unfold Hid; rw [hv.out, e1, e2]; rfl
        rw [e1] at hI
        have E2 := hide e2
        clear e1 e2 hv
        go_upto_region 14 with (go_at_call 59; refine hI.mono ?_; rintro e w1 ⟨rfl, hbw1⟩)
        have p0' := keep_cell hbw1 p0
        have p1' := keep_cell hbw1 p1
        have p2' := keep_cell hbw1 p2
        have p3' := keep_cell hbw1 p3
        have q0' := keep_cell hbw1 q0
        have q1' := keep_cell hbw1 q1
        have hb1 := Below_trans' hb hb.size hbw1
        clear p0 p1 p2 p3 q0 q1
        have hJ := rprefers_any 1 Am nm cm ms y x w1 (hM.below hbw1)
        rw [E2.out] at hJ
        go_wp2_with (go_at_call 59; refine hJ.mono ?_; rintro e w2 ⟨rfl, hbw2⟩)
        go_ret
        exact ⟨ret_i hv2.out.symm, Below_trans' hb1 hb1.size hbw2⟩
      · have hv2 : Hid (worthA 3 x y L ms = 0) := by unfold Hid; rw [hv.out, e1, e2]; rfl
        rw [e1] at hI
        have E2 := hide e2
        clear e1 e2 hv
        go_upto_region 14 with (go_at_call 59; refine hI.mono ?_; rintro e w1 ⟨rfl, hbw1⟩)
        have p0' := keep_cell hbw1 p0
        have p1' := keep_cell hbw1 p1
        have p2' := keep_cell hbw1 p2
        have p3' := keep_cell hbw1 p3
        have q0' := keep_cell hbw1 q0
        have q1' := keep_cell hbw1 q1
        have hb1 := Below_trans' hb hb.size hbw1
        clear p0 p1 p2 p3 q0 q1
        have hJ := rprefers_any 1 Am nm cm ms y x w1 (hM.below hbw1)
        rw [E2.out] at hJ
        go_wp2_with (go_at_call 59; refine hJ.mono ?_; rintro e w2 ⟨rfl, hbw2⟩)
        go_ret
        exact ⟨ret_i hv2.out.symm, Below_trans' hb1 hb1.size hbw2⟩
    · cases e2 : prefersS 1 ms y x
      · have hv2 : Hid (worthA 3 x y L ms = 2) := by unfold Hid; rw [hv.out, e1, e2]; rfl
        rw [e1] at hI
        have E2 := hide e2
        clear e1 e2 hv
        go_upto_region 14 with (go_at_call 59; refine hI.mono ?_; rintro e w1 ⟨rfl, hbw1⟩)
        have p0' := keep_cell hbw1 p0
        have p1' := keep_cell hbw1 p1
        have p2' := keep_cell hbw1 p2
        have p3' := keep_cell hbw1 p3
        have q0' := keep_cell hbw1 q0
        have q1' := keep_cell hbw1 q1
        have hb1 := Below_trans' hb hb.size hbw1
        clear p0 p1 p2 p3 q0 q1
        have hJ := rprefers_any 1 Am nm cm ms y x w1 (hM.below hbw1)
        rw [E2.out] at hJ
        go_wp2_with (go_at_call 59; refine hJ.mono ?_; rintro e w2 ⟨rfl, hbw2⟩)
        go_ret
        exact ⟨ret_i hv2.out.symm, Below_trans' hb1 hb1.size hbw2⟩
      · have hv2 : Hid (worthA 3 x y L ms = 2) := by unfold Hid; rw [hv.out, e1, e2]; rfl
        rw [e1] at hI
        have E2 := hide e2
        clear e1 e2 hv
        go_upto_region 14 with (go_at_call 59; refine hI.mono ?_; rintro e w1 ⟨rfl, hbw1⟩)
        have p0' := keep_cell hbw1 p0
        have p1' := keep_cell hbw1 p1
        have p2' := keep_cell hbw1 p2
        have p3' := keep_cell hbw1 p3
        have q0' := keep_cell hbw1 q0
        have q1' := keep_cell hbw1 q1
        have hb1 := Below_trans' hb hb.size hbw1
        clear p0 p1 p2 p3 q0 q1
        have hJ := rprefers_any 1 Am nm cm ms y x w1 (hM.below hbw1)
        rw [E2.out] at hJ
        go_wp2_with (go_at_call 59; refine hJ.mono ?_; rintro e w2 ⟨rfl, hbw2⟩)
        go_ret
        exact ⟨ret_i hv2.out.symm, Below_trans' hb1 hb1.size hbw2⟩
  · have hv := hide (wref4 (L := L) (ms := ms) (Hx.out (by omega)) Hx0.out Hy0.out)
    clear hF h3
    have HI := hide (show ∀ W, Below W0.heap.size W0 W → ∀ q, Calls Tryz.prog 60 #[.slice Am nm cm, .slice A n cp] (More W q) fun e w' => e = .returned (.int .i64 ((firstL ms L).getD (-1))) ∧ More W q = w' from
      fun W hW q => leads_any _ _ _ _ _ _ _ _ _ ((hM.below hW).more q) ((hL.below hW).more q))
    generalize (firstL ms L).getD (-1) = ld at HI hv
    have hI := HI.out W0 (Below.refl _ _)
    cases e1 : (ld == x) with
    | true =>
      rw [e1, refSide_t] at hv
      go_upto_region 16 with (fail)
      refine wp_region_more (by kernel_rfl) (by kernel_rfl) ?_
      repeat (go_big_quiet_step ((go_at_call 60; with_reducible exact more_same (hI _))))
      refine wpQuiet_nil ?_
      rintro w1 ⟨qw1, hww1⟩
      have hbw1 := below_of_eq hww1
      clear hww1 qw1
      have p0' := keep_cell hbw1 p0
      have p1' := keep_cell hbw1 p1
      have p2' := keep_cell hbw1 p2
      have p3' := keep_cell hbw1 p3
      have q0' := keep_cell hbw1 q0
      have q1' := keep_cell hbw1 q1
      have hb1 := Below_trans' hb hb.size hbw1
      clear p0 p1 p2 p3 q0 q1
      have hJ := HI.out w1 hbw1
      go_upto_region 17 with (fail)
      refine wp_region_more (by kernel_rfl) (by kernel_rfl) ?_
      repeat (go_big_quiet_step ((go_at_call 60; with_reducible exact more_same (hJ _))))
      refine wpQuiet_nil ?_
      rintro w2 ⟨qw2, hww2⟩
      have hbw2 := below_of_eq hww2
      clear hww2 qw2
      go_wp2
      go_ret
      exact ⟨ret_i hv.out.symm, Below_trans' hb1 hb1.size hbw2⟩
    | false =>
      cases e2 : (ld == y) with
      | true =>
        rw [e1, e2, refSide_ft] at hv
        go_upto_region 16 with (fail)
        refine wp_region_more (by kernel_rfl) (by kernel_rfl) ?_
        repeat (go_big_quiet_step ((go_at_call 60; with_reducible exact more_same (hI _))))
        refine wpQuiet_nil ?_
        rintro w1 ⟨qw1, hww1⟩
        have hbw1 := below_of_eq hww1
        clear hww1 qw1
        have p0' := keep_cell hbw1 p0
        have p1' := keep_cell hbw1 p1
        have p2' := keep_cell hbw1 p2
        have p3' := keep_cell hbw1 p3
        have q0' := keep_cell hbw1 q0
        have q1' := keep_cell hbw1 q1
        have hb1 := Below_trans' hb hb.size hbw1
        clear p0 p1 p2 p3 q0 q1
        have hJ := HI.out w1 hbw1
        go_upto_region 17 with (fail)
        refine wp_region_more (by kernel_rfl) (by kernel_rfl) ?_
        repeat (go_big_quiet_step ((go_at_call 60; with_reducible exact more_same (hJ _))))
        refine wpQuiet_nil ?_
        rintro w2 ⟨qw2, hww2⟩
        have hbw2 := below_of_eq hww2
        clear hww2 qw2
        go_wp2
        go_ret
        exact ⟨ret_i hv.out.symm, Below_trans' hb1 hb1.size hbw2⟩
      | false =>
        rw [e1, e2, refSide_ff] at hv
        go_upto_region 16 with (fail)
        refine wp_region_more (by kernel_rfl) (by kernel_rfl) ?_
        repeat (go_big_quiet_step ((go_at_call 60; with_reducible exact more_same (hI _))))
        refine wpQuiet_nil ?_
        rintro w1 ⟨qw1, hww1⟩
        have hbw1 := below_of_eq hww1
        clear hww1 qw1
        have p0' := keep_cell hbw1 p0
        have p1' := keep_cell hbw1 p1
        have p2' := keep_cell hbw1 p2
        have p3' := keep_cell hbw1 p3
        have q0' := keep_cell hbw1 q0
        have q1' := keep_cell hbw1 q1
        have hb1 := Below_trans' hb hb.size hbw1
        clear p0 p1 p2 p3 q0 q1
        have hJ := HI.out w1 hbw1
        go_upto_region 17 with (fail)
        refine wp_region_more (by kernel_rfl) (by kernel_rfl) ?_
        repeat (go_big_quiet_step ((go_at_call 60; with_reducible exact more_same (hJ _))))
        refine wpQuiet_nil ?_
        rintro w2 ⟨qw2, hww2⟩
        have hbw2 := below_of_eq hww2
        clear hww2 qw2
        go_wp2
        go_ret
        exact ⟨ret_i hv.out.symm, Below_trans' hb1 hb1.size hbw2⟩
  · have hv := hide (wref5 (y := y) (L := L) (ms := ms) Hx0.out Hr.out)
    have hI := leads_any Am nm cm ms A n cp L W0 hM hL
    clear hF h3
    generalize (firstL ms L).getD (-1) = ld at hI hv
    by_cases e1 : ld = x
    · have b1 : (ld == x) = true := by simpa using e1
      have b2 : (ld != x) = false := by simpa using e1
      have b3 : 0 ≤ ld := by have := Hx0.out; omega
      have hv2 : Hid (worthA 5 x y L ms = 2) := by unfold Hid; rw [hv.out, b1]; rfl
      clear e1
      clear hv
      go_wp2_with (go_at_call 60; refine hI.mono ?_; rintro e w1 ⟨rfl, rfl⟩)
      go_ret
      exact ⟨ret_i hv2.out.symm, hb⟩
    · have b1 : (ld == x) = false := by simpa using e1
      have b2 : (ld != x) = true := by simpa using e1
      clear e1
      by_cases b3 : 0 ≤ ld
      · have hv2 : Hid (worthA 5 x y L ms = 0) := by unfold Hid; rw [hv.out, b1, b2, decide_eq_true b3]; rfl
        clear hv
        go_wp2_with (go_at_call 60; refine hI.mono ?_; rintro e w1 ⟨rfl, rfl⟩)
        go_ret
        exact ⟨ret_i hv2.out.symm, hb⟩
      · have hv2 : Hid (worthA 5 x y L ms = 1) := by unfold Hid; rw [hv.out, b1, b2, decide_eq_false b3]; rfl
        clear hv
        go_wp2_with (go_at_call 60; refine hI.mono ?_; rintro e w1 ⟨rfl, rfl⟩)
        go_ret
        exact ⟨ret_i hv2.out.symm, hb⟩

set_option maxRecDepth 100000 in
set_option maxHeartbeats 4000000 in
theorem rvalue_any (k x y : Int) (A : Option Addr) (n cp : Nat) (L : List Int) (bk : Int) (Am : Option Addr) (nm cm : Nat) (ms : List Int) (c : Int) (w : World) (h : RInts w A n cp L) (hm : RInts w Am nm cm ms) :
    Calls Tryz.prog 10 #[.agg #[.int .u8 k, .int .i64 x, .int .i64 y, .slice A n cp], .agg #[.int .u8 bk, .slice Am nm cm], .int .i64 c] w fun e w' => e = .returned (.tuple #[.int .i64 (valueA k x y L bk ms c), .int .i64 (valErr k x y L bk ms c)]) ∧ Below w.heap.size w w' := by
  have hb0 : Below w.heap.size w (w.alloc (.cells #[.int .u8 k, .int .i64 x, .int .i64 y, .slice A n cp] 24)) := below_allocN
  have hP := Has.new w 24 #[.int .u8 k, .int .i64 x, .int .i64 y, .slice A n cp]
  have hb1 : Below (w.alloc (.cells #[.int .u8 k, .int .i64 x, .int .i64 y, .slice A n cp] 24)).heap.size (w.alloc (.cells #[.int .u8 k, .int .i64 x, .int .i64 y, .slice A n cp] 24)) ((w.alloc (.cells #[.int .u8 k, .int .i64 x, .int .i64 y, .slice A n cp] 24)).alloc (.cells #[.int .u8 bk, .slice Am nm cm] 26)) := below_allocN
  have hQ := Has.new (w.alloc (.cells #[.int .u8 k, .int .i64 x, .int .i64 y, .slice A n cp] 24)) 26 #[.int .u8 bk, .slice Am nm cm]
  have hP1 := hP.below hb1 hP.lt
  have hb := Below_trans' hb0 hb0.size hb1
  clear hb0 hb1 hP
  rw [World.size_alloc] at hQ
  go_enter Tryz.func10, Tryz.ntmps10
  go_upto_region 1 with fail
  generalize World.alloc (World.alloc w _) _ = W0 at hb hP1 hQ ⊢
  have p0 := hP1.cell 0
  have p1 := hP1.cell 1
  have p2 := hP1.cell 2
  have p3 := hP1.cell 3
  have hC := rcheck41_any k x y A n cp L c W0 (h.below hb)
  by_cases hc0 : checkA k x y L c = 0
  · have b1 : (checkA k x y L c != 0) = false := by simp [hc0]
    have Hc := hide hc0
    rw [hc0] at hC
    clear hc0 b1
    go_upto_region 4 with (go_at_call 16; refine hC.mono ?_; rintro e w1 ⟨rfl, hbC⟩)
    have hP2 := hP1.below hbC hP1.lt
    have hQ2 := hQ.below hbC hQ.lt
    have hbz := Below_trans' hb hb.size hbC
    clear hC p0 p1 p2 p3
    have p0 := hP2.cell 0
    have p1 := hP2.cell 1
    have p2 := hP2.cell 2
    have p3 := hP2.cell 3
    have q0 := hQ2.cell 0
    have q1 := hQ2.cell 1
    have hB : ∀ q, Calls Tryz.prog 28 #[.agg #[.int .u8 bk, .slice Am nm cm], .int .i64 c] (More w1 q) fun e w' => e = .returned (.int .i64 (bcheckS bk ms c)) ∧ Below (More w1 q).heap.size (More w1 q) w' := fun q => rbcheck_any bk Am nm cm ms c _ ((hm.below hbz).more q)
    have hKd : ∀ q, Calls Tryz.prog 29 #[.agg #[.int .u8 k, .int .i64 x, .int .i64 y, .slice A n cp]] (More w1 q) fun e w' => e = .returned (.int .u8 (kindA k)) ∧ Below (More w1 q).heap.size (More w1 q) w' := fun q => rkind41_any k x y A n cp _
    by_cases hbk : bcheckS bk ms c ≠ 0 ∨ bk ≠ kindA k
    · have he : Hid (valErr k x y L bk ms c = 8) := by unfold Hid valErr; rw [if_neg (by simp [Hc.out]), if_pos hbk]
      have hv : Hid (valueA k x y L bk ms c = 0) := by unfold Hid valueA; rw [he.out]; rfl
      by_cases hbc : bcheckS bk ms c = 0
      · have b2 : (bk != kindA k) = true := by simp; omega
        rw [hbc] at hB
        generalize kindA k = kk at *
        clear hbc hbk
        refine wp_region_more (by kernel_rfl) (by kernel_rfl) ?_
        repeat (go_big_quiet_step ((first | (go_at_call 28; with_reducible exact more_of (hB _)) | (go_at_call 29; with_reducible exact more_of (hKd _)))))
        refine wpQuiet_nil ?_
        rintro w2 ⟨qw2, hww2⟩
        have hbw2 := below_of_eq hww2
        clear hww2 qw2
        go_wp2
        go_ret2
        exact ⟨ret_ii hv.out.symm he.out.symm, Below_trans' hbz hbz.size hbw2⟩
      · have b2 : (bcheckS bk ms c != 0) = true := by simp [hbc]
        generalize bcheckS bk ms c = bb at *
        clear hbc hbk
        refine wp_region_more (by kernel_rfl) (by kernel_rfl) ?_
        repeat (go_big_quiet_step ((first | (go_at_call 28; with_reducible exact more_of (hB _)) | (go_at_call 29; with_reducible exact more_of (hKd _)))))
        refine wpQuiet_nil ?_
        rintro w2 ⟨qw2, hww2⟩
        have hbw2 := below_of_eq hww2
        clear hww2 qw2
        go_wp2
        go_ret2
        exact ⟨ret_ii hv.out.symm he.out.symm, Below_trans' hbz hbz.size hbw2⟩
    · have he : Hid (valErr k x y L bk ms c = 0) := by unfold Hid valErr; rw [if_neg (by simp [Hc.out]), if_neg hbk]
      have hv : Hid (valueA k x y L bk ms c = worthA k x y L ms) := by unfold Hid valueA; rw [he.out, if_pos rfl]
      have hbc : bcheckS bk ms c = 0 := by omega
      have hkk : bk = kindA k := by omega
      have b2 : (bk != kindA k) = false := by simp [hkk]
      have hF := hide (fine_of (check_zero Hc.out).2)
      rw [hbc] at hB
      have H3 : Hid (k = 3 → bk = 1) := fun e => by rw [hkk, e]; rfl
      generalize kindA k = kk at *
      clear hbc hbk hkk
      refine wp_region_more (by kernel_rfl) (by kernel_rfl) ?_
      repeat (go_big_quiet_step ((first | (go_at_call 28; with_reducible exact more_of (hB _)) | (go_at_call 29; with_reducible exact more_of (hKd _)))))
      refine wpQuiet_nil ?_
      rintro w2 ⟨qw2, hww2⟩
      have hbw2 := below_of_eq hww2
      clear hww2 qw2
      have hbz2 := Below_trans' hbz hbz.size hbw2
      have hP3 := hP2.below hbw2 hP2.lt
      have hQ3 := hQ2.below hbw2 hQ2.lt
      clear hB hKd p0 p1 p2 p3 q0 q1
      have p0 := hP3.cell 0
      have p1 := hP3.cell 1
      have p2 := hP3.cell 2
      have p3 := hP3.cell 3
      have q0 := hQ3.cell 0
      have q1 := hQ3.cell 1
      have hW := rworth_any k x y A n cp L bk Am nm cm ms c w2 (h.below hbz2) (hm.below hbz2) hF.out H3.out
      clear hF H3
      go_wp2_with (go_at_call 30; refine hW.mono ?_; rintro e w3 ⟨rfl, hb3⟩)
      go_ret2
      exact ⟨ret_ii hv.out.symm he.out.symm, Below_trans' hbz2 hbz2.size hb3⟩
  · have b1 : (checkA k x y L c != 0) = true := by simp [hc0]
    have he : Hid (valErr k x y L bk ms c = checkA k x y L c) := by unfold Hid valErr; rw [if_pos hc0]
    have hv : Hid (valueA k x y L bk ms c = 0) := by unfold Hid valueA; rw [he.out, if_neg hc0]
    generalize checkA k x y L c = ce at *
    clear hc0
    go_wp2_with (go_at_call 16; refine hC.mono ?_; rintro e w1 ⟨rfl, hbC⟩)
    go_ret2
    exact ⟨ret_ii hv.out.symm he.out.symm, Below_trans' hb hb.size hbC⟩
end Go.Proofs.YtkmcgpaoekphmaaGreat

namespace Go.Proofs.YtkmcgpaoekphmaaGreat

/-- The sum of the values of the rows. -/
def totA (k x y : Int) (L : List Int) (l : List Row) : Int := (l.map fun r => r.2 * worthA k x y L r.1).sum
theorem totA_step {k x y : Int} {L : List Int} {l : List Row} {i : Nat} {r : Row} (h : l[i]? = some r) : totA k x y L (l.take (i + 1)) = totA k x y L (l.take i) + r.2 * worthA k x y L r.1 := by
  unfold totA
  rw [List.take_add_one, h]
  simp
theorem totA_bd {k x y : Int} {L : List Int} : ∀ {l : List Row}, (∀ r ∈ l, 0 < r.2) → 0 ≤ totA k x y L l ∧ totA k x y L l ≤ 2 * totS l ∧ 0 ≤ totS l
  | [], _ => by simp [totA, totS]
  | r :: s, h => by
    have ih := totA_bd (k := k) (x := x) (y := y) (L := L) (l := s) (fun r hr => h r (List.mem_cons_of_mem _ hr))
    have hr := h r List.mem_cons_self
    have hw := worthA_bd k x y L r.1
    have h1 : 0 ≤ r.2 * worthA k x y L r.1 := Int.mul_nonneg (by omega) hw.1
    have h2 : r.2 * worthA k x y L r.1 ≤ r.2 * 2 := Int.mul_le_mul_of_nonneg_left hw.2 (by omega)
    have e1 : totA k x y L (r :: s) = r.2 * worthA k x y L r.1 + totA k x y L s := by simp [totA]
    have e2 : totS (r :: s) = r.2 + totS s := by simp [totS]
    omega
theorem pos_mem {c k : Int} {l : List Row} (h : checkS c k l = 0) : ∀ r ∈ l, 0 < r.2 := by
  intro r hr
  obtain ⟨i, hi, rfl⟩ := List.getElem_of_mem hr
  have := rowOK_many ((check_ok h).2.2.2.2.2.2 i hi)
  rwa [show l.getD i ([], 0) = l[i] by simp [List.getD, hi]] at this
structure TotRoom (k x y : Int) (L : List Int) (l : List Row) (i : Nat) (r : Row) : Prop where
  p0 : 0 ≤ r.2 * worthA k x y L r.1
  p1 : r.2 * worthA k x y L r.1 ≤ 2000000
  s0 : 0 ≤ totA k x y L (l.take i)
  s1 : totA k x y L (l.take i) + r.2 * worthA k x y L r.1 ≤ 2000000
  n0 : 0 ≤ totS (l.take i)
  n1 : totS (l.take i) + r.2 ≤ 1000000
  y0 : 0 < r.2
  sA : totA k x y L (l.take (i + 1)) = totA k x y L (l.take i) + r.2 * worthA k x y L r.1
  sN : totS (l.take (i + 1)) = totS (l.take i) + r.2
theorem tot_room {k x y c pk : Int} {L : List Int} {l : List Row} (h : checkS c pk l = 0) {i : Nat} {r : Row} (hat : l[i]? = some r) : TotRoom k x y L l i r := by
  have hp := pos_mem h
  have hi : i < l.length := (List.getElem?_eq_some_iff.1 hat).1
  have ht := (check_ok h).2.2.2.2.2.1
  have hm := totS_mono (l := l) (fun i hi => rowOK_many ((check_ok h).2.2.2.2.2.2 i hi)) (a := i + 1) (b := l.length) hi (Nat.le_refl _)
  rw [List.take_length] at hm
  have b0 := totA_bd (k := k) (x := x) (y := y) (L := L) (l := l.take i) (fun r hr => hp r (List.mem_of_mem_take hr))
  have b1 := totA_bd (k := k) (x := x) (y := y) (L := L) (l := l.take (i + 1)) (fun r hr => hp r (List.mem_of_mem_take hr))
  have sA := totA_step (k := k) (x := x) (y := y) (L := L) hat
  have sN := totS_take_succ hat
  have hr := hp r (List.mem_of_getElem? hat)
  have hw := worthA_bd k x y L r.1
  have h1 : 0 ≤ r.2 * worthA k x y L r.1 := Int.mul_nonneg (by omega) hw.1
  exact ⟨h1, by omega, b0.1, by omega, b0.2.2, by omega, hr, sA, sN⟩

def totErr (k x y : Int) (L : List Int) (c pk : Int) (l : List Row) : Int := if checkS c pk l ≠ 0 then checkS c pk l else if checkA k x y L c ≠ 0 then checkA k x y L c else if pk ≠ kindA k then 8 else 0
def totV (k x y : Int) (L : List Int) (c pk : Int) (l : List Row) : Int := if totErr k x y L c pk l = 0 then totA k x y L l else 0
def totN (k x y : Int) (L : List Int) (c pk : Int) (l : List Row) : Int := if totErr k x y L c pk l = 0 then totS l else 0
structure TotIs (k x y : Int) (L : List Int) (c pk : Int) (l : List Row) (e v n : Int) : Prop where
  e : totErr k x y L c pk l = e
  v : totV k x y L c pk l = v
  n : totN k x y L c pk l = n
theorem totIs_bad {k x y c pk e : Int} {L : List Int} {l : List Row} (h : totErr k x y L c pk l = e) (he : e ≠ 0) : TotIs k x y L c pk l e 0 0 :=
  ⟨h, by unfold totV; rw [h, if_neg he], by unfold totN; rw [h, if_neg he]⟩
theorem totIs_ok {k x y c pk : Int} {L : List Int} {l : List Row} (h : totErr k x y L c pk l = 0) : TotIs k x y L c pk l 0 (totA k x y L l) (totS l) :=
  ⟨h, by unfold totV; rw [h, if_pos rfl], by unfold totN; rw [h, if_pos rfl]⟩
theorem kindA_nk (k : Int) : kindA k = 1 ∨ kindA k = 2 := by unfold kindA; split <;> simp
end Go.Proofs.YtkmcgpaoekphmaaGreat

namespace Go.Proofs.YtkmcgpaoekphmaaGreat
open Go.RowKit Go.Proofs Go.Shelf
attribute [local go_sem] cell?_more cell?_alloc_some cell?_setCell_far frozen?_alloc_some frozen?_more
theorem ret_iii {a b c a' b' c' : Int} (h1 : a = a') (h2 : b = b') (h3 : c = c') : Ending.returned (.tuple #[.int .i64 a, .int .i64 b, .int .i64 c]) = .returned (.tuple #[.int .i64 a', .int .i64 b', .int .i64 c']) := by rw [h1, h2, h3]

/-- A function of values. -/
structure ValFn (F : FuncId) (g : Nat) (k x y : Int) (L : List Int) (pk : Int) (W0 : World) : Prop where
  eg : ∀ args w, (callFunc F args).run Tryz.prog w = .ok (.enter F args) w
  run : ∀ W, Below W0.heap.size W0 W → ∀ (Am : Option Addr) (nm cm : Nat) (ms : List Int), RInts W Am nm cm ms →
    Calls Tryz.prog F #[.agg #[.int .u8 pk, .slice Am nm cm], .pointer (some ⟨g, 0, none⟩)] W fun e w' => e = .returned (.int .i64 (worthA k x y L ms)) ∧ Below W.heap.size W w'
theorem vals_fn {k x y : Int} {A : Option Addr} {n cp : Nat} {L : List Int} {c pk : Int} {g : Nat} {w : World} (hF : FineA k x y L c) (h3 : k = 3 → pk = 1) (hA : AsnAt w g k x y A n cp) (hL : RInts w A n cp L) :
    ∃ F i, ValFn F g k x y L pk w ∧ Instr.findNow (.int .u8) (.int .u8 k) (valsM g).toList 0 = some (some (i, .func (.func F) #[] #[.pointer (some ⟨g, 0, none⟩)])) := by
  have hlt : g < w.heap.size := Has.lt hA
  rcases hF.k5 with rfl | rfl | rfl | rfl | rfl
  · exact ⟨48, 0, ⟨enters_of Tryz.func48 (by kernel_rfl) rfl, fun W hW Am nm cm ms hm => val1_any g 1 x y A n cp L pk Am nm cm ms W (Has.below hA hW hlt) hm⟩, by rfl⟩
  · exact ⟨50, 1, ⟨enters_of Tryz.func50 (by kernel_rfl) rfl, fun W hW Am nm cm ms hm => val2_any g 2 x y A n cp L pk Am nm cm ms W (Has.below hA hW hlt) hm⟩, by rfl⟩
  · obtain rfl := h3 rfl
    exact ⟨52, 2, ⟨enters_of Tryz.func52 (by kernel_rfl) rfl, fun W hW Am nm cm ms hm => val3_any g 3 x y A n cp L Am nm cm ms W (Has.below hA hW hlt) hm⟩, by rfl⟩
  · exact ⟨54, 3, ⟨enters_of Tryz.func54 (by kernel_rfl) rfl, fun W hW Am nm cm ms hm => val4_any g 4 x y A n cp L pk Am nm cm ms W (Has.below hA hW hlt) (hL.below hW) hm⟩, by rfl⟩
  · exact ⟨56, 4, ⟨enters_of Tryz.func56 (by kernel_rfl) rfl, fun W hW Am nm cm ms hm => val5_any g 5 x y A n cp L pk Am nm cm ms W (Has.below hA hW hlt) (hL.below hW) hm⟩, by rfl⟩

set_option maxRecDepth 100000 in
set_option maxHeartbeats 4000000 in
theorem total_any (k x y : Int) (A : Option Addr) (n cp : Nat) (L : List Int) (C pk : Int) (Ar : Option Addr) (nr cr : Nat) (l : List Row) (w : World) (h : RInts w A n cp L) (hr : RRows w Ar nr cr l) :
    Calls Tryz.prog 11 #[.agg #[.int .u8 k, .int .i64 x, .int .i64 y, .slice A n cp], .agg #[.int .i64 C, .int .u8 pk, .slice Ar nr cr]] w fun e w' =>
      e = .returned (.tuple #[.int .i64 (totV k x y L C pk l), .int .i64 (totN k x y L C pk l), .int .i64 (totErr k x y L C pk l)]) ∧ Below w.heap.size w w' := by
  have HT := hide (show Tryz.prog.underlying 73 = some (.map 5 72) by kernel_rfl)
  have HK := hide (show Tryz.prog.underlying 5 = some (.int .u8) by kernel_rfl)
  have hle := hr.le
  have hlen := hide hr.len
  have hb0 : Below w.heap.size w (w.alloc (.cells #[.int .u8 k, .int .i64 x, .int .i64 y, .slice A n cp] 24)) := below_allocN
  have hP := Has.new w 24 #[.int .u8 k, .int .i64 x, .int .i64 y, .slice A n cp]
  have hb1 : Below (w.alloc (.cells #[.int .u8 k, .int .i64 x, .int .i64 y, .slice A n cp] 24)).heap.size (w.alloc (.cells #[.int .u8 k, .int .i64 x, .int .i64 y, .slice A n cp] 24)) ((w.alloc (.cells #[.int .u8 k, .int .i64 x, .int .i64 y, .slice A n cp] 24)).alloc (.cells #[.int .i64 C, .int .u8 pk, .slice Ar nr cr] 29)) := below_allocN
  have hQ := Has.new (w.alloc (.cells #[.int .u8 k, .int .i64 x, .int .i64 y, .slice A n cp] 24)) 29 #[.int .i64 C, .int .u8 pk, .slice Ar nr cr]
  have hP1 := hP.below hb1 hP.lt
  have hb := Below_trans' hb0 hb0.size hb1
  clear hb0 hb1 hP
  rw [World.size_alloc] at hQ
  go_enter Tryz.func11, Tryz.ntmps11
  go_upto_region 1 with fail
  generalize World.alloc (World.alloc w _) _ = W0 at hb hP1 hQ ⊢
  have p0 := hP1.cell 0
  have p1 := hP1.cell 1
  have p2 := hP1.cell 2
  have p3 := hP1.cell 3
  have q0 := hQ.cell 0
  have q1 := hQ.cell 1
  have q2 := hQ.cell 2
  have hC := pcheck_any C pk Ar nr cr l W0 (hr.below hb)
  by_cases hc0 : checkS C pk l = 0
  · have Hc := hide hc0
    rw [hc0] at hC
    clear hc0
    go_upto_region 4 with (go_at_call 31; refine hC.mono ?_; rintro e w1 ⟨rfl, hd⟩)
    clear hC
    replace hP1 := hP1.below hd hP1.lt
    replace hQ := hQ.below hd hQ.lt
    replace hb := Below_trans' hb hb.size hd
    clear p0 p1 p2 p3 q0 q1 q2 hd
    have p0 := hP1.cell 0
    have p1 := hP1.cell 1
    have p2 := hP1.cell 2
    have p3 := hP1.cell 3
    have q0 := hQ.cell 0
    have q1 := hQ.cell 1
    have q2 := hQ.cell 2
    have hA := check41_any k x y A n cp L C w1 (h.below hb)
    by_cases ha : checkA k x y L C = 0
    · have Ha := hide ha
      rw [ha] at hA
      clear ha
      go_upto_region 7 with (go_at_call 15; refine hA.mono ?_; rintro e w2 ⟨rfl, hd⟩)
      clear hA
      replace hP1 := hP1.below hd hP1.lt
      replace hQ := hQ.below hd hQ.lt
      replace hb := Below_trans' hb hb.size hd
      clear p0 p1 p2 p3 q0 q1 q2 hd
      have p0 := hP1.cell 0
      have p1 := hP1.cell 1
      have p2 := hP1.cell 2
      have p3 := hP1.cell 3
      have q0 := hQ.cell 0
      have q1 := hQ.cell 1
      have q2 := hQ.cell 2
      have hKd : ∀ q, Calls Tryz.prog 26 #[.agg #[.int .u8 k, .int .i64 x, .int .i64 y, .slice A n cp]] (More w2 q) fun e w' => e = .returned (.int .u8 (kindA k)) ∧ Below (More w2 q).heap.size (More w2 q) w' := fun q => kind_any k x y A n cp _
      by_cases hk : pk = kindA k
      · have b2 : (pk != kindA k) = false := by simp [hk]
        have hT : Hid (TotIs k x y L C pk l 0 (totA k x y L l) (totS l)) := totIs_ok (by unfold totErr; rw [if_neg (by simp [Hc.out]), if_neg (by simp [Ha.out]), if_neg (by simp [hk])])
        have H3 : Hid (k = 3 → pk = 1) := fun e => by rw [hk, e]; rfl
        have hF := hide (fine_of (check_zero Ha.out).2)
        generalize kindA k = kk at *
        clear hk
        refine wp_region_more (by kernel_rfl) (by kernel_rfl) ?_
        repeat (go_big_quiet_step ((go_at_call 26; with_reducible exact more_of (hKd _))))
        refine wpQuiet_nil ?_
        rintro w3 ⟨qw3, hww3⟩
        have hbw3 := below_of_eq hww3
        clear hww3 qw3
        clear hKd
        replace hP1 := hP1.below hbw3 hP1.lt
        replace hQ := hQ.below hbw3 hQ.lt
        replace hb := Below_trans' hb hb.size hbw3
        clear p0 p1 p2 p3 q0 q1 q2 hbw3
        have p0 := hP1.cell 0
        have p1 := hP1.cell 1
        have p2 := hP1.cell 2
        have p3 := hP1.cell 3
        have q0 := hQ.cell 0
        have q1 := hQ.cell 1
        have q2 := hQ.cell 2
        go_upto_region 9 with (fail)
        refine wp_region_flowz [0, 2, 3] [0, 2, 3] (fun w' => ∃ q, w' = More w3 q) (by kernel_rfl) (by kernel_rfl) (below_more ((Below.refl w3.heap.size w3).drew)) ?_
        simp only [pickOps, List.getElem?_cons_zero, List.getElem?_cons_succ]
        repeat (go_big_quiet_step (fail))
        refine wpQuiet_nil ?_
        have hdr : Below w3.heap.size w3 w3.drew := (Below.refl _ _).drew
        refine flow_one 1 (by kernel_rfl) rfl ?_
        go_wp2_with fail
        refine (values41_any k x y A n cp w3.drew).mono ?_
        rintro e w4 ⟨g, r, rfl, hA, hM, hb4⟩
        have hbv : Below w3.heap.size w3 w4 := Below_trans' hdr (Nat.le_refl _) hb4
        clear hdr hb4
        go_wp2
        refine FlowPost.mk ⟨below_more hbv, ?_⟩
        refine flow_one 4 (by kernel_rfl) rfl ?_
        obtain ⟨F, ix, hVF, hfind⟩ := vals_fn (pk := pk) hF.out H3.out hA ((h.below hb).below hbv)
        have HBV := hide hbv
        replace hP1 := hP1.below hbv hP1.lt
        replace hQ := hQ.below hbv hQ.lt
        replace hb := Below_trans' hb hb.size hbv
        clear p0 p1 p2 p3 q0 q1 q2 hbv
        have p0 := hP1.cell 0
        have p1 := hP1.cell 1
        have p2 := hP1.cell 2
        have p3 := hP1.cell 3
        have q0 := hQ.cell 0
        have q1 := hQ.cell 1
        have q2 := hQ.cell 2
        have Hvf := hide hVF
        clear hVF hF H3
        refine lookU8 rfl _ _ 73 rfl 5 72 HT.out HK.out r _ _ _ ix _ rfl rfl hM hfind ?_
        clear hfind
        go_wp2
        refine FlowPost.mk ⟨below_more HBV.out, ?_⟩
        clear hM HBV
        refine flow_rest [5] (by kernel_rfl) ?_
        simp only [pickOps]
        have hQ4 := hide hQ
        have hbz := hide hb
        go_wp2
        go_loopw [4, 5, 35] (fun s m i wr => ∃ t : Nat, t ≤ nr ∧ i = .int .i64 t ∧ s = .int .i64 (totA k x y L (l.take t)) ∧ m = .int .i64 (totS (l.take t)) ∧ Below w4.heap.size w4 wr) (fun _ _ i _ => nr - (intOf i).toNat)
        case atStart => exact ⟨0, Nat.zero_le _, rfl, rfl, rfl, Below.refl _ _⟩
        case round =>
          obtain ⟨t, ht, rfl, rfl, rfl, hB⟩ := hrel
          have hQr := hQ.below hB hQ.lt
          clear p0 p1 p2 p3 q0 q1 q2
          have q1 := hQr.cell 1
          by_cases hlt : t < nr
          · obtain ⟨b, off, Am, nm, cm, ms, v, rfl, hc0, hRm, hc1, _, hat, hy0, hy1⟩ := (((hr.below hb).below hB).step hlt)
            have hroom := tot_room (k := k) (x := x) (y := y) (L := L) Hc.out hat.out
            have hba : Below wr.heap.size wr (wr.alloc (.cells #[.slice Am nm cm, .int .i64 v] 60)) := below_allocN
            have hHr := Has.new wr 60 #[.slice Am nm cm, .int .i64 v]
            have hqq := hQr.below hba hQr.lt
            generalize hV : World.alloc wr _ = V at hba hHr hqq
            have hcall : ∀ q, Calls Tryz.prog F #[.agg #[.int .u8 pk, .slice Am nm cm], .pointer (some ⟨g, 0, none⟩)] (More V q) fun e w' => e = .returned (.int .i64 (worthA k x y L ms)) ∧ Below (More V q).heap.size (More V q) w' :=
              fun q => Hvf.out.run _ (Below_trans' (Below_trans' hB hB.size hba) (Below_trans' hB hB.size hba).size (more_below V q)) _ _ _ _ ((hRm.below hba).more q)
            have eg := Hvf.out.eg
            have hr1 := hroom.p0
            have hr2 := hroom.p1
            have hr3 := hroom.s0
            have hr4 := hroom.s1
            have hr5 := hroom.n0
            have hr6 := hroom.n1
            have hr7 := hroom.y0
            have hsA := hide hroom.sA
            have hsN := hide hroom.sN
            simp only at hr1 hr2 hr3 hr4 hr5 hr6 hr7 hsA hsN
            generalize worthA k x y L ms = W at *
            have e1 : IntKind.i64.wrap (v * W) = v * W := IntWalk.i64_in _ (by omega)
            have e2 : IntKind.i64.wrap (totA k x y L (l.take t) + v * W) = totA k x y L (l.take t) + v * W := IntWalk.i64_in _ (by omega)
            have e3 : IntKind.i64.wrap (totS (l.take t) + v) = totS (l.take t) + v := IntWalk.i64_in _ (by omega)
            clear hroom hat hr1 hr2 hr3 hr4 hr5 hr6 hr7
            go_upto_region 13 with fail
            try rw [hV]
            clear hV
            have s0 := hHr.cell 0
            have s1 := hHr.cell 1
            have q1' := hqq.cell 1
            refine wp_region_more (by kernel_rfl) (by kernel_rfl) ?_
            repeat (go_big_quiet_step ((go_at_fn F; with_reducible exact more_of (hcall _))))
            refine wpQuiet_nil ?_
            rintro w5 ⟨qw5, hww5⟩
            have hbw5 := below_of_eq hww5
            clear hww5 qw5
            have s1' := keep_cell hbw5 s1
            have hB5 := Below_trans' (Below_trans' hB hB.size hba) (Below_trans' hB hB.size hba).size hbw5
            clear s0 s1 q1 q1' hcall eg
            go_wp2
            go_roundw
            case rel => exact ⟨t + 1, by omega, by go_num, by rw [hsA.out], by rw [hsN.out], hB5⟩
            case measure => simp [intOf] <;> omega
          · have htn : t = nr := by omega
            have hT2 : Hid (TotIs k x y L C pk l 0 (totA k x y L (l.take t)) (totS (l.take t))) := by
              unfold Hid
              rw [List.take_of_length_le (by rw [hlen.out]; omega)]
              exact hT.out
            have hbe := Below_trans' hbz.out hbz.out.size hB
            clear htn
            go_wp2
            go_ret3
            exact ⟨ret_iii hT2.out.v.symm hT2.out.n.symm hT2.out.e.symm, hbe⟩
      · have b2 : (pk != kindA k) = true := by simp [hk]
        have hT : Hid (TotIs k x y L C pk l 8 0 0) := totIs_bad (by unfold totErr; rw [if_neg (by simp [Hc.out]), if_neg (by simp [Ha.out]), if_pos hk]) (by decide)
        generalize kindA k = kk at *
        clear hk
        refine wp_region_more (by kernel_rfl) (by kernel_rfl) ?_
        repeat (go_big_quiet_step ((go_at_call 26; with_reducible exact more_of (hKd _))))
        refine wpQuiet_nil ?_
        rintro w3 ⟨qw3, hww3⟩
        have hbw3 := below_of_eq hww3
        clear hww3 qw3
        clear hKd
        replace hP1 := hP1.below hbw3 hP1.lt
        replace hQ := hQ.below hbw3 hQ.lt
        replace hb := Below_trans' hb hb.size hbw3
        clear p0 p1 p2 p3 q0 q1 q2 hbw3
        have p0 := hP1.cell 0
        have p1 := hP1.cell 1
        have p2 := hP1.cell 2
        have p3 := hP1.cell 3
        have q0 := hQ.cell 0
        have q1 := hQ.cell 1
        have q2 := hQ.cell 2
        go_wp2
        go_ret3
        exact ⟨ret_iii hT.out.v.symm hT.out.n.symm hT.out.e.symm, hb⟩
    · have hT : Hid (TotIs k x y L C pk l (checkA k x y L C) 0 0) := totIs_bad (by unfold totErr; rw [if_neg (by simp [Hc.out]), if_pos ha]) ha
      have b1 : (checkA k x y L C != 0) = true := by simp [ha]
      generalize checkA k x y L C = ce at *
      clear ha
      go_wp2_with (go_at_call 15; refine hA.mono ?_; rintro e w2 ⟨rfl, hd⟩)
      replace hb := Below_trans' hb hb.size hd
      go_ret3
      exact ⟨ret_iii hT.out.v.symm hT.out.n.symm hT.out.e.symm, hb⟩
  · have hT : Hid (TotIs k x y L C pk l (checkS C pk l) 0 0) := totIs_bad (by unfold totErr; rw [if_pos hc0]) hc0
    have b1 : (checkS C pk l != 0) = true := by simp [hc0]
    generalize checkS C pk l = ce at *
    clear hc0
    go_wp2_with (go_at_call 31; refine hC.mono ?_; rintro e w2 ⟨rfl, hd⟩)
    replace hb := Below_trans' hb hb.size hd
    go_ret3
    exact ⟨ret_iii hT.out.v.symm hT.out.n.symm hT.out.e.symm, hb⟩
end Go.Proofs.YtkmcgpaoekphmaaGreat
