/-
  The small functions of the layer ballot and of the library: within, isNaN, Less, Compare, Index, place, IsSorted, Compare of lists.
-/
import Derived.Test.YtleniljhacnikaaGreatChecked
import Derived.Test.YtleniljhacnikaaGreatSpecA
namespace Go.Proofs.YtleniljhacnikaaGreat
open Go.RowKit Go.Proofs

theorem ret_i {k : IntKind} {a b : Int} (h : a = b) : Ending.returned (.int k a) = .returned (.int k b) := by rw [h]
theorem ret_b {a b : Bool} (h : a = b) : Ending.returned (.bool a) = .returned (.bool b) := by rw [h]

theorem within8 (x lo hi : Int) (w : World) :
    Calls Tryz.prog 52 #[.int .i64 x, .int .i64 lo, .int .i64 hi] w fun e w' => e = .returned (.bool (inR lo hi x)) ∧ w = w' := by
  by_cases h1 : lo ≤ x
  · go_enter Tryz.func52, Tryz.ntmps52
    go_wp2
    go_ret
    exact ⟨by simp [inR, h1], rfl⟩
  · go_enter Tryz.func52, Tryz.ntmps52
    go_wp2
    go_ret
    exact ⟨by simp [inR]; omega, rfl⟩

theorem isNaN_any (x : Int) (w : World) :
    Calls Tryz.prog 81 #[.int .i64 x] w fun e w' => e = .returned (.bool false) ∧ w = w' := by
  go_enter Tryz.func81, Tryz.ntmps81
  go_wp2
  go_ret
  exact ⟨by simp, rfl⟩

theorem less_any (x y : Int) (w : World) :
    Calls Tryz.prog 84 #[.int .i64 x, .int .i64 y] w fun e w' => e = .returned (.bool (decide (x < y))) ∧ w = w' := by
  go_enter Tryz.func84, Tryz.ntmps84
  go_wp2_with (go_at_call 81; refine (isNaN_any _ _).mono ?_; rintro e w' ⟨rfl, rfl⟩)
  go_ret
  exact ⟨by simp, rfl⟩

theorem compare_any (x y : Int) (w : World) :
    Calls Tryz.prog 70 #[.int .i64 x, .int .i64 y] w fun e w' => e = .returned (.int .i64 (cmpI x y)) ∧ w = w' := by
  by_cases h1 : x < y
  · go_enter Tryz.func70, Tryz.ntmps70
    go_wp2_with (go_at_call 81; refine (isNaN_any _ _).mono ?_; rintro e w' ⟨rfl, rfl⟩)
    go_ret
    exact ⟨by simp [cmpI, h1], rfl⟩
  · by_cases h2 : y < x
    · go_enter Tryz.func70, Tryz.ntmps70
      go_wp2_with (go_at_call 81; refine (isNaN_any _ _).mono ?_; rintro e w' ⟨rfl, rfl⟩)
      go_ret
      exact ⟨by simp [cmpI, h1, h2], rfl⟩
    · go_enter Tryz.func70, Tryz.ntmps70
      go_wp2_with (go_at_call 81; refine (isNaN_any _ _).mono ?_; rintro e w' ⟨rfl, rfl⟩)
      go_ret
      exact ⟨ret_i (by rw [cmpI, if_neg (by omega), if_neg (by omega)]), rfl⟩

theorem place_any (A : Option Addr) (n c : Nat) (xs : List Int) (x : Int) (w : World) (h : RInts w A n c xs) :
    Calls Tryz.prog 62 #[.slice A n c, .int .i64 x] w fun e w' => e = .returned (.int .i64 (placeS xs x 0)) ∧ w = w' := by
  have hn := h.le
  go_enter Tryz.func62, Tryz.ntmps62
  go_wp2
  go_loop [5] (fun i => ∃ k : Nat, k ≤ n ∧ i = .int .i64 k ∧ Hid (placeS xs x 0 = placeS (xs.drop k) x k)) (fun i => n - (intOf i).toNat)
  case atStart => exact ⟨0, Nat.zero_le _, rfl, by simp [Hid]⟩
  case round =>
    obtain ⟨k, hk, rfl, hp⟩ := hrel
    by_cases hlt : k < n
    · obtain ⟨b, off, v, rfl, hc, hd, _⟩ := h.step hlt
      by_cases hv : v = x
      · subst hv
        go_wp2
        go_ret
        exact ⟨ret_i (by rw [hp.out, hd.out]; simp [placeS]), rfl⟩
      · have hv' : (v == x) = false := by simpa using hv
        go_wp2
        go_round
        case rel => exact ⟨k + 1, by omega, by go_num, by unfold Hid; rw [hp.out, hd.out]; simp [placeS, hv]⟩
        case measure => simp [intOf] <;> omega
    · have hd := hide (h.done hlt)
      go_wp2
      go_ret
      exact ⟨ret_i (by rw [hp.out, hd.out]; simp [placeS]), rfl⟩

theorem sorted_two (l : List Int) (a b : Int) : sortedB (l ++ [a, b]) = (decide (a ≤ b) && sortedB (l ++ [a])) := by
  induction l with
  | nil => simp [sortedB]
  | cons x r ih =>
    cases r with
    | nil => simp [sortedB, Bool.and_comm]
    | cons y s =>
      simp only [List.cons_append, sortedB] at *
      rw [ih]
      cases decide (x ≤ y) <;> cases decide (a ≤ b) <;> rfl
theorem sorted_take (xs : List Int) (k : Nat) (u v : Int) (hu : xs[k]? = some u) (hv : xs[k + 1]? = some v) :
    sortedB (xs.take (k + 2)) = (decide (u ≤ v) && sortedB (xs.take (k + 1))) := by
  have h1 : xs.take (k + 1) = xs.take k ++ [u] := by rw [List.take_add_one, hu]; rfl
  have h2 : xs.take (k + 2) = xs.take k ++ [u, v] := by rw [List.take_add_one, h1, hv]; simp
  rw [h2, h1, sorted_two]

attribute [local go_sem] cell?_more cell?_alloc_some

theorem isSorted_any (A : Option Addr) (n c : Nat) (xs : List Int) (w : World) (h : RInts w A n c xs) :
    Calls Tryz.prog 74 #[.slice A n c] w fun e w' => e = .returned (.bool (sortedB xs)) ∧ Below w.heap.size w w' := by
  have hn := h.le
  have hl := h.len
  go_enter Tryz.func74, Tryz.ntmps74
  go_wp2
  go_loopw [3] (fun i wr => ∃ k : Int, -1 ≤ k ∧ k ≤ (n : Int) - 1 ∧ i = .int .i64 k ∧ Hid (sortedB xs = sortedB (xs.take (k + 1).toNat)) ∧ Below w.heap.size w wr) (fun i _ => (intOf i).toNat)
  case atStart => exact ⟨_, by omega, by omega, rfl, by unfold Hid; rw [List.take_of_length_le (by omega)], Below.refl _ _⟩
  case round =>
    obtain ⟨k, hk0, hk, rfl, hp, hb⟩ := hrel
    have h' := h.below hb
    by_cases hlt : 0 < k
    · obtain ⟨m, rfl⟩ : ∃ m : Nat, k = (m : Int) + 1 := ⟨(k - 1).toNat, by omega⟩
      obtain ⟨b, off, v, rfl, hc, hd, hv, _⟩ := h'.step (k := m + 1) (by omega)
      obtain ⟨b', off', u, e, hc', hd', hu, _⟩ := h'.step (k := m) (by omega)
      cases e
      have b1 : (0 : Int) ≤ (m : Int) + 1 := by omega
      have b2 : (m : Int) + 1 < (n : Int) := by omega
      have b3 : (0 : Int) ≤ (m : Int) := by omega
      have b4 : (m : Int) < (n : Int) := by omega
      have hs := hide (sorted_take xs m u v hu.out hv.out)
      have e1 : IntKind.i64.wrap (m : Int) = m := IntWalk.i64_in _ (by omega)
      by_cases hlt : v < u
      · go_wp2
        refine wp_region_more (by kernel_rfl) (by kernel_rfl) ?_
        repeat (go_big_quiet_step ((go_at_call 84; exact more_same (less_any _ _ _))))
        refine wpQuiet_nil ?_
        rintro w1 ⟨qw1, hww1⟩
        have hbw1 := below_of_eq hww1
        clear hww1 qw1
        go_wp2
        go_ret
        refine ⟨ret_b ?_, Below_trans' hb hb.size hbw1⟩
        rw [hp.out, show ((m : Int) + 1 + 1).toNat = m + 2 by omega, hs.out]
        simp; omega
      · go_wp2
        refine wp_region_more (by kernel_rfl) (by kernel_rfl) ?_
        repeat (go_big_quiet_step ((go_at_call 84; exact more_same (less_any _ _ _))))
        refine wpQuiet_nil ?_
        rintro w1 ⟨qw1, hww1⟩
        have hbw1 := below_of_eq hww1
        clear hww1 qw1
        go_wp2
        go_roundw
        case rel =>
          refine ⟨m, by omega, by omega, rfl, ?_, Below_trans' hb hb.size hbw1⟩
          unfold Hid
          rw [hp.out, show ((m : Int) + 1 + 1).toNat = m + 2 by omega, hs.out, show ((m : Int) + 1).toNat = m + 1 by omega]
          simp; omega
        case measure => simp [intOf] <;> omega
    · go_wp2
      go_ret
      refine ⟨ret_b ?_, hb⟩
      rw [hp.out]
      rcases xs with _ | ⟨x, r⟩
      · simp [sortedB]
      · have : (k + 1).toNat = 0 ∨ (k + 1).toNat = 1 := by omega
        rcases this with e | e <;> simp [e, sortedB]

theorem compareL_any (A A' : Option Addr) (n c n' c' : Nat) (xs ys : List Int) (w : World) (h : RInts w A n c xs) (h' : RInts w A' n' c' ys) :
    Calls Tryz.prog 48 #[.slice A n c, .slice A' n' c'] w fun e w' => e = .returned (.int .i64 (cmpL xs ys)) ∧ w = w' := by
  have hn := h.le
  have hn' := h'.le
  go_enter Tryz.func48, Tryz.ntmps48
  go_wp2
  go_loop [11] (fun i => ∃ k : Nat, k ≤ n ∧ k ≤ n' ∧ i = .int .i64 k ∧ Hid (cmpL xs ys = cmpL (xs.drop k) (ys.drop k))) (fun i => n - (intOf i).toNat)
  case atStart => exact ⟨0, Nat.zero_le _, Nat.zero_le _, rfl, by simp [Hid]⟩
  case round =>
    obtain ⟨k, hk, hk', rfl, hp⟩ := hrel
    by_cases hlt : k < n
    · obtain ⟨b, off, v, rfl, hc, hd, _⟩ := h.step hlt
      by_cases hlt' : k < n'
      · obtain ⟨b', off', u, rfl, hc', hd', _⟩ := h'.step hlt'
        by_cases hz : cmpI v u = 0
        · have hz1 : (cmpI v u != 0) = false := by simp [hz]
          have Hz := hide hz
          clear hz
          go_wp2_with (go_at_call 70; refine (compare_any _ _ _).mono ?_; rintro e w' ⟨rfl, rfl⟩)
          go_round
          case rel => exact ⟨k + 1, by omega, by omega, by go_num, by unfold Hid; rw [hp.out, hd.out, hd'.out]; simp [cmpL, Hz.out]⟩
          case measure => simp [intOf] <;> omega
        · have hz1 : (cmpI v u != 0) = true := by simp [hz]
          go_wp2_with (go_at_call 70; refine (compare_any _ _ _).mono ?_; rintro e w' ⟨rfl, rfl⟩)
          go_ret
          exact ⟨ret_i (by rw [hp.out, hd.out, hd'.out]; simp [cmpL, hz]), rfl⟩
      · have hd' := hide (h'.done hlt')
        go_wp2
        go_ret
        exact ⟨ret_i (by rw [hp.out, hd.out, hd'.out]; simp [cmpL]), rfl⟩
    · have hd := hide (h.done hlt)
      by_cases hlt' : n < n'
      · obtain ⟨b', off', u, rfl, hc', hd', _⟩ := h'.step (k := k) (by omega)
        go_wp2
        go_ret
        exact ⟨ret_i (by rw [hp.out, hd.out, hd'.out]; simp [cmpL]), rfl⟩
      · have hd' := hide (h'.done (k := k) (by omega))
        go_wp2
        go_ret
        exact ⟨ret_i (by rw [hp.out, hd.out, hd'.out]; simp [cmpL]), rfl⟩
end Go.Proofs.YtleniljhacnikaaGreat
