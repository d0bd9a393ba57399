/-
  The small functions of the layer ballot and of the library: within, isNaN, Less, Compare, Index, place, IsSorted, Compare of lists.
  The layer ballot: fine, Check; the reference: Fine, Check.
  The reference's ballots: Fine, Check.
  Prefers, in the program and in the reference; the reference's Check, Ahead, Ints, Turned.
-/
import Derived.Test.YtolbceckbnifmaaGreatChecked
import Derived.Test.YtolbceckbnifmaaGreatSpecA
namespace Go.Proofs.YtolbceckbnifmaaGreat
open Go.RowKit Go.Proofs

theorem ret_i {k : IntKind} {a b : Int} (h : a = b) : Ending.returned (.int k a) = .returned (.int k b) := by rw [h]
theorem ret_b {a b : Bool} (h : a = b) : Ending.returned (.bool a) = .returned (.bool b) := by rw [h]

theorem within10 (x c : Int) (w : World) :
    Calls Tryz.prog 93 #[.int .i64 x, .int .i64 c] w fun e w' => e = .returned (.bool (inR 0 c x)) ∧ w = w' := by
  by_cases h1 : 0 ≤ x
  · go_enter Tryz.func93, Tryz.ntmps93
    go_wp2
    go_ret
    exact ⟨by simp [inR, h1], rfl⟩
  · go_enter Tryz.func93, Tryz.ntmps93
    go_wp2
    go_ret
    exact ⟨by simp [inR]; omega, rfl⟩

theorem within8 (x lo hi : Int) (w : World) :
    Calls Tryz.prog 124 #[.int .i64 x, .int .i64 lo, .int .i64 hi] w fun e w' => e = .returned (.bool (inR lo hi x)) ∧ w = w' := by
  by_cases h1 : lo ≤ x
  · go_enter Tryz.func124, Tryz.ntmps124
    go_wp2
    go_ret
    exact ⟨by simp [inR, h1], rfl⟩
  · go_enter Tryz.func124, Tryz.ntmps124
    go_wp2
    go_ret
    exact ⟨by simp [inR]; omega, rfl⟩

theorem isNaN_any (x : Int) (w : World) :
    Calls Tryz.prog 81 #[.int .i64 x] w fun e w' => e = .returned (.bool false) ∧ w = w' := by
  go_enter Tryz.func81, Tryz.ntmps81
  go_wp2
  go_ret
  exact ⟨by simp, rfl⟩

theorem less_any (x y : Int) (w : World) :
    Calls Tryz.prog 131 #[.int .i64 x, .int .i64 y] w fun e w' => e = .returned (.bool (decide (x < y))) ∧ w = w' := by
  go_enter Tryz.func131, Tryz.ntmps131
  go_wp2_with (go_at_call 81; refine (isNaN_any _ _).mono ?_; rintro e w' ⟨rfl, rfl⟩)
  go_ret
  exact ⟨by simp, rfl⟩

theorem compare_any (x y : Int) (w : World) :
    Calls Tryz.prog 48 #[.int .i64 x, .int .i64 y] w fun e w' => e = .returned (.int .i64 (cmpI x y)) ∧ w = w' := by
  by_cases h1 : x < y
  · go_enter Tryz.func48, Tryz.ntmps48
    go_wp2_with (go_at_call 81; refine (isNaN_any _ _).mono ?_; rintro e w' ⟨rfl, rfl⟩)
    go_ret
    exact ⟨by simp [cmpI, h1], rfl⟩
  · by_cases h2 : y < x
    · go_enter Tryz.func48, Tryz.ntmps48
      go_wp2_with (go_at_call 81; refine (isNaN_any _ _).mono ?_; rintro e w' ⟨rfl, rfl⟩)
      go_ret
      exact ⟨by simp [cmpI, h1, h2], rfl⟩
    · go_enter Tryz.func48, Tryz.ntmps48
      go_wp2_with (go_at_call 81; refine (isNaN_any _ _).mono ?_; rintro e w' ⟨rfl, rfl⟩)
      go_ret
      exact ⟨ret_i (by rw [cmpI, if_neg (by omega), if_neg (by omega)]), rfl⟩

theorem place_any (A : Option Addr) (n c : Nat) (xs : List Int) (x : Int) (w : World) (h : RInts w A n c xs) :
    Calls Tryz.prog 106 #[.slice A n c, .int .i64 x] w fun e w' => e = .returned (.int .i64 (placeS xs x 0)) ∧ w = w' := by
  have hn := h.le
  go_enter Tryz.func106, Tryz.ntmps106
  go_wp2
  go_loop [5] (fun i => ∃ k : Nat, k ≤ n ∧ i = .int .i64 k ∧ Hid (placeS xs x 0 = placeS (xs.drop k) x k)) (fun i => n - (intOf i).toNat)
  case atStart => exact ⟨0, Nat.zero_le _, rfl, by simp [Hid]⟩
  case round =>
    obtain ⟨k, hk, rfl, hp⟩ := hrel
    by_cases hlt : k < n
    · obtain ⟨b, off, v, rfl, hc, hd, _⟩ := h.step hlt
      by_cases hv : v = x
      · subst hv
        go_wp2
        go_ret
        exact ⟨ret_i (by rw [hp.out, hd.out]; simp [placeS]), rfl⟩
      · have hv' : (v == x) = false := by simpa using hv
        go_wp2
        go_round
        case rel => exact ⟨k + 1, by omega, by go_num, by unfold Hid; rw [hp.out, hd.out]; simp [placeS, hv]⟩
        case measure => simp [intOf] <;> omega
    · have hd := hide (h.done hlt)
      go_wp2
      go_ret
      exact ⟨ret_i (by rw [hp.out, hd.out]; simp [placeS]), rfl⟩

theorem index_any (A : Option Addr) (n c : Nat) (xs : List Int) (x : Int) (w : World) (h : RInts w A n c xs) :
    Calls Tryz.prog 100 #[.slice A n c, .int .i64 x] w fun e w' => e = .returned (.int .i64 (placeS xs x 0)) ∧ w = w' := by
  have hn := h.le
  go_enter Tryz.func100, Tryz.ntmps100
  go_wp2
  go_loop [8] (fun i => ∃ k : Nat, k ≤ n ∧ i = .int .i64 k ∧ Hid (placeS xs x 0 = placeS (xs.drop k) x k)) (fun i => n - (intOf i).toNat)
  case atStart => exact ⟨0, Nat.zero_le _, rfl, by simp [Hid]⟩
  case round =>
    obtain ⟨k, hk, rfl, hp⟩ := hrel
    by_cases hlt : k < n
    · obtain ⟨b, off, v, rfl, hc, hd, _⟩ := h.step hlt
      by_cases hv : v = x
      · subst hv
        go_wp2
        go_ret
        exact ⟨ret_i (by rw [hp.out, hd.out]; simp [placeS]), rfl⟩
      · have hv' : (x == v) = false := by simpa using fun e => hv (Eq.symm e)
        go_wp2
        go_round
        case rel => exact ⟨k + 1, by omega, by go_num, by unfold Hid; rw [hp.out, hd.out]; simp [placeS, hv]⟩
        case measure => simp [intOf] <;> omega
    · have hd := hide (h.done hlt)
      go_wp2
      go_ret
      exact ⟨ret_i (by rw [hp.out, hd.out]; simp [placeS]), rfl⟩

theorem sorted_two (l : List Int) (a b : Int) : sortedB (l ++ [a, b]) = (decide (a ≤ b) && sortedB (l ++ [a])) := by
  induction l with
  | nil => simp [sortedB]
  | cons x r ih =>
    cases r with
    | nil => simp [sortedB, Bool.and_comm]
    | cons y s =>
      simp only [List.cons_append, sortedB] at *
      rw [ih]
      cases decide (x ≤ y) <;> cases decide (a ≤ b) <;> rfl
theorem sorted_take (xs : List Int) (k : Nat) (u v : Int) (hu : xs[k]? = some u) (hv : xs[k + 1]? = some v) :
    sortedB (xs.take (k + 2)) = (decide (u ≤ v) && sortedB (xs.take (k + 1))) := by
  have h1 : xs.take (k + 1) = xs.take k ++ [u] := by rw [List.take_add_one, hu]; rfl
  have h2 : xs.take (k + 2) = xs.take k ++ [u, v] := by rw [List.take_add_one, h1, hv]; simp
  rw [h2, h1, sorted_two]

attribute [local go_sem] cell?_more cell?_alloc_some

theorem isSorted_any (A : Option Addr) (n c : Nat) (xs : List Int) (w : World) (h : RInts w A n c xs) :
    Calls Tryz.prog 136 #[.slice A n c] w fun e w' => e = .returned (.bool (sortedB xs)) ∧ Below w.heap.size w w' := by
  have hn := h.le
  have hl := h.len
  go_enter Tryz.func136, Tryz.ntmps136
  go_wp2
  go_loopw [3] (fun i wr => ∃ k : Int, -1 ≤ k ∧ k ≤ (n : Int) - 1 ∧ i = .int .i64 k ∧ Hid (sortedB xs = sortedB (xs.take (k + 1).toNat)) ∧ Below w.heap.size w wr) (fun i _ => (intOf i).toNat)
  case atStart => exact ⟨_, by omega, by omega, rfl, by unfold Hid; rw [List.take_of_length_le (by omega)], Below.refl _ _⟩
  case round =>
    obtain ⟨k, hk0, hk, rfl, hp, hb⟩ := hrel
    have h' := h.below hb
    by_cases hlt : 0 < k
    · obtain ⟨m, rfl⟩ : ∃ m : Nat, k = (m : Int) + 1 := ⟨(k - 1).toNat, by omega⟩
      obtain ⟨b, off, v, rfl, hc, hd, hv, _⟩ := h'.step (k := m + 1) (by omega)
      obtain ⟨b', off', u, e, hc', hd', hu, _⟩ := h'.step (k := m) (by omega)
      cases e
      have b1 : (0 : Int) ≤ (m : Int) + 1 := by omega
      have b2 : (m : Int) + 1 < (n : Int) := by omega
      have b3 : (0 : Int) ≤ (m : Int) := by omega
      have b4 : (m : Int) < (n : Int) := by omega
      have hs := hide (sorted_take xs m u v hu.out hv.out)
      have e1 : IntKind.i64.wrap (m : Int) = m := IntWalk.i64_in _ (by omega)
      by_cases hlt : v < u
      · go_wp2
        refine wp_region_more (by kernel_rfl) (by kernel_rfl) ?_
        repeat (go_big_quiet_step ((go_at_call 131; exact more_same (less_any _ _ _))))
        refine wpQuiet_nil ?_
        rintro w1 ⟨qw1, hww1⟩
        have hbw1 := below_of_eq hww1
        clear hww1 qw1
        go_wp2
        go_ret
        refine ⟨ret_b ?_, Below_trans' hb hb.size hbw1⟩
        rw [hp.out, show ((m : Int) + 1 + 1).toNat = m + 2 by omega, hs.out]
        simp; omega
      · go_wp2
        refine wp_region_more (by kernel_rfl) (by kernel_rfl) ?_
        repeat (go_big_quiet_step ((go_at_call 131; exact more_same (less_any _ _ _))))
        refine wpQuiet_nil ?_
        rintro w1 ⟨qw1, hww1⟩
        have hbw1 := below_of_eq hww1
        clear hww1 qw1
        go_wp2
        go_roundw
        case rel =>
          refine ⟨m, by omega, by omega, rfl, ?_, Below_trans' hb hb.size hbw1⟩
          unfold Hid
          rw [hp.out, show ((m : Int) + 1 + 1).toNat = m + 2 by omega, hs.out, show ((m : Int) + 1).toNat = m + 1 by omega]
          simp; omega
        case measure => simp [intOf] <;> omega
    · go_wp2
      go_ret
      refine ⟨ret_b ?_, hb⟩
      rw [hp.out]
      rcases xs with _ | ⟨x, r⟩
      · simp [sortedB]
      · have : (k + 1).toNat = 0 ∨ (k + 1).toNat = 1 := by omega
        rcases this with e | e <;> simp [e, sortedB]

theorem compareL_any (A A' : Option Addr) (n c n' c' : Nat) (xs ys : List Int) (w : World) (h : RInts w A n c xs) (h' : RInts w A' n' c' ys) :
    Calls Tryz.prog 96 #[.slice A n c, .slice A' n' c'] w fun e w' => e = .returned (.int .i64 (cmpL xs ys)) ∧ w = w' := by
  have hn := h.le
  have hn' := h'.le
  go_enter Tryz.func96, Tryz.ntmps96
  go_wp2
  go_loop [11] (fun i => ∃ k : Nat, k ≤ n ∧ k ≤ n' ∧ i = .int .i64 k ∧ Hid (cmpL xs ys = cmpL (xs.drop k) (ys.drop k))) (fun i => n - (intOf i).toNat)
  case atStart => exact ⟨0, Nat.zero_le _, Nat.zero_le _, rfl, by simp [Hid]⟩
  case round =>
    obtain ⟨k, hk, hk', rfl, hp⟩ := hrel
    by_cases hlt : k < n
    · obtain ⟨b, off, v, rfl, hc, hd, _⟩ := h.step hlt
      by_cases hlt' : k < n'
      · obtain ⟨b', off', u, rfl, hc', hd', _⟩ := h'.step hlt'
        by_cases hz : cmpI v u = 0
        · have hz1 : (cmpI v u != 0) = false := by simp [hz]
          have Hz := hide hz
          clear hz
          go_wp2_with (go_at_call 48; refine (compare_any _ _ _).mono ?_; rintro e w' ⟨rfl, rfl⟩)
          go_round
          case rel => exact ⟨k + 1, by omega, by omega, by go_num, by unfold Hid; rw [hp.out, hd.out, hd'.out]; simp [cmpL, Hz.out]⟩
          case measure => simp [intOf] <;> omega
        · have hz1 : (cmpI v u != 0) = true := by simp [hz]
          go_wp2_with (go_at_call 48; refine (compare_any _ _ _).mono ?_; rintro e w' ⟨rfl, rfl⟩)
          go_ret
          exact ⟨ret_i (by rw [hp.out, hd.out, hd'.out]; simp [cmpL, hz]), rfl⟩
      · have hd' := hide (h'.done hlt')
        go_wp2
        go_ret
        exact ⟨ret_i (by rw [hp.out, hd.out, hd'.out]; simp [cmpL]), rfl⟩
    · have hd := hide (h.done hlt)
      by_cases hlt' : n < n'
      · obtain ⟨b', off', u, rfl, hc', hd', _⟩ := h'.step (k := k) (by omega)
        go_wp2
        go_ret
        exact ⟨ret_i (by rw [hp.out, hd.out, hd'.out]; simp [cmpL]), rfl⟩
      · have hd' := hide (h'.done (k := k) (by omega))
        go_wp2
        go_ret
        exact ⟨ret_i (by rw [hp.out, hd.out, hd'.out]; simp [cmpL]), rfl⟩
end Go.Proofs.YtolbceckbnifmaaGreat

namespace Go.Proofs.YtolbceckbnifmaaGreat
open Go.RowKit Go.Proofs
attribute [local go_sem] cell?_more cell?_alloc_some

theorem nodup_take_succ {xs : List Int} {k : Nat} {v : Int} (h : xs[k]? = some v) : (xs.take (k + 1)).Nodup ↔ (xs.take k).Nodup ∧ v ∉ xs.take k := by
  rw [List.take_add_one, h]
  simp only [Option.toList_some, List.nodup_append]
  constructor
  · rintro ⟨h1, _, h3⟩
    exact ⟨h1, fun hm => h3 v hm v (by simp) rfl⟩
  · rintro ⟨h1, h2⟩
    exact ⟨h1, by simp, fun a ha b hb e => by simp at hb; subst hb; subst e; exact h2 ha⟩

theorem nodup_take {xs : List Int} (h : xs.Nodup) (k : Nat) : (xs.take k).Nodup := h.sublist (List.take_sublist k xs)

/-- The variable 'seen': which of 0 .. 9 are among the numbers l. -/
def Seen (C : Array Value) (l : List Int) : Prop := C.size = 10 ∧ ∀ j : Nat, j < 10 → C[j]? = some (.bool (decide ((j : Int) ∈ l)))

theorem Seen_new : Seen #[.bool false, .bool false, .bool false, .bool false, .bool false, .bool false, .bool false, .bool false, .bool false, .bool false] [] :=
  ⟨rfl, fun j hj => by
    have : j = 0 ∨ j = 1 ∨ j = 2 ∨ j = 3 ∨ j = 4 ∨ j = 5 ∨ j = 6 ∨ j = 7 ∨ j = 8 ∨ j = 9 := by omega
    rcases this with rfl | rfl | rfl | rfl | rfl | rfl | rfl | rfl | rfl | rfl <;> rfl⟩
theorem Seen.put {C : Array Value} {l : List Int} (h : Seen C l) {v : Int} (h0 : 0 ≤ v) : Seen (C.setIfInBounds v.toNat (.bool true)) (l ++ [v]) := by
  refine ⟨by simp [h.1], fun j hj => ?_⟩
  by_cases e : v.toNat = j
  · subst e
    rw [Array.getElem?_setIfInBounds_self_of_lt (by rw [h.1]; exact hj)]
    simp [Int.toNat_of_nonneg h0]
  · rw [Array.getElem?_setIfInBounds_ne e, h.2 j hj]
    have : ¬ (j : Int) = v := by omega
    simp [this]

theorem fineS_2 (ms : List Int) (cs : Int) : fineS 2 ms cs = (ms.all (fun x => inR 0 cs x) && sortedB ms && nodupB ms) := by simp [fineS]
theorem fineS_1 (ms : List Int) (cs : Int) : fineS 1 ms cs = (ms.all (fun x => inR 0 cs x) && nodupB ms) := by simp [fineS]


set_option maxHeartbeats 400000 in
theorem fine_any (k : Int) (A : Option Addr) (n c : Nat) (ms : List Int) (cs : Int) (w : World) (h : RInts w A n c ms) (hcs : cs ≤ 10) :
    Calls Tryz.prog 108 #[.agg #[.int .u8 k, .slice A n c], .int .i64 cs] w fun e w' => e = .returned (.bool (fineS k ms cs)) ∧ Below w.heap.size w w' := by
  have hn := h.le
  have hl := h.len
  by_cases h3 : k = 3
  · subst h3
    go_enter Tryz.func108, Tryz.ntmps108
    go_wp2
    go_loop [13] (fun i => ∃ j : Nat, j ≤ n ∧ i = .int .i64 j ∧ Hid (ms.all (fun x => inR 0 11 x) = (ms.drop j).all (fun x => inR 0 11 x))) (fun i => n - (intOf i).toNat)
    case atStart => exact ⟨0, Nat.zero_le _, rfl, by simp [Hid]⟩
    case round =>
      obtain ⟨j, hj, rfl, hp⟩ := hrel
      by_cases hlt : j < n
      · obtain ⟨b, off, v, rfl, hc, hd, _⟩ := h.step hlt
        by_cases hv : inR 0 11 v = true
        · go_wp2_with (go_at_call 124; refine (within8 _ _ _ _).mono ?_; rintro e w' ⟨rfl, rfl⟩)
          go_round
          case rel => exact ⟨j + 1, by omega, by go_num, by unfold Hid; rw [hp.out, hd.out]; simp [hv]⟩
          case measure => simp [intOf] <;> omega
        · have hv' : inR 0 11 v = false := by simpa using hv
          go_wp2_with (go_at_call 124; refine (within8 _ _ _ _).mono ?_; rintro e w' ⟨rfl, rfl⟩)
          go_ret
          exact ⟨ret_b (by unfold fineS; rw [if_pos rfl, hp.out, hd.out]; simp [hv']), (Below.refl _ _).alloc (Nat.le_refl _) _⟩
      · have hd := hide (h.done hlt)
        by_cases hz : (n : Int) = cs
        · have hz' : ((n : Int) == cs) = true := by simpa using hz
          go_wp2
          go_ret
          exact ⟨ret_b (by unfold fineS; rw [if_pos rfl, hp.out, hd.out]; simp [hl, hz]), (Below.refl _ _).alloc (Nat.le_refl _) _⟩
        · have hz' : ((n : Int) == cs) = false := by simpa using hz
          go_wp2
          go_ret
          exact ⟨ret_b (by unfold fineS; rw [if_pos rfl, hp.out, hd.out]; simp [hl, hz]), (Below.refl _ _).alloc (Nat.le_refl _) _⟩
  · by_cases h2 : k = 2
    · subst h2
      go_enter Tryz.func108, Tryz.ntmps108
      go_wp2
      go_loop [13] (fun i => ∃ j : Nat, j ≤ n ∧ i = .int .i64 j ∧ Hid (ms.all (fun x => inR 0 cs x) = (ms.drop j).all (fun x => inR 0 cs x))) (fun i => n - (intOf i).toNat)
      case atStart => exact ⟨0, Nat.zero_le _, rfl, by simp [Hid]⟩
      obtain ⟨j, hj, rfl, hp⟩ := hrel
      by_cases hlt : j < n
      · obtain ⟨b, off, v, rfl, hc, hd, _⟩ := h.step hlt
        by_cases hv : inR 0 cs v = true
        · go_wp2_with (go_at_call 124; refine (within8 _ _ _ _).mono ?_; rintro e w' ⟨rfl, rfl⟩)
          go_round
          case rel => exact ⟨j + 1, by omega, by go_num, by unfold Hid; rw [hp.out, hd.out]; simp [hv]⟩
          case measure => simp [intOf] <;> omega
        · have hv' : inR 0 cs v = false := by simpa using hv
          go_wp2_with (go_at_call 124; refine (within8 _ _ _ _).mono ?_; rintro e w' ⟨rfl, rfl⟩)
          go_ret
          exact ⟨ret_b (by rw [fineS_2]; try (rw [hp.out, hd.out]; simp [hv'])), (Below.refl _ _).alloc (Nat.le_refl _) _⟩
      have hall : Hid (ms.all (fun x => inR 0 cs x) = true) := by unfold Hid; rw [hp.out, h.done hlt]; rfl
      obtain rfl : j = n := by omega
      clear hp hlt hj
      by_cases hso : sortedB ms = true
      · have Hso := hide hso
        clear hso
        go_wp2_with (go_at_call 136; refine (isSorted_any _ _ _ ms _ (h.below ((Below.refl _ _).alloc (Nat.le_refl _) _))).mono ?_; rintro e w1 ⟨he, hb1⟩; rw [Hso.out] at he; subst he; have hc1 := keepc hb1)
        have hz : w.heap.size ≤ w1.heap.size := by have := hb1.size; simp at this; omega
        go_loopw [57] (fun i wr => ∃ (t : Nat) (C : Array Value), t ≤ j ∧ i = .int .i64 t ∧ Has wr (w1.heap.size) 162 C ∧ Seen C (ms.take t) ∧ Hid ((ms.take t).Nodup) ∧ Below w.heap.size w wr) (fun i _ => j - (intOf i).toNat)
        case atStart => exact ⟨0, _, Nat.zero_le _, rfl, Has.new _ _ _, by simpa using Seen_new, by simp [Hid], (((Below.refl _ _).alloc (Nat.le_refl _) _).trans (hb1.mono (by simp))).alloc (by have := hb1.size; simp at this; omega) _⟩
        case round =>
          obtain ⟨t, C, ht, rfl, hC, hS, hno, hb⟩ := hrel
          by_cases hlt : t < j
          · obtain ⟨b, off, v, rfl, hc, hd, hat, _⟩ := (h.below hb).step hlt
            have hv := inR_iff.1 (List.all_eq_true.1 hall.out v (List.mem_of_getElem? hat.out))
            have v0 : 0 ≤ v := hv.1
            have v1 : v < 10 := by omega
            have hfr := hC.free v.toNat
            have hcell := (hC.cell v.toNat).trans (hS.2 v.toNat (by omega))
            rw [Int.toNat_of_nonneg v0] at hcell
            by_cases hm : v ∈ ms.take t
            · have hm' := hide hm
              simp only [hm, decide_true] at hcell
              clear hm
              go_wp2
              go_ret
              refine ⟨ret_b ?_, hb⟩
              have : nodupB ms = false := decide_eq_false fun hh => ((nodup_take_succ hat.out).1 (nodup_take hh _)).2 hm'.out
              rw [fineS_2]; simp [this]
            · have hm' := hide hm
              simp only [hm, decide_false] at hcell
              clear hm
              go_wp2
              go_roundw
              case rel =>
                refine ⟨t + 1, _, by omega, by go_num, hC.put _ _, ?_, (nodup_take_succ hat.out).2 ⟨hno.out, hm'.out⟩, hb.setCell (by show w.heap.size ≤ w1.heap.size; omega) _⟩
                rw [List.take_add_one, hat.out]
                exact hS.put v0
              case measure => simp [intOf] <;> omega
          · obtain rfl : t = j := by omega
            go_wp2
            go_ret
            refine ⟨ret_b ?_, hb⟩
            have hno' := hno.out
            rw [List.take_of_length_le (by omega)] at hno'
            rw [fineS_2]; simp [hall.out, nodupB, hno', Hso.out]
      · have hso' : sortedB ms = false := by simpa using hso
        go_wp2_with (go_at_call 136; refine (isSorted_any _ _ _ ms _ (h.below ((Below.refl _ _).alloc (Nat.le_refl _) _))).mono ?_; rintro e w1 ⟨rfl, hb1⟩)
        go_ret
        exact ⟨ret_b (by rw [fineS_2]; simp [hso']), ((Below.refl _ _).alloc (Nat.le_refl _) _).trans (hb1.mono (by simp))⟩
    · by_cases h1 : k = 1
      · subst h1
        go_enter Tryz.func108, Tryz.ntmps108
        go_wp2
        go_loop [13] (fun i => ∃ j : Nat, j ≤ n ∧ i = .int .i64 j ∧ Hid (ms.all (fun x => inR 0 cs x) = (ms.drop j).all (fun x => inR 0 cs x))) (fun i => n - (intOf i).toNat)
        case atStart => exact ⟨0, Nat.zero_le _, rfl, by simp [Hid]⟩
        obtain ⟨j, hj, rfl, hp⟩ := hrel
        by_cases hlt : j < n
        · obtain ⟨b, off, v, rfl, hc, hd, _⟩ := h.step hlt
          by_cases hv : inR 0 cs v = true
          · go_wp2_with (go_at_call 124; refine (within8 _ _ _ _).mono ?_; rintro e w' ⟨rfl, rfl⟩)
            go_round
            case rel => exact ⟨j + 1, by omega, by go_num, by unfold Hid; rw [hp.out, hd.out]; simp [hv]⟩
            case measure => simp [intOf] <;> omega
          · have hv' : inR 0 cs v = false := by simpa using hv
            go_wp2_with (go_at_call 124; refine (within8 _ _ _ _).mono ?_; rintro e w' ⟨rfl, rfl⟩)
            go_ret
            exact ⟨ret_b (by rw [fineS_1]; try (rw [hp.out, hd.out]; simp [hv'])), (Below.refl _ _).alloc (Nat.le_refl _) _⟩
        have hall : Hid (ms.all (fun x => inR 0 cs x) = true) := by unfold Hid; rw [hp.out, h.done hlt]; rfl
        obtain rfl : j = n := by omega
        clear hp hlt hj
        go_wp2
        go_loopw [57] (fun i wr => ∃ (t : Nat) (C : Array Value), t ≤ j ∧ i = .int .i64 t ∧ Has wr (w.heap.size + 1) 162 C ∧ Seen C (ms.take t) ∧ Hid ((ms.take t).Nodup) ∧ Below w.heap.size w wr) (fun i _ => j - (intOf i).toNat)
        case atStart => exact ⟨0, _, Nat.zero_le _, rfl, Has.new2 _ _ _ _, by simpa using Seen_new, by simp [Hid], ((Below.refl _ _).alloc (Nat.le_refl _) _).alloc (by simp) _⟩
        case round =>
          obtain ⟨t, C, ht, rfl, hC, hS, hno, hb⟩ := hrel
          by_cases hlt : t < j
          · obtain ⟨b, off, v, rfl, hc, hd, hat, _⟩ := (h.below hb).step hlt
            have hv := inR_iff.1 (List.all_eq_true.1 hall.out v (List.mem_of_getElem? hat.out))
            have v0 : 0 ≤ v := hv.1
            have v1 : v < 10 := by omega
            have hfr := hC.free v.toNat
            have hcell := (hC.cell v.toNat).trans (hS.2 v.toNat (by omega))
            rw [Int.toNat_of_nonneg v0] at hcell
            by_cases hm : v ∈ ms.take t
            · have hm' := hide hm
              simp only [hm, decide_true] at hcell
              clear hm
              go_wp2
              go_ret
              refine ⟨ret_b ?_, hb⟩
              have : nodupB ms = false := decide_eq_false fun hh => ((nodup_take_succ hat.out).1 (nodup_take hh _)).2 hm'.out
              rw [fineS_1]; simp [this]
            · have hm' := hide hm
              simp only [hm, decide_false] at hcell
              clear hm
              go_wp2
              go_roundw
              case rel =>
                refine ⟨t + 1, _, by omega, by go_num, hC.put _ _, ?_, (nodup_take_succ hat.out).2 ⟨hno.out, hm'.out⟩, hb.setCell (by show w.heap.size ≤ w.heap.size + 1; omega) _⟩
                rw [List.take_add_one, hat.out]
                exact hS.put v0
              case measure => simp [intOf] <;> omega
          · obtain rfl : t = j := by omega
            go_wp2
            go_ret
            refine ⟨ret_b ?_, hb⟩
            have hno' := hno.out
            rw [List.take_of_length_le (by omega)] at hno'
            rw [fineS_1]; simp [hall.out, nodupB, hno']
      · have hf : Hid (fineS k ms cs = false) := by simp [Hid, fineS, h1, h2, h3]
        have k1 : (k == 1) = false := by simpa using h1
        have k2 : (k == 2) = false := by simpa using h2
        have k3 : (k == 3) = false := by simpa using h3
        have k4 : (k != 3) = true := by simpa using h3
        go_enter Tryz.func108, Tryz.ntmps108
        go_wp2
        go_loop [13] (fun i => ∃ j : Nat, j ≤ n ∧ i = .int .i64 j ∧ Hid (ms.all (fun x => inR 0 cs x) = (ms.drop j).all (fun x => inR 0 cs x))) (fun i => n - (intOf i).toNat)
        case atStart => exact ⟨0, Nat.zero_le _, rfl, by simp [Hid]⟩
        obtain ⟨j, hj, rfl, hp⟩ := hrel
        by_cases hlt : j < n
        · obtain ⟨b, off, v, rfl, hc, hd, _⟩ := h.step hlt
          by_cases hv : inR 0 cs v = true
          · go_wp2_with (go_at_call 124; refine (within8 _ _ _ _).mono ?_; rintro e w' ⟨rfl, rfl⟩)
            go_round
            case rel => exact ⟨j + 1, by omega, by go_num, by unfold Hid; rw [hp.out, hd.out]; simp [hv]⟩
            case measure => simp [intOf] <;> omega
          · have hv' : inR 0 cs v = false := by simpa using hv
            go_wp2_with (go_at_call 124; refine (within8 _ _ _ _).mono ?_; rintro e w' ⟨rfl, rfl⟩)
            go_ret
            exact ⟨ret_b (by rw [hf.out]; try (rw [hp.out, hd.out]; simp [hv'])), (Below.refl _ _).alloc (Nat.le_refl _) _⟩
        have hall : Hid (ms.all (fun x => inR 0 cs x) = true) := by unfold Hid; rw [hp.out, h.done hlt]; rfl
        obtain rfl : j = n := by omega
        clear hp hlt hj
        go_wp2
        go_ret
        exact ⟨ret_b (by rw [hf.out]), (Below.refl _ _).alloc (Nat.le_refl _) _⟩

theorem bcheck_any (k : Int) (A : Option Addr) (n c : Nat) (ms : List Int) (cs : Int) (w : World) (h : RInts w A n c ms) :
    Calls Tryz.prog 97 #[.agg #[.int .u8 k, .slice A n c], .int .i64 cs] w fun e w' => e = .returned (.int .i64 (bcheckS k ms cs)) ∧ Below w.heap.size w w' := by
  have hb0 := (Below.refl w.heap.size w).alloc (Nat.le_refl _) (.cells #[.int .u8 k, .slice A n c] 103)
  by_cases hc : inR 1 11 cs = true
  · have hc' := inR_iff.1 hc
    have Hc := hide hc
    clear hc
    by_cases hf : fineS k ms cs = true
    · have Hf := hide hf
      clear hf
      go_enter Tryz.func97, Tryz.ntmps97
      go_wp2_with (first
        | (go_at_call 124; refine (within8 _ _ _ _).mono ?_; rintro e w' ⟨he, rfl⟩; rw [Hc.out] at he; subst he)
        | (go_at_call 108; refine (fine_any _ _ _ _ ms _ _ (h.below hb0) (by omega)).mono ?_; rintro e w1 ⟨he, hb1⟩; rw [Hf.out] at he; subst he))
      go_ret
      exact ⟨ret_i (by rw [bcheckS, if_neg (by omega), if_pos Hf.out]), hb0.trans (hb1.mono (by simp))⟩
    · have hf' : fineS k ms cs = false := by simpa using hf
      have Hf := hide hf'
      clear hf hf'
      go_enter Tryz.func97, Tryz.ntmps97
      go_wp2_with (first
        | (go_at_call 124; refine (within8 _ _ _ _).mono ?_; rintro e w' ⟨he, rfl⟩; rw [Hc.out] at he; subst he)
        | (go_at_call 108; refine (fine_any _ _ _ _ ms _ _ (h.below hb0) (by omega)).mono ?_; rintro e w1 ⟨he, hb1⟩; rw [Hf.out] at he; subst he))
      go_ret
      exact ⟨ret_i (by rw [bcheckS, if_neg (by omega), if_neg (by rw [Hf.out]; simp)]), hb0.trans (hb1.mono (by simp))⟩
  · have hc' : inR 1 11 cs = false := by simpa using hc
    have hc2 : ¬ (1 ≤ cs ∧ cs < 11) := fun hh => hc (inR_iff.2 hh)
    have Hc := hide hc'
    have Hc2 := hide hc2
    clear hc hc' hc2
    go_enter Tryz.func97, Tryz.ntmps97
    go_wp2_with (go_at_call 124; refine (within8 _ _ _ _).mono ?_; rintro e w' ⟨he, rfl⟩; rw [Hc.out] at he; subst he)
    go_ret
    exact ⟨ret_i (by have := Hc2.out; rw [bcheckS, if_pos (by omega)]), hb0⟩
end Go.Proofs.YtolbceckbnifmaaGreat

namespace Go.Proofs.YtolbceckbnifmaaGreat
open Go.RowKit Go.Proofs
attribute [local go_sem] cell?_more cell?_alloc_some

theorem all_take_succ {p : Int → Bool} {xs : List Int} {k : Nat} {v : Int} (h : xs[k]? = some v) : (xs.take (k + 1)).all p = ((xs.take k).all p && p v) := by
  rw [List.take_add_one, h]; simp

theorem all_take {p : Int → Bool} {xs : List Int} (h : xs.all p = true) (k : Nat) : (xs.take k).all p = true := by
  rw [List.all_eq_true] at *
  exact fun x hx => h x (List.mem_of_mem_take hx)

theorem sortedB_take {xs : List Int} (h : sortedB xs = true) (k : Nat) : sortedB (xs.take k) = true := by
  induction xs generalizing k with
  | nil => simp [sortedB]
  | cons a r ih =>
    cases k with
    | zero => simp [sortedB]
    | succ k =>
      cases r with
      | nil => simp [sortedB]
      | cons b s =>
        simp only [sortedB, Bool.and_eq_true, decide_eq_true_eq] at h
        have := ih h.2 k
        cases k with
        | zero => simp [sortedB]
        | succ k => simp only [List.take_succ_cons, sortedB, Bool.and_eq_true, decide_eq_true_eq] at *; exact ⟨h.1, this⟩

theorem first_one {xs : List Int} {t : Nat} {v : Int} (h0 : ¬ 0 < t) (h : xs[t]? = some v) : Hid (sortedB (xs.take (t + 1)) = true) := by
  obtain rfl : t = 0 := by omega
  unfold Hid
  rw [List.take_add_one, h]
  simp [sortedB]

set_option maxHeartbeats 400000 in
theorem rfine_any (k : Int) (A : Option Addr) (n c : Nat) (ms : List Int) (cs : Int) (w : World) (h : RInts w A n c ms) :
    Calls Tryz.prog 144 #[.agg #[.int .u8 k, .slice A n c], .int .i64 cs] w fun e w' => e = .returned (.bool (fineS k ms cs)) ∧ Below w.heap.size w w' := by
  have hn := h.le
  have hl := h.len
  have hb0 := (Below.refl w.heap.size w).alloc (Nat.le_refl _) (.cells #[.int .u8 k, .slice A n c] 103)
  by_cases h3 : k = 3
  · subst h3
    go_enter Tryz.func144, Tryz.ntmps144
    go_wp2
    go_loop [6] (fun i => ∃ j : Nat, j ≤ n ∧ i = .int .i64 j ∧ Hid (ms.all (fun x => inR 0 11 x) = (ms.drop j).all (fun x => inR 0 11 x))) (fun i => n - (intOf i).toNat)
    case atStart => exact ⟨0, Nat.zero_le _, rfl, by simp [Hid]⟩
    case round =>
      obtain ⟨j, hj, rfl, hp⟩ := hrel
      by_cases hlt : j < n
      · obtain ⟨b, off, v, rfl, hc, hd, _⟩ := h.step hlt
        by_cases hv : v < 0
        · go_wp2
          go_ret
          exact ⟨ret_b (by unfold fineS; rw [if_pos rfl, hp.out, hd.out]; simp [inR]; omega), hb0⟩
        · by_cases hv2 : 10 < v
          · go_wp2
            go_ret
            exact ⟨ret_b (by unfold fineS; rw [if_pos rfl, hp.out, hd.out]; simp [inR]; omega), hb0⟩
          · go_wp2
            go_round
            case rel => exact ⟨j + 1, by omega, by go_num, by unfold Hid; rw [hp.out, hd.out]; simp [inR] <;> omega⟩
            case measure => simp [intOf] <;> omega
      · have hd := hide (h.done hlt)
        by_cases hz : (n : Int) = cs
        · have hz' : ((n : Int) == cs) = true := by simpa using hz
          go_wp2
          go_ret
          exact ⟨ret_b (by unfold fineS; rw [if_pos rfl, hp.out, hd.out]; simp [hl, hz]), hb0⟩
        · have hz' : ((n : Int) == cs) = false := by simpa using hz
          go_wp2
          go_ret
          exact ⟨ret_b (by unfold fineS; rw [if_pos rfl, hp.out, hd.out]; simp [hl, hz]), hb0⟩
  · by_cases h12 : k = 1 ∨ k = 2
    · rcases h12 with rfl | rfl
      · go_enter Tryz.func144, Tryz.ntmps144
        go_wp2
        go_loopw [7] (fun i wr => ∃ t : Nat, t ≤ n ∧ i = .int .i64 t ∧ Hid ((ms.take t).all (fun x => inR 0 cs x) = true) ∧ Hid (True) ∧ Hid ((ms.take t).Nodup) ∧ Below w.heap.size w wr ∧ Has wr w.heap.size 103 #[.int .u8 1, .slice A n c]) (fun i _ => n - (intOf i).toNat)
        case atStart => exact ⟨0, Nat.zero_le _, rfl, by simp [Hid], trivial, by simp [Hid], hb0, Has.new _ _ _⟩
        case round =>
          obtain ⟨t, ht, rfl, hal, hso, hno, hb, hB⟩ := hrel
          have hk0 := hB.cell 0
          have hk1 := hB.cell 1
          by_cases hlt : t < n
          · have hr := h.below hb
            obtain ⟨b, off, v, rfl, hc, hd, hat, _⟩ := hr.step hlt
            have hr' := hr.take (k := t) (by omega)
            by_cases hv : v < 0
            · go_wp2
              go_ret
              refine ⟨ret_b ?_, hb⟩
              have : ms.all (fun x => inR 0 cs x) = false := by
                rw [← Bool.not_eq_true]; intro hh
                have := inR_iff.1 (List.all_eq_true.1 hh v (List.mem_of_getElem? hat.out)); omega
              rw [fineS_1, this]; rfl
            · by_cases hv2 : cs ≤ v
              · go_wp2
                go_ret
                refine ⟨ret_b ?_, hb⟩
                have : ms.all (fun x => inR 0 cs x) = false := by
                  rw [← Bool.not_eq_true]; intro hh
                  have := inR_iff.1 (List.all_eq_true.1 hh v (List.mem_of_getElem? hat.out)); omega
                rw [fineS_1, this]; rfl
              · have b1 : (0 : Int) ≤ (t : Int) := by omega
                have b2 : (t : Int) < (n : Int) := by omega
                have b3 : (t : Int) ≤ (c : Int) := by have := h.2.1; omega
                have hin : inR 0 cs v = true := inR_iff.2 (by omega)
                have Hin := hide hin
                clear hin
                by_cases ht0 : 0 < t
                · have g1 : decide (0 < (t : Int)) = true := by simp; omega
                  go_wp2
                  refine wp_region_more (by kernel_rfl) (by kernel_rfl) ?_
                  repeat (go_big_quiet_step (fail))
                  refine wpQuiet_nil ?_
                  rintro w1 ⟨qw1, hww1⟩
                  have hbw1 := below_of_eq hww1
                  clear hww1 qw1
                  have hc1 := keep_cell hbw1 hc
                  have hr1 := hr'.below hbw1
                  have hbA := Below_trans' hb hb.size hbw1
                  by_cases hm : v ∈ ms.take t
                  · have hp : (0 : Int) ≤ placeS (ms.take t) v 0 := placeS_nn hm
                    have hm' := hide hm
                    clear hm
                    go_wp2
                    refine wp_region_more (by kernel_rfl) (by kernel_rfl) ?_
                    repeat (go_big_quiet_step ((go_at_call 106; exact more_same (place_any _ _ _ (ms.take t) _ _ (hr1.more _)))))
                    refine wpQuiet_nil ?_
                    rintro w2 ⟨qw2, hww2⟩
                    have hbw2 := below_of_eq hww2
                    clear hww2 qw2
                    go_wp2
                    go_ret
                    refine ⟨ret_b ?_, Below_trans' hbA hbA.size hbw2⟩
                    have : nodupB ms = false := decide_eq_false fun hh => ((nodup_take_succ hat.out).1 (nodup_take hh _)).2 hm'.out
                    rw [fineS_1, this]; simp
                  · have hp : placeS (ms.take t) v 0 < 0 := (placeS_neg (Int.le_refl 0)).2 hm
                    have hm' := hide hm
                    clear hm
                    go_wp2
                    refine wp_region_more (by kernel_rfl) (by kernel_rfl) ?_
                    repeat (go_big_quiet_step ((go_at_call 106; exact more_same (place_any _ _ _ (ms.take t) _ _ (hr1.more _)))))
                    refine wpQuiet_nil ?_
                    rintro w2 ⟨qw2, hww2⟩
                    have hbw2 := below_of_eq hww2
                    clear hww2 qw2
                    go_wp2
                    go_roundw
                    case rel =>
                      refine ⟨_, ?_, by go_num, ?_, trivial, (nodup_take_succ hat.out).2 ⟨hno.out, hm'.out⟩, Below_trans' hbA hbA.size hbw2, (hB.below hbw1 hB.lt).below hbw2 (hB.below hbw1 hB.lt).lt⟩
                      · omega
                      · unfold Hid; rw [all_take_succ hat.out, hal.out, Hin.out]; rfl
                    case measure => simp [intOf] <;> omega
                · have g1 : decide (0 < (t : Int)) = false := by simp; omega
                  go_wp2
                  refine wp_region_more (by kernel_rfl) (by kernel_rfl) ?_
                  repeat (go_big_quiet_step (fail))
                  refine wpQuiet_nil ?_
                  rintro w1 ⟨qw1, hww1⟩
                  have hbw1 := below_of_eq hww1
                  clear hww1 qw1
                  have hc1 := keep_cell hbw1 hc
                  have hr1 := hr'.below hbw1
                  have hbA := Below_trans' hb hb.size hbw1
                  by_cases hm : v ∈ ms.take t
                  · have hp : (0 : Int) ≤ placeS (ms.take t) v 0 := placeS_nn hm
                    have hm' := hide hm
                    clear hm
                    go_wp2
                    refine wp_region_more (by kernel_rfl) (by kernel_rfl) ?_
                    repeat (go_big_quiet_step ((go_at_call 106; exact more_same (place_any _ _ _ (ms.take t) _ _ (hr1.more _)))))
                    refine wpQuiet_nil ?_
                    rintro w2 ⟨qw2, hww2⟩
                    have hbw2 := below_of_eq hww2
                    clear hww2 qw2
                    go_wp2
                    go_ret
                    refine ⟨ret_b ?_, Below_trans' hbA hbA.size hbw2⟩
                    have : nodupB ms = false := decide_eq_false fun hh => ((nodup_take_succ hat.out).1 (nodup_take hh _)).2 hm'.out
                    rw [fineS_1, this]; simp
                  · have hp : placeS (ms.take t) v 0 < 0 := (placeS_neg (Int.le_refl 0)).2 hm
                    have hm' := hide hm
                    clear hm
                    go_wp2
                    refine wp_region_more (by kernel_rfl) (by kernel_rfl) ?_
                    repeat (go_big_quiet_step ((go_at_call 106; exact more_same (place_any _ _ _ (ms.take t) _ _ (hr1.more _)))))
                    refine wpQuiet_nil ?_
                    rintro w2 ⟨qw2, hww2⟩
                    have hbw2 := below_of_eq hww2
                    clear hww2 qw2
                    go_wp2
                    go_roundw
                    case rel =>
                      refine ⟨_, ?_, by go_num, ?_, trivial, (nodup_take_succ hat.out).2 ⟨hno.out, hm'.out⟩, Below_trans' hbA hbA.size hbw2, (hB.below hbw1 hB.lt).below hbw2 (hB.below hbw1 hB.lt).lt⟩
                      · omega
                      · unfold Hid; rw [all_take_succ hat.out, hal.out, Hin.out]; rfl
                    case measure => simp [intOf] <;> omega
          · obtain rfl : t = n := by omega
            go_wp2
            go_ret
            refine ⟨ret_b ?_, hb⟩
            have hno' := hno.out
            have hal' := hal.out
            have hso' := hso.out
            rw [List.take_of_length_le (by omega)] at hno' hal'
            try rw [List.take_of_length_le (by omega)] at hso'
            rw [fineS_1]; simp [hal', nodupB, hno']
      · go_enter Tryz.func144, Tryz.ntmps144
        go_wp2
        go_loopw [7] (fun i wr => ∃ t : Nat, t ≤ n ∧ i = .int .i64 t ∧ Hid ((ms.take t).all (fun x => inR 0 cs x) = true) ∧ Hid (sortedB (ms.take t) = true) ∧ Hid ((ms.take t).Nodup) ∧ Below w.heap.size w wr ∧ Has wr w.heap.size 103 #[.int .u8 2, .slice A n c]) (fun i _ => n - (intOf i).toNat)
        case atStart => exact ⟨0, Nat.zero_le _, rfl, by simp [Hid], by simp [Hid, sortedB], by simp [Hid], hb0, Has.new _ _ _⟩
        case round =>
          obtain ⟨t, ht, rfl, hal, hso, hno, hb, hB⟩ := hrel
          have hk0 := hB.cell 0
          have hk1 := hB.cell 1
          by_cases hlt : t < n
          · have hr := h.below hb
            obtain ⟨b, off, v, rfl, hc, hd, hat, _⟩ := hr.step hlt
            have hr' := hr.take (k := t) (by omega)
            by_cases hv : v < 0
            · go_wp2
              go_ret
              refine ⟨ret_b ?_, hb⟩
              have : ms.all (fun x => inR 0 cs x) = false := by
                rw [← Bool.not_eq_true]; intro hh
                have := inR_iff.1 (List.all_eq_true.1 hh v (List.mem_of_getElem? hat.out)); omega
              rw [fineS_2, this]; rfl
            · by_cases hv2 : cs ≤ v
              · go_wp2
                go_ret
                refine ⟨ret_b ?_, hb⟩
                have : ms.all (fun x => inR 0 cs x) = false := by
                  rw [← Bool.not_eq_true]; intro hh
                  have := inR_iff.1 (List.all_eq_true.1 hh v (List.mem_of_getElem? hat.out)); omega
                rw [fineS_2, this]; rfl
              · have b1 : (0 : Int) ≤ (t : Int) := by omega
                have b2 : (t : Int) < (n : Int) := by omega
                have b3 : (t : Int) ≤ (c : Int) := by have := h.2.1; omega
                have hin : inR 0 cs v = true := inR_iff.2 (by omega)
                have Hin := hide hin
                clear hin
                by_cases ht0 : 0 < t
                · have g1 : decide (0 < (t : Int)) = true := by simp; omega
                  obtain ⟨m, rfl⟩ : ∃ m : Nat, t = m + 1 := ⟨t - 1, by omega⟩
                  obtain ⟨b', off', u, e, hc', hd', hu, _⟩ := hr.step (k := m) (by omega)
                  cases e
                  have b4 : (0 : Int) ≤ (m : Int) := by omega
                  have b5 : (m : Int) < (n : Int) := by omega
                  have e1 : IntKind.i64.wrap (m : Int) = m := IntWalk.i64_in _ (by omega)
                  have hs := hide (sorted_take ms m u v hu.out hat.out)
                  by_cases hvu : v ≤ u
                  · go_wp2
                    refine wp_region_more (by kernel_rfl) (by kernel_rfl) ?_
                    repeat (go_big_quiet_step (fail))
                    refine wpQuiet_nil ?_
                    rintro w1 ⟨qw1, hww1⟩
                    have hbw1 := below_of_eq hww1
                    clear hww1 qw1
                    go_wp2
                    go_ret
                    refine ⟨ret_b ?_, Below_trans' hb hb.size hbw1⟩
                    by_cases hvu2 : v = u
                    · have : nodupB ms = false := decide_eq_false fun hh => ((nodup_take_succ hat.out).1 (nodup_take hh _)).2 (by
                        rw [hvu2]; exact mem_take_of hu.out (by omega))
                      rw [fineS_2, this]; simp
                    · have : sortedB ms = false := by
                        rw [← Bool.not_eq_true]; intro hh
                        have h2 := sortedB_take hh (m + 2)
                        rw [hs.out] at h2
                        simp at h2; omega
                      rw [fineS_2, this]; simp
                  · go_wp2
                    refine wp_region_more (by kernel_rfl) (by kernel_rfl) ?_
                    repeat (go_big_quiet_step (fail))
                    refine wpQuiet_nil ?_
                    rintro w1 ⟨qw1, hww1⟩
                    have hbw1 := below_of_eq hww1
                    clear hww1 qw1
                    have hc1 := keep_cell hbw1 hc
                    have hr1 := hr'.below hbw1
                    have hbA := Below_trans' hb hb.size hbw1
                    by_cases hm : v ∈ ms.take (m + 1)
                    · have hp : (0 : Int) ≤ placeS (ms.take (m + 1)) v 0 := placeS_nn hm
                      have hm' := hide hm
                      clear hm
                      go_wp2
                      refine wp_region_more (by kernel_rfl) (by kernel_rfl) ?_
                      repeat (go_big_quiet_step ((go_at_call 106; exact more_same (place_any _ _ _ (ms.take (m + 1)) _ _ (hr1.more _)))))
                      refine wpQuiet_nil ?_
                      rintro w2 ⟨qw2, hww2⟩
                      have hbw2 := below_of_eq hww2
                      clear hww2 qw2
                      go_wp2
                      go_ret
                      refine ⟨ret_b ?_, Below_trans' hbA hbA.size hbw2⟩
                      have : nodupB ms = false := decide_eq_false fun hh => ((nodup_take_succ hat.out).1 (nodup_take hh _)).2 hm'.out
                      rw [fineS_2, this]; simp
                    · have hp : placeS (ms.take (m + 1)) v 0 < 0 := (placeS_neg (Int.le_refl 0)).2 hm
                      have hm' := hide hm
                      clear hm
                      go_wp2
                      refine wp_region_more (by kernel_rfl) (by kernel_rfl) ?_
                      repeat (go_big_quiet_step ((go_at_call 106; exact more_same (place_any _ _ _ (ms.take (m + 1)) _ _ (hr1.more _)))))
                      refine wpQuiet_nil ?_
                      rintro w2 ⟨qw2, hww2⟩
                      have hbw2 := below_of_eq hww2
                      clear hww2 qw2
                      go_wp2
                      go_roundw
                      case rel =>
                        refine ⟨_, ?_, by go_num, ?_, by unfold Hid; rw [hs.out, hso.out]; simp; omega, (nodup_take_succ hat.out).2 ⟨hno.out, hm'.out⟩, Below_trans' hbA hbA.size hbw2, (hB.below hbw1 hB.lt).below hbw2 (hB.below hbw1 hB.lt).lt⟩
                        · omega
                        · unfold Hid; rw [all_take_succ hat.out, hal.out, Hin.out]; rfl
                      case measure => simp [intOf] <;> omega
                · have g1 : decide (0 < (t : Int)) = false := by simp; omega
                  go_wp2
                  refine wp_region_more (by kernel_rfl) (by kernel_rfl) ?_
                  repeat (go_big_quiet_step (fail))
                  refine wpQuiet_nil ?_
                  rintro w1 ⟨qw1, hww1⟩
                  have hbw1 := below_of_eq hww1
                  clear hww1 qw1
                  have hc1 := keep_cell hbw1 hc
                  have hr1 := hr'.below hbw1
                  have hbA := Below_trans' hb hb.size hbw1
                  by_cases hm : v ∈ ms.take t
                  · have hp : (0 : Int) ≤ placeS (ms.take t) v 0 := placeS_nn hm
                    have hm' := hide hm
                    clear hm
                    go_wp2
                    refine wp_region_more (by kernel_rfl) (by kernel_rfl) ?_
                    repeat (go_big_quiet_step ((go_at_call 106; exact more_same (place_any _ _ _ (ms.take t) _ _ (hr1.more _)))))
                    refine wpQuiet_nil ?_
                    rintro w2 ⟨qw2, hww2⟩
                    have hbw2 := below_of_eq hww2
                    clear hww2 qw2
                    go_wp2
                    go_ret
                    refine ⟨ret_b ?_, Below_trans' hbA hbA.size hbw2⟩
                    have : nodupB ms = false := decide_eq_false fun hh => ((nodup_take_succ hat.out).1 (nodup_take hh _)).2 hm'.out
                    rw [fineS_2, this]; simp
                  · have hp : placeS (ms.take t) v 0 < 0 := (placeS_neg (Int.le_refl 0)).2 hm
                    have hm' := hide hm
                    clear hm
                    go_wp2
                    refine wp_region_more (by kernel_rfl) (by kernel_rfl) ?_
                    repeat (go_big_quiet_step ((go_at_call 106; exact more_same (place_any _ _ _ (ms.take t) _ _ (hr1.more _)))))
                    refine wpQuiet_nil ?_
                    rintro w2 ⟨qw2, hww2⟩
                    have hbw2 := below_of_eq hww2
                    clear hww2 qw2
                    go_wp2
                    go_roundw
                    case rel =>
                      refine ⟨_, ?_, by go_num, ?_, first_one ht0 hat.out, (nodup_take_succ hat.out).2 ⟨hno.out, hm'.out⟩, Below_trans' hbA hbA.size hbw2, (hB.below hbw1 hB.lt).below hbw2 (hB.below hbw1 hB.lt).lt⟩
                      · omega
                      · unfold Hid; rw [all_take_succ hat.out, hal.out, Hin.out]; rfl
                    case measure => simp [intOf] <;> omega
          · obtain rfl : t = n := by omega
            go_wp2
            go_ret
            refine ⟨ret_b ?_, hb⟩
            have hno' := hno.out
            have hal' := hal.out
            have hso' := hso.out
            rw [List.take_of_length_le (by omega)] at hno' hal'
            try rw [List.take_of_length_le (by omega)] at hso'
            rw [fineS_2]; simp [hal', nodupB, hno', hso']
    · have k1 : (k != 1) = true := by simp; omega
      have k2 : (k != 2) = true := by simp; omega
      have k3 : (k == 3) = false := by simp; omega
      have hf : Hid (fineS k ms cs = false) := by unfold Hid fineS; rw [if_neg (by omega), if_neg (by omega), if_neg (by omega)]
      go_enter Tryz.func144, Tryz.ntmps144
      go_wp2
      go_ret
      exact ⟨ret_b (by rw [hf.out]), hb0⟩
end Go.Proofs.YtolbceckbnifmaaGreat

namespace Go.Proofs.YtolbceckbnifmaaGreat
open Go.RowKit Go.Proofs
attribute [local go_sem] cell?_more cell?_alloc_some

theorem rbcheck_any (k : Int) (A : Option Addr) (n c : Nat) (ms : List Int) (cs : Int) (w : World) (h : RInts w A n c ms) :
    Calls Tryz.prog 121 #[.agg #[.int .u8 k, .slice A n c], .int .i64 cs] w fun e w' => e = .returned (.int .i64 (bcheckS k ms cs)) ∧ Below w.heap.size w w' := by
  have hb0 := (Below.refl w.heap.size w).alloc (Nat.le_refl _) (.cells #[.int .u8 k, .slice A n c] 103)
  by_cases hc : cs < 1
  · go_enter Tryz.func121, Tryz.ntmps121
    go_wp2
    go_ret
    exact ⟨ret_i (by rw [bcheckS, if_pos (by omega)]), hb0⟩
  · by_cases hc2 : 10 < cs
    · go_enter Tryz.func121, Tryz.ntmps121
      go_wp2
      go_ret
      exact ⟨ret_i (by rw [bcheckS, if_pos (by omega)]), hb0⟩
    · by_cases hf : fineS k ms cs = true
      · have Hf := hide hf
        clear hf
        go_enter Tryz.func121, Tryz.ntmps121
        go_wp2_with (go_at_call 144; refine (rfine_any _ _ _ _ ms _ _ (h.below hb0)).mono ?_; rintro e w1 ⟨he, hb1⟩; rw [Hf.out] at he; subst he)
        go_ret
        exact ⟨ret_i (by rw [bcheckS, if_neg (by omega), if_pos Hf.out]), hb0.trans (hb1.mono (by simp))⟩
      · have hf' : fineS k ms cs = false := by simpa using hf
        have Hf := hide hf'
        clear hf hf'
        go_enter Tryz.func121, Tryz.ntmps121
        go_wp2_with (go_at_call 144; refine (rfine_any _ _ _ _ ms _ _ (h.below hb0)).mono ?_; rintro e w1 ⟨he, hb1⟩; rw [Hf.out] at he; subst he)
        go_ret
        exact ⟨ret_i (by rw [bcheckS, if_neg (by omega), if_neg (by rw [Hf.out]; simp)]), hb0.trans (hb1.mono (by simp))⟩

theorem ints_any (A A' : Option Addr) (n c n' c' : Nat) (xs ys : List Int) (w : World) (h : RInts w A n c xs) (h' : RInts w A' n' c' ys) :
    Calls Tryz.prog 21 #[.slice A n c, .slice A' n' c'] w fun e w' => e = .returned (.bool (xs == ys)) ∧ Below w.heap.size w w' := by
  have hn := h.le
  have hn' := h'.le
  have hl := h.len
  have hl' := h'.len
  by_cases hnn : n = n'
  · subst hnn
    go_enter Tryz.func21, Tryz.ntmps21
    go_wp2
    go_loopw [5] (fun i wr => ∃ k : Nat, k ≤ n ∧ i = .int .i64 k ∧ Hid ((xs == ys) = (xs.drop k == ys.drop k)) ∧ Below w.heap.size w wr) (fun i _ => n - (intOf i).toNat)
    case atStart => exact ⟨0, Nat.zero_le _, rfl, by simp [Hid], Below.refl _ _⟩
    case round =>
      obtain ⟨k, hk, rfl, hp, hb⟩ := hrel
      by_cases hlt : k < n
      · obtain ⟨b, off, v, rfl, hc, hd, _⟩ := (h.below hb).step hlt
        obtain ⟨b', off', u, rfl, hc', hd', _⟩ := (h'.below hb).step hlt
        have b1 : (0 : Int) ≤ (k : Int) := by omega
        have b2 : (k : Int) < (n : Int) := by omega
        by_cases hv : v = u
        · have hz : (v != u) = false := by simp [hv]
          have Hv := hide hv
          clear hv
          go_wp2
          refine wp_region_more (by kernel_rfl) (by kernel_rfl) ?_
          repeat (go_big_quiet_step (fail))
          refine wpQuiet_nil ?_
          rintro w1 ⟨qw1, hww1⟩
          have hbw1 := below_of_eq hww1
          clear hww1 qw1
          go_wp2
          go_roundw
          case rel => exact ⟨k + 1, by omega, by go_num, by unfold Hid; rw [hp.out, hd.out, hd'.out, Hv.out]; simp, Below_trans' hb hb.size hbw1⟩
          case measure => simp [intOf] <;> omega
        · have hz : (v != u) = true := by simp [hv]
          go_wp2
          refine wp_region_more (by kernel_rfl) (by kernel_rfl) ?_
          repeat (go_big_quiet_step (fail))
          refine wpQuiet_nil ?_
          rintro w1 ⟨qw1, hww1⟩
          have hbw1 := below_of_eq hww1
          clear hww1 qw1
          go_wp2
          go_ret
          exact ⟨ret_b (by rw [hp.out, hd.out, hd'.out]; simp [hv]), Below_trans' hb hb.size hbw1⟩
      · have hd := hide (h.done hlt)
        have hd' := hide (h'.done hlt)
        go_wp2
        go_ret
        exact ⟨ret_b (by rw [hp.out, hd.out, hd'.out]; simp), hb⟩
  · have hz : ((n : Int) != (n' : Int)) = true := by simp; omega
    have hne : (xs == ys) = false := by
      rw [← Bool.not_eq_true]; intro hh; rw [beq_iff_eq] at hh; subst hh; omega
    have Hne := hide hne
    clear hne
    go_enter Tryz.func21, Tryz.ntmps21
    go_wp2
    go_ret
    exact ⟨ret_b (by rw [Hne.out]), Below.refl _ _⟩

/-- One list comes before another. -/
def aheadB (xs ys : List Int) : Bool := decide (cmpL xs ys < 0)

theorem ahead_any (A A' : Option Addr) (n c n' c' : Nat) (xs ys : List Int) (w : World) (h : RInts w A n c xs) (h' : RInts w A' n' c' ys) :
    Calls Tryz.prog 122 #[.slice A n c, .slice A' n' c'] w fun e w' => e = .returned (.bool (aheadB xs ys)) ∧ Below w.heap.size w w' := by
  have hn := h.le
  have hn' := h'.le
  go_enter Tryz.func122, Tryz.ntmps122
  go_wp2
  go_loopw [5] (fun i wr => ∃ k : Nat, k ≤ n ∧ k ≤ n' ∧ i = .int .i64 k ∧ Hid (cmpL xs ys = cmpL (xs.drop k) (ys.drop k)) ∧ Below w.heap.size w wr) (fun i _ => n - (intOf i).toNat)
  case atStart => exact ⟨0, Nat.zero_le _, Nat.zero_le _, rfl, by simp [Hid], Below.refl _ _⟩
  case round =>
    obtain ⟨k, hk, hk', rfl, hp, hb⟩ := hrel
    by_cases hlt : k < n
    · obtain ⟨b, off, v, rfl, hc, hd, _⟩ := (h.below hb).step hlt
      by_cases hlt' : k < n'
      · obtain ⟨b', off', u, rfl, hc', hd', _⟩ := (h'.below hb).step hlt'
        have b1 : (0 : Int) ≤ (k : Int) := by omega
        have b2 : (k : Int) < (n : Int) := by omega
        have b3 : (k : Int) < (n' : Int) := by omega
        by_cases hv : v = u
        · have hz : (v != u) = false := by simp [hv]
          have Hv := hide hv
          clear hv
          go_wp2
          refine wp_region_more (by kernel_rfl) (by kernel_rfl) ?_
          repeat (go_big_quiet_step (fail))
          refine wpQuiet_nil ?_
          rintro w1 ⟨qw1, hww1⟩
          have hbw1 := below_of_eq hww1
          clear hww1 qw1
          go_wp2
          go_roundw
          case rel => exact ⟨k + 1, by omega, by omega, by go_num, by unfold Hid; rw [hp.out, hd.out, hd'.out, Hv.out]; simp [cmpL, cmpI], Below_trans' hb hb.size hbw1⟩
          case measure => simp [intOf] <;> omega
        · have hz : (v != u) = true := by simp [hv]
          go_wp2
          refine wp_region_more (by kernel_rfl) (by kernel_rfl) ?_
          repeat (go_big_quiet_step (fail))
          refine wpQuiet_nil ?_
          rintro w1 ⟨qw1, hww1⟩
          have hbw1 := below_of_eq hww1
          clear hww1 qw1
          have hc2 := keep_cell hbw1 hc
          have hc2' := keep_cell hbw1 hc'
          go_wp2
          refine wp_region_more (by kernel_rfl) (by kernel_rfl) ?_
          repeat (go_big_quiet_step (fail))
          refine wpQuiet_nil ?_
          rintro w2 ⟨qw2, hww2⟩
          have hbw2 := below_of_eq hww2
          clear hww2 qw2
          go_wp2
          go_ret
          refine ⟨ret_b ?_, Below_trans' (Below_trans' hb hb.size hbw1) (Below_trans' hb hb.size hbw1).size hbw2⟩
          rw [aheadB, hp.out, hd.out, hd'.out]
          by_cases h1 : v < u
          · simp [cmpL, cmpI, h1]
          · have h2 : u < v := by omega
            simp [cmpL, cmpI, h1, h2]
      · have hd' := hide (h'.done hlt')
        go_wp2
        go_ret
        exact ⟨ret_b (by rw [aheadB, hp.out, hd.out, hd'.out]; simp [cmpL] <;> omega), hb⟩
    · have hd := hide (h.done hlt)
      by_cases hlt' : n < n'
      · obtain ⟨b', off', u, rfl, hc', hd', _⟩ := (h'.below hb).step (k := k) (by omega)
        go_wp2
        go_ret
        exact ⟨ret_b (by rw [aheadB, hp.out, hd.out, hd'.out]; simp [cmpL] <;> omega), hb⟩
      · have hd' := hide (h'.done (k := k) (by omega))
        go_wp2
        go_ret
        exact ⟨ret_b (by rw [aheadB, hp.out, hd.out, hd'.out]; simp [cmpL] <;> omega), hb⟩

theorem prefers_any (k : Int) (A : Option Addr) (n c : Nat) (ms : List Int) (x y : Int) (w : World) (h : RInts w A n c ms) :
    Calls Tryz.prog 67 #[.agg #[.int .u8 k, .slice A n c], .int .i64 x, .int .i64 y] w fun e w' => e = .returned (.bool (prefersS k ms x y)) ∧ Below w.heap.size w w' := by
  have hl := h.len
  have hn := h.le
  have hb0 := (Below.refl w.heap.size w).alloc (Nat.le_refl _) (.cells #[.int .u8 k, .slice A n c] 103)
  by_cases hx : x < 0
  · go_enter Tryz.func67, Tryz.ntmps67
    go_wp2
    go_ret
    exact ⟨ret_b (by rw [prefersS, if_pos (by omega)]), hb0⟩
  by_cases hy : y < 0
  · go_enter Tryz.func67, Tryz.ntmps67
    go_wp2
    go_ret
    exact ⟨ret_b (by rw [prefersS, if_pos (by omega)]), hb0⟩
  by_cases h1 : k = 1
  · subst h1
    by_cases p1 : 0 ≤ placeS ms x 0
    · by_cases p2 : placeS ms y 0 < 0
      · go_enter Tryz.func67, Tryz.ntmps67
        go_wp2
        refine wp_region_more (by kernel_rfl) (by kernel_rfl) ?_
        repeat (go_big_quiet_step ((go_at_call 100; exact more_same (index_any _ _ _ ms _ _ ((h.below hb0).more _)))))
        refine wpQuiet_nil ?_
        rintro w1 ⟨qw1, hww1⟩
        have hbw1 := below_of_eq hww1
        clear hww1 qw1
        have hc1 := keepc hbw1
        go_wp2
        go_ret
        exact ⟨ret_b (by rw [prefersS, if_neg (by omega)]; simp <;> omega), Below_trans' hb0 hb0.size hbw1⟩
      · by_cases p3 : placeS ms x 0 < placeS ms y 0
        · go_enter Tryz.func67, Tryz.ntmps67
          go_wp2
          refine wp_region_more (by kernel_rfl) (by kernel_rfl) ?_
          repeat (go_big_quiet_step ((go_at_call 100; exact more_same (index_any _ _ _ ms _ _ ((h.below hb0).more _)))))
          refine wpQuiet_nil ?_
          rintro w1 ⟨qw1, hww1⟩
          have hbw1 := below_of_eq hww1
          clear hww1 qw1
          have hc1 := keepc hbw1
          go_wp2
          go_ret
          exact ⟨ret_b (by rw [prefersS, if_neg (by omega)]; simp <;> omega), Below_trans' hb0 hb0.size hbw1⟩
        · go_enter Tryz.func67, Tryz.ntmps67
          go_wp2
          refine wp_region_more (by kernel_rfl) (by kernel_rfl) ?_
          repeat (go_big_quiet_step ((go_at_call 100; exact more_same (index_any _ _ _ ms _ _ ((h.below hb0).more _)))))
          refine wpQuiet_nil ?_
          rintro w1 ⟨qw1, hww1⟩
          have hbw1 := below_of_eq hww1
          clear hww1 qw1
          have hc1 := keepc hbw1
          go_wp2
          go_ret
          exact ⟨ret_b (by rw [prefersS, if_neg (by omega)]; simp <;> omega), Below_trans' hb0 hb0.size hbw1⟩
    · go_enter Tryz.func67, Tryz.ntmps67
      go_wp2
      refine wp_region_more (by kernel_rfl) (by kernel_rfl) ?_
      repeat (go_big_quiet_step ((go_at_call 100; exact more_same (index_any _ _ _ ms _ _ ((h.below hb0).more _)))))
      refine wpQuiet_nil ?_
      rintro w1 ⟨qw1, hww1⟩
      have hbw1 := below_of_eq hww1
      clear hww1 qw1
      have hc1 := keepc hbw1
      go_wp2
      go_ret
      exact ⟨ret_b (by rw [prefersS, if_neg (by omega)]; simp <;> omega), Below_trans' hb0 hb0.size hbw1⟩
  by_cases h2 : k = 2
  · subst h2
    by_cases p1 : 0 ≤ placeS ms x 0
    · by_cases p2 : placeS ms y 0 < 0
      · go_enter Tryz.func67, Tryz.ntmps67
        go_wp2
        refine wp_region_more (by kernel_rfl) (by kernel_rfl) ?_
        repeat (go_big_quiet_step ((go_at_call 100; exact more_same (index_any _ _ _ ms _ _ ((h.below hb0).more _)))))
        refine wpQuiet_nil ?_
        rintro w1 ⟨qw1, hww1⟩
        have hbw1 := below_of_eq hww1
        clear hww1 qw1
        have hc1 := keepc hbw1
        go_wp2
        go_ret
        exact ⟨ret_b (by rw [prefersS, if_neg (by omega)]; simp <;> omega), Below_trans' hb0 hb0.size hbw1⟩
      · go_enter Tryz.func67, Tryz.ntmps67
        go_wp2
        refine wp_region_more (by kernel_rfl) (by kernel_rfl) ?_
        repeat (go_big_quiet_step ((go_at_call 100; exact more_same (index_any _ _ _ ms _ _ ((h.below hb0).more _)))))
        refine wpQuiet_nil ?_
        rintro w1 ⟨qw1, hww1⟩
        have hbw1 := below_of_eq hww1
        clear hww1 qw1
        have hc1 := keepc hbw1
        go_wp2
        go_ret
        exact ⟨ret_b (by rw [prefersS, if_neg (by omega)]; simp <;> omega), Below_trans' hb0 hb0.size hbw1⟩
    · go_enter Tryz.func67, Tryz.ntmps67
      go_wp2
      refine wp_region_more (by kernel_rfl) (by kernel_rfl) ?_
      repeat (go_big_quiet_step ((go_at_call 100; exact more_same (index_any _ _ _ ms _ _ ((h.below hb0).more _)))))
      refine wpQuiet_nil ?_
      rintro w1 ⟨qw1, hww1⟩
      have hbw1 := below_of_eq hww1
      clear hww1 qw1
      have hc1 := keepc hbw1
      go_wp2
      go_ret
      exact ⟨ret_b (by rw [prefersS, if_neg (by omega)]; simp <;> omega), Below_trans' hb0 hb0.size hbw1⟩
  by_cases h3 : k = 3
  · subst h3
    by_cases p1 : x < (n : Int)
    · have g1 : decide (x < (n : Int)) = true := by simpa using p1
      by_cases p2 : y < (n : Int)
      · have g2 : decide (y < (n : Int)) = true := by simpa using p2
        have q1 : 0 ≤ x := by omega
        have q2 : 0 ≤ y := by omega
        go_enter Tryz.func67, Tryz.ntmps67
        go_wp2
        refine wp_region_more (by kernel_rfl) (by kernel_rfl) ?_
        repeat (go_big_quiet_step ((go_at_call 100; exact more_same (index_any _ _ _ ms _ _ ((h.below hb0).more _)))))
        refine wpQuiet_nil ?_
        rintro w1 ⟨qw1, hww1⟩
        have hbw1 := below_of_eq hww1
        clear hww1 qw1
        have hB := (Has.new w 103 #[.int .u8 3, .slice A n c]).below hbw1 (Has.new w 103 #[.int .u8 3, .slice A n c]).lt
        have hk0 : w1.cell? ⟨w.heap.size, 0, none⟩ = some (.int .u8 3) := hB.cell 0
        have hk1 : w1.cell? ⟨w.heap.size, 1, none⟩ = some (.slice A n c) := hB.cell 1
        have hr := (h.below hb0).below hbw1
        obtain ⟨b, off, v, rfl, hc, hd, hat, _⟩ := hr.step (k := x.toNat) (by omega); obtain ⟨b', off', u, e, hc', hd', hat', _⟩ := hr.step (k := y.toNat) (by omega); cases e
        go_wp2
        refine wp_region_more (by kernel_rfl) (by kernel_rfl) ?_
        repeat (go_big_quiet_step (fail))
        refine wpQuiet_nil ?_
        rintro w2 ⟨qw2, hww2⟩
        have hbw2 := below_of_eq hww2
        clear hww2 qw2
        go_wp2
        go_ret
        refine ⟨ret_b ?_, Below_trans' (Below_trans' hb0 hb0.size hbw1) (Below_trans' hb0 hb0.size hbw1).size hbw2⟩
        rw [prefersS, if_neg (by omega), if_neg (by omega), if_neg (by omega), if_pos rfl]
        simp [hl, p1, p2, hat.out, hat'.out]
      · have g2 : decide (y < (n : Int)) = false := by simpa using p2
        go_enter Tryz.func67, Tryz.ntmps67
        go_wp2
        refine wp_region_more (by kernel_rfl) (by kernel_rfl) ?_
        repeat (go_big_quiet_step ((go_at_call 100; exact more_same (index_any _ _ _ ms _ _ ((h.below hb0).more _)))))
        refine wpQuiet_nil ?_
        rintro w1 ⟨qw1, hww1⟩
        have hbw1 := below_of_eq hww1
        clear hww1 qw1
        have hB := (Has.new w 103 #[.int .u8 3, .slice A n c]).below hbw1 (Has.new w 103 #[.int .u8 3, .slice A n c]).lt
        have hk0 : w1.cell? ⟨w.heap.size, 0, none⟩ = some (.int .u8 3) := hB.cell 0
        have hk1 : w1.cell? ⟨w.heap.size, 1, none⟩ = some (.slice A n c) := hB.cell 1
        have hr := (h.below hb0).below hbw1
        skip
        go_wp2
        refine wp_region_more (by kernel_rfl) (by kernel_rfl) ?_
        repeat (go_big_quiet_step (fail))
        refine wpQuiet_nil ?_
        rintro w2 ⟨qw2, hww2⟩
        have hbw2 := below_of_eq hww2
        clear hww2 qw2
        go_wp2
        go_ret
        refine ⟨ret_b ?_, Below_trans' (Below_trans' hb0 hb0.size hbw1) (Below_trans' hb0 hb0.size hbw1).size hbw2⟩
        rw [prefersS, if_neg (by omega), if_neg (by omega), if_neg (by omega), if_pos rfl]
        simp [hl]; intros; omega
    · have g1 : decide (x < (n : Int)) = false := by simpa using p1
      go_enter Tryz.func67, Tryz.ntmps67
      go_wp2
      refine wp_region_more (by kernel_rfl) (by kernel_rfl) ?_
      repeat (go_big_quiet_step ((go_at_call 100; exact more_same (index_any _ _ _ ms _ _ ((h.below hb0).more _)))))
      refine wpQuiet_nil ?_
      rintro w1 ⟨qw1, hww1⟩
      have hbw1 := below_of_eq hww1
      clear hww1 qw1
      have hB := (Has.new w 103 #[.int .u8 3, .slice A n c]).below hbw1 (Has.new w 103 #[.int .u8 3, .slice A n c]).lt
      have hk0 : w1.cell? ⟨w.heap.size, 0, none⟩ = some (.int .u8 3) := hB.cell 0
      have hk1 : w1.cell? ⟨w.heap.size, 1, none⟩ = some (.slice A n c) := hB.cell 1
      have hr := (h.below hb0).below hbw1
      skip
      go_wp2
      refine wp_region_more (by kernel_rfl) (by kernel_rfl) ?_
      repeat (go_big_quiet_step (fail))
      refine wpQuiet_nil ?_
      rintro w2 ⟨qw2, hww2⟩
      have hbw2 := below_of_eq hww2
      clear hww2 qw2
      go_wp2
      go_ret
      refine ⟨ret_b ?_, Below_trans' (Below_trans' hb0 hb0.size hbw1) (Below_trans' hb0 hb0.size hbw1).size hbw2⟩
      rw [prefersS, if_neg (by omega), if_neg (by omega), if_neg (by omega), if_pos rfl]
      simp [hl]; intros; omega
  · have k1 : (k == 1) = false := by simpa using h1
    have k2 : (k == 2) = false := by simpa using h2
    have k3 : (k == 3) = false := by simpa using h3
    go_enter Tryz.func67, Tryz.ntmps67
    go_wp2
    refine wp_region_more (by kernel_rfl) (by kernel_rfl) ?_
    repeat (go_big_quiet_step ((go_at_call 100; exact more_same (index_any _ _ _ ms _ _ ((h.below hb0).more _)))))
    refine wpQuiet_nil ?_
    rintro w1 ⟨qw1, hww1⟩
    have hbw1 := below_of_eq hww1
    clear hww1 qw1
    have hc1 := keepc hbw1
    go_wp2
    go_ret
    exact ⟨ret_b (by rw [prefersS, if_neg (by omega), if_neg h1, if_neg h2, if_neg h3]), Below_trans' hb0 hb0.size hbw1⟩

theorem rprefers_any (k : Int) (A : Option Addr) (n c : Nat) (ms : List Int) (x y : Int) (w : World) (h : RInts w A n c ms) :
    Calls Tryz.prog 92 #[.agg #[.int .u8 k, .slice A n c], .int .i64 x, .int .i64 y] w fun e w' => e = .returned (.bool (prefersS k ms x y)) ∧ Below w.heap.size w w' := by
  have hl := h.len
  have hn := h.le
  have hb0 := (Below.refl w.heap.size w).alloc (Nat.le_refl _) (.cells #[.int .u8 k, .slice A n c] 103)
  by_cases hx : x < 0
  · go_enter Tryz.func92, Tryz.ntmps92
    go_wp2
    go_ret
    exact ⟨ret_b (by rw [prefersS, if_pos (by omega)]), hb0⟩
  by_cases hy : y < 0
  · go_enter Tryz.func92, Tryz.ntmps92
    go_wp2
    go_ret
    exact ⟨ret_b (by rw [prefersS, if_pos (by omega)]), hb0⟩
  by_cases h1 : k = 1
  · subst h1
    by_cases p1 : 0 ≤ placeS ms x 0
    · by_cases p2 : placeS ms y 0 < 0
      · go_enter Tryz.func92, Tryz.ntmps92
        go_wp2
        refine wp_region_more (by kernel_rfl) (by kernel_rfl) ?_
        repeat (go_big_quiet_step ((go_at_call 106; exact more_same (place_any _ _ _ ms _ _ ((h.below hb0).more _)))))
        refine wpQuiet_nil ?_
        rintro w1 ⟨qw1, hww1⟩
        have hbw1 := below_of_eq hww1
        clear hww1 qw1
        have hc1 := keepc hbw1
        go_wp2
        go_ret
        exact ⟨ret_b (by rw [prefersS, if_neg (by omega)]; simp <;> omega), Below_trans' hb0 hb0.size hbw1⟩
      · by_cases p3 : placeS ms x 0 < placeS ms y 0
        · go_enter Tryz.func92, Tryz.ntmps92
          go_wp2
          refine wp_region_more (by kernel_rfl) (by kernel_rfl) ?_
          repeat (go_big_quiet_step ((go_at_call 106; exact more_same (place_any _ _ _ ms _ _ ((h.below hb0).more _)))))
          refine wpQuiet_nil ?_
          rintro w1 ⟨qw1, hww1⟩
          have hbw1 := below_of_eq hww1
          clear hww1 qw1
          have hc1 := keepc hbw1
          go_wp2
          go_ret
          exact ⟨ret_b (by rw [prefersS, if_neg (by omega)]; simp <;> omega), Below_trans' hb0 hb0.size hbw1⟩
        · go_enter Tryz.func92, Tryz.ntmps92
          go_wp2
          refine wp_region_more (by kernel_rfl) (by kernel_rfl) ?_
          repeat (go_big_quiet_step ((go_at_call 106; exact more_same (place_any _ _ _ ms _ _ ((h.below hb0).more _)))))
          refine wpQuiet_nil ?_
          rintro w1 ⟨qw1, hww1⟩
          have hbw1 := below_of_eq hww1
          clear hww1 qw1
          have hc1 := keepc hbw1
          go_wp2
          go_ret
          exact ⟨ret_b (by rw [prefersS, if_neg (by omega)]; simp <;> omega), Below_trans' hb0 hb0.size hbw1⟩
    · go_enter Tryz.func92, Tryz.ntmps92
      go_wp2
      refine wp_region_more (by kernel_rfl) (by kernel_rfl) ?_
      repeat (go_big_quiet_step ((go_at_call 106; exact more_same (place_any _ _ _ ms _ _ ((h.below hb0).more _)))))
      refine wpQuiet_nil ?_
      rintro w1 ⟨qw1, hww1⟩
      have hbw1 := below_of_eq hww1
      clear hww1 qw1
      have hc1 := keepc hbw1
      go_wp2
      go_ret
      exact ⟨ret_b (by rw [prefersS, if_neg (by omega)]; simp <;> omega), Below_trans' hb0 hb0.size hbw1⟩
  by_cases h2 : k = 2
  · subst h2
    by_cases p1 : 0 ≤ placeS ms x 0
    · by_cases p2 : placeS ms y 0 < 0
      · go_enter Tryz.func92, Tryz.ntmps92
        go_wp2
        refine wp_region_more (by kernel_rfl) (by kernel_rfl) ?_
        repeat (go_big_quiet_step ((go_at_call 106; exact more_same (place_any _ _ _ ms _ _ ((h.below hb0).more _)))))
        refine wpQuiet_nil ?_
        rintro w1 ⟨qw1, hww1⟩
        have hbw1 := below_of_eq hww1
        clear hww1 qw1
        have hc1 := keepc hbw1
        go_wp2
        go_ret
        exact ⟨ret_b (by rw [prefersS, if_neg (by omega)]; simp <;> omega), Below_trans' hb0 hb0.size hbw1⟩
      · go_enter Tryz.func92, Tryz.ntmps92
        go_wp2
        refine wp_region_more (by kernel_rfl) (by kernel_rfl) ?_
        repeat (go_big_quiet_step ((go_at_call 106; exact more_same (place_any _ _ _ ms _ _ ((h.below hb0).more _)))))
        refine wpQuiet_nil ?_
        rintro w1 ⟨qw1, hww1⟩
        have hbw1 := below_of_eq hww1
        clear hww1 qw1
        have hc1 := keepc hbw1
        go_wp2
        go_ret
        exact ⟨ret_b (by rw [prefersS, if_neg (by omega)]; simp <;> omega), Below_trans' hb0 hb0.size hbw1⟩
    · go_enter Tryz.func92, Tryz.ntmps92
      go_wp2
      refine wp_region_more (by kernel_rfl) (by kernel_rfl) ?_
      repeat (go_big_quiet_step ((go_at_call 106; exact more_same (place_any _ _ _ ms _ _ ((h.below hb0).more _)))))
      refine wpQuiet_nil ?_
      rintro w1 ⟨qw1, hww1⟩
      have hbw1 := below_of_eq hww1
      clear hww1 qw1
      have hc1 := keepc hbw1
      go_wp2
      go_ret
      exact ⟨ret_b (by rw [prefersS, if_neg (by omega)]; simp <;> omega), Below_trans' hb0 hb0.size hbw1⟩
  by_cases h3 : k = 3
  · subst h3
    by_cases p1 : x < (n : Int)
    · have g1 : decide (x < (n : Int)) = true := by simpa using p1
      by_cases p2 : y < (n : Int)
      · have g2 : decide (y < (n : Int)) = true := by simpa using p2
        have q1 : 0 ≤ x := by omega
        have q2 : 0 ≤ y := by omega
        go_enter Tryz.func92, Tryz.ntmps92
        go_wp2
        refine wp_region_more (by kernel_rfl) (by kernel_rfl) ?_
        repeat (go_big_quiet_step ((go_at_call 106; exact more_same (place_any _ _ _ ms _ _ ((h.below hb0).more _)))))
        refine wpQuiet_nil ?_
        rintro w1 ⟨qw1, hww1⟩
        have hbw1 := below_of_eq hww1
        clear hww1 qw1
        have hB := (Has.new w 103 #[.int .u8 3, .slice A n c]).below hbw1 (Has.new w 103 #[.int .u8 3, .slice A n c]).lt
        have hk0 : w1.cell? ⟨w.heap.size, 0, none⟩ = some (.int .u8 3) := hB.cell 0
        have hk1 : w1.cell? ⟨w.heap.size, 1, none⟩ = some (.slice A n c) := hB.cell 1
        have hr := (h.below hb0).below hbw1
        obtain ⟨b, off, v, rfl, hc, hd, hat, _⟩ := hr.step (k := x.toNat) (by omega); obtain ⟨b', off', u, e, hc', hd', hat', _⟩ := hr.step (k := y.toNat) (by omega); cases e
        go_wp2
        refine wp_region_more (by kernel_rfl) (by kernel_rfl) ?_
        repeat (go_big_quiet_step (fail))
        refine wpQuiet_nil ?_
        rintro w2 ⟨qw2, hww2⟩
        have hbw2 := below_of_eq hww2
        clear hww2 qw2
        go_wp2
        go_ret
        refine ⟨ret_b ?_, Below_trans' (Below_trans' hb0 hb0.size hbw1) (Below_trans' hb0 hb0.size hbw1).size hbw2⟩
        rw [prefersS, if_neg (by omega), if_neg (by omega), if_neg (by omega), if_pos rfl]
        simp [hl, p1, p2, hat.out, hat'.out]
      · have g2 : decide (y < (n : Int)) = false := by simpa using p2
        go_enter Tryz.func92, Tryz.ntmps92
        go_wp2
        refine wp_region_more (by kernel_rfl) (by kernel_rfl) ?_
        repeat (go_big_quiet_step ((go_at_call 106; exact more_same (place_any _ _ _ ms _ _ ((h.below hb0).more _)))))
        refine wpQuiet_nil ?_
        rintro w1 ⟨qw1, hww1⟩
        have hbw1 := below_of_eq hww1
        clear hww1 qw1
        have hB := (Has.new w 103 #[.int .u8 3, .slice A n c]).below hbw1 (Has.new w 103 #[.int .u8 3, .slice A n c]).lt
        have hk0 : w1.cell? ⟨w.heap.size, 0, none⟩ = some (.int .u8 3) := hB.cell 0
        have hk1 : w1.cell? ⟨w.heap.size, 1, none⟩ = some (.slice A n c) := hB.cell 1
        have hr := (h.below hb0).below hbw1
        skip
        go_wp2
        refine wp_region_more (by kernel_rfl) (by kernel_rfl) ?_
        repeat (go_big_quiet_step (fail))
        refine wpQuiet_nil ?_
        rintro w2 ⟨qw2, hww2⟩
        have hbw2 := below_of_eq hww2
        clear hww2 qw2
        go_wp2
        go_ret
        refine ⟨ret_b ?_, Below_trans' (Below_trans' hb0 hb0.size hbw1) (Below_trans' hb0 hb0.size hbw1).size hbw2⟩
        rw [prefersS, if_neg (by omega), if_neg (by omega), if_neg (by omega), if_pos rfl]
        simp [hl]; intros; omega
    · have g1 : decide (x < (n : Int)) = false := by simpa using p1
      go_enter Tryz.func92, Tryz.ntmps92
      go_wp2
      refine wp_region_more (by kernel_rfl) (by kernel_rfl) ?_
      repeat (go_big_quiet_step ((go_at_call 106; exact more_same (place_any _ _ _ ms _ _ ((h.below hb0).more _)))))
      refine wpQuiet_nil ?_
      rintro w1 ⟨qw1, hww1⟩
      have hbw1 := below_of_eq hww1
      clear hww1 qw1
      have hB := (Has.new w 103 #[.int .u8 3, .slice A n c]).below hbw1 (Has.new w 103 #[.int .u8 3, .slice A n c]).lt
      have hk0 : w1.cell? ⟨w.heap.size, 0, none⟩ = some (.int .u8 3) := hB.cell 0
      have hk1 : w1.cell? ⟨w.heap.size, 1, none⟩ = some (.slice A n c) := hB.cell 1
      have hr := (h.below hb0).below hbw1
      skip
      go_wp2
      refine wp_region_more (by kernel_rfl) (by kernel_rfl) ?_
      repeat (go_big_quiet_step (fail))
      refine wpQuiet_nil ?_
      rintro w2 ⟨qw2, hww2⟩
      have hbw2 := below_of_eq hww2
      clear hww2 qw2
      go_wp2
      go_ret
      refine ⟨ret_b ?_, Below_trans' (Below_trans' hb0 hb0.size hbw1) (Below_trans' hb0 hb0.size hbw1).size hbw2⟩
      rw [prefersS, if_neg (by omega), if_neg (by omega), if_neg (by omega), if_pos rfl]
      simp [hl]; intros; omega
  · have k1 : (k == 1) = false := by simpa using h1
    have k2 : (k == 2) = false := by simpa using h2
    have k3 : (k == 3) = false := by simpa using h3
    go_enter Tryz.func92, Tryz.ntmps92
    go_wp2
    refine wp_region_more (by kernel_rfl) (by kernel_rfl) ?_
    repeat (go_big_quiet_step ((go_at_call 106; exact more_same (place_any _ _ _ ms _ _ ((h.below hb0).more _)))))
    refine wpQuiet_nil ?_
    rintro w1 ⟨qw1, hww1⟩
    have hbw1 := below_of_eq hww1
    clear hww1 qw1
    have hc1 := keepc hbw1
    go_wp2
    go_ret
    exact ⟨ret_b (by rw [prefersS, if_neg (by omega), if_neg h1, if_neg h2, if_neg h3]), Below_trans' hb0 hb0.size hbw1⟩

end Go.Proofs.YtolbceckbnifmaaGreat
