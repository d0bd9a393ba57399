/-
  The library's Sort, of twelve numbers at most.
  The library's Values, AppendSeq, Collect, Sorted: a loop over an iterator.
-/
import Derived.Test.YtolbceckbnifmaaGreatW8f
import Derived.RangeFuncBox
import Derived.RangeFuncLeaves
import Derived.OwnWalkIn
import Derived.TacticsInMore
import Derived.LoopNIn
import Derived.LoopIn
import Derived.Maps.AppendAt
namespace Go.Proofs.YtolbceckbnifmaaGreat
open Go.RowKit Go.Proofs Go.Shelf
attribute [local go_sem] cell?_more cell?_alloc_some cell?_setCell_far frozen?_alloc_some frozen?_more
set_option maxRecDepth 100000 in
theorem len64_any (n : Nat) (hn : n ≤ 12) (w : World) : Calls Tryz.prog 135 #[.int .u64 n] w fun e w' => (∃ r, e = .returned (.int .i64 r)) ∧ w = w' := by
  have h1 : ¬ (4294967296 : Int) ≤ n := by omega
  have h2 : ¬ (65536 : Int) ≤ n := by omega
  have h3 : ¬ (256 : Int) ≤ n := by omega
  go_enter Tryz.func135, Tryz.ntmps135
  go_upto_region 10 with fail
  generalize hC : (ByteArray.mk _) = C
  have hs : C.size = 256 := by rw [← hC]; kernel_rfl
  clear hC
  have h4 : n < C.size := by omega
  go_wp2
  go_ret
  exact ⟨⟨_, rfl⟩, rfl⟩

theorem len_any (n : Nat) (hn : n ≤ 12) (w : World) : Calls Tryz.prog 104 #[.int .u64 n] w fun e w' => (∃ r, e = .returned (.int .i64 r)) ∧ w = w' := by
  go_enter Tryz.func104, Tryz.ntmps104
  go_wp2_with (go_at_call 135; refine (len64_any n hn _).mono ?_; rintro e w' ⟨⟨r, rfl⟩, rfl⟩)
  go_ret
  exact ⟨⟨_, rfl⟩, rfl⟩

/-- The numbers ys are xs in another order, and the first i stand in order. -/
def SortedTo (xs ys : List Int) (i : Nat) : Prop := ys.Perm xs ∧ (ys.take i).Pairwise (· ≤ ·)

/-- What an in-place sort leaves. -/
def SortPost (w : World) (B : Nat) (v : Value) (xs : List Int) (e : Ending) (w' : World) : Prop :=
  e = .returned (.tuple #[]) ∧ ∃ ys, Own w' B v ys ∧ ys.Perm xs ∧ ys.Pairwise (· ≤ ·) ∧ Frame' (fun b => some b = v.ownBlock) w w'

/-- The j-th has gone down from place i: all others of the first i stand in order, and it is below those behind it. -/
def Down (ys : List Int) (i j : Nat) : Prop := ∀ a b u v, a < b → b ≤ i → ys[a]? = some u → ys[b]? = some v → b ≠ j → u ≤ v
theorem down_start {ys : List Int} {i : Nat} (h : (ys.take i).Pairwise (· ≤ ·)) : Down ys i i := by
  intro a b u v hab hbi hu hv hbj
  have h1 := List.pairwise_iff_getElem.1 h
  have hbl := (List.getElem?_eq_some_iff.1 hv).1
  have := h1 a b (by simp; omega) (by simp; omega) hab
  rw [List.getElem_take, List.getElem_take] at this
  have e1 := (List.getElem?_eq_some_iff.1 hu).2
  have e2 := (List.getElem?_eq_some_iff.1 hv).2
  rw [e1, e2] at this
  exact this
/-- It stands where it belongs. -/
theorem down_done {ys : List Int} {i j : Nat} (h : Down ys i j) (hj : j ≤ i) (hl : i < ys.length) (hs : j = 0 ∨ ∃ u v, ys[j - 1]? = some u ∧ ys[j]? = some v ∧ u ≤ v) : (ys.take (i + 1)).Pairwise (· ≤ ·) := by
  rw [List.pairwise_iff_getElem]
  intro a b ha hb hab
  rw [List.getElem_take, List.getElem_take]
  have hb' : b ≤ i := by simp at hb; omega
  by_cases e : b = j
  · subst e
    rcases hs with h0 | ⟨u, v, hu, hv, huv⟩
    · omega
    · have ev := (List.getElem?_eq_some_iff.1 hv).2
      have eu := (List.getElem?_eq_some_iff.1 hu).2
      by_cases e1 : a = b - 1
      · subst e1; rw [ev, eu]; exact huv
      · have := h a (b - 1) ys[a] u (by omega) (by omega) (List.getElem?_eq_getElem _) hu (by omega)
        rw [ev]
        omega
  · exact h a b ys[a] ys[b] hab hb' (List.getElem?_eq_getElem _) (List.getElem?_eq_getElem _) e
/-- It goes down one place more. -/
theorem down_step {ys : List Int} {i j : Nat} {u v : Int} (h : Down ys i j) (hj : 0 < j) (hji : j ≤ i) (hu : ys[j - 1]? = some u) (hv : ys[j]? = some v) (hlt : v < u) : Down ((ys.set j u).set (j - 1) v) i (j - 1) := by
  have hl := (List.getElem?_eq_some_iff.1 hv).1
  intro a b x y hab hbi hx hy hbj
  have get : ∀ k, ((ys.set j u).set (j - 1) v)[k]? = if k = j - 1 then some v else if k = j then some u else ys[k]? := fun k => by
    by_cases e : k = j - 1
    · subst e; rw [if_pos rfl, List.getElem?_set_self (by simp; omega)]
    · rw [if_neg e, List.getElem?_set_ne (by omega)]
      by_cases e2 : k = j
      · subst e2; rw [if_pos rfl, List.getElem?_set_self hl]
      · rw [if_neg e2, List.getElem?_set_ne (by omega)]
  rw [get] at hx hy
  rw [if_neg hbj] at hy
  by_cases e1 : a = j - 1
  · rw [if_pos e1] at hx
    cases hx
    by_cases e2 : b = j
    · rw [if_pos e2] at hy; cases hy; omega
    · rw [if_neg e2] at hy
      have := h (j - 1) b u y (by omega) hbi hu hy e2
      omega
  · rw [if_neg e1] at hx
    by_cases e3 : a = j
    · rw [if_pos e3] at hx
      cases hx
      rw [if_neg (by omega)] at hy
      exact h (j - 1) b u y (by omega) hbi hu hy (by omega)
    · rw [if_neg e3] at hx
      by_cases e2 : b = j
      · rw [if_pos e2] at hy
        cases hy
        exact h a (j - 1) x u (by omega) (by omega) hx hu (by omega)
      · rw [if_neg e2] at hy
        exact h a b x y hab hbi hx hy e2
theorem perm_swap {ys : List Int} {j : Nat} {u v : Int} (hj : 0 < j) (hu : ys[j - 1]? = some u) (hv : ys[j]? = some v) : ((ys.set j u).set (j - 1) v).Perm ys := by
  obtain ⟨k, rfl⟩ : ∃ k, j = k + 1 := ⟨j - 1, by omega⟩
  simp only [Nat.add_sub_cancel] at *
  clear hj
  induction k generalizing ys with
  | zero =>
    match ys, hu, hv with
    | a :: b :: r, hu, hv =>
      simp at hu hv
      subst hu hv
      exact List.Perm.swap ..
  | succ k ih =>
    match ys, hu, hv with
    | a :: r, hu, hv =>
      simp only [List.getElem?_cons_succ] at hu hv
      simp only [List.set_cons_succ]
      exact (ih hv hu).cons a

/-- A place of a slice that is owned. -/
theorem Own.at {w : World} {B n c g : Nat} {ys : List Int} (h : Own w B (.slice (some ⟨g, 0, none⟩) n c) ys) (hl : ys.length = n) {j : Nat} (hj : j < n) : ∃ v, Hid (ys[j]? = some v) ∧ w.cell? ⟨g, j, none⟩ = some (.int .i64 v) ∧ w.frozen? ⟨g, j, none⟩ = false := by
  have hown : w.ownsRow B 3 1 (.slice (some ⟨g, 0, none⟩) n c) n (ys.map (Value.int .i64)) := by have := h; unfold Own at this; rwa [hl] at this
  have he := List.getElem?_eq_getElem (show j < ys.length by omega)
  exact ⟨_, he, by rw [hown.cellAt j (by omega), List.getElem?_map, he]; rfl, hown.frozenAt j⟩
theorem Own.set {w : World} {B n c g : Nat} {ys : List Int} (h : Own w B (.slice (some ⟨g, 0, none⟩) n c) ys) (hl : ys.length = n) (j : Nat) (v : Int) : Own (w.setCell ⟨g, j, none⟩ (.int .i64 v)) B (.slice (some ⟨g, 0, none⟩) n c) (ys.set j v) := by
  have hown : w.ownsRow B 3 1 (.slice (some ⟨g, 0, none⟩) n c) n (ys.map (Value.int .i64)) := by have := h; unfold Own at this; rwa [hl] at this
  unfold Own
  rw [List.length_set, hl, List.map_set]
  exact (hown.stored j _).1

set_option maxRecDepth 100000 in
set_option maxHeartbeats 2000000 in
theorem insertion_any (B : Nat) (A : Option Addr) (n c : Nat) (xs : List Int) (w : World) (h : Own w B (.slice A n c) xs) (hn : n ≤ 12) :
    Calls Tryz.prog 125 #[.slice A n c, .int .i64 0, .int .i64 n] w (SortPost w B (.slice A n c) xs) := by
  have hlen : xs.length = n := by
    obtain ⟨A', c', e⟩ := h.slice
    cases e; rfl
  have Hlen := hide hlen
  have hcm : c ≤ 9223372036854775807 := by
    rcases h.2 with ⟨e, _⟩ | ⟨g, cap, cur, e, _, _, _, hc, _⟩
    · cases e; omega
    · cases e; unfold maxLen at hc; omega
  have hnc : n ≤ c := by
    rcases h.2 with ⟨e, _⟩ | ⟨g, cap, cur, e, _, _, hc, _⟩
    · cases e; omega
    · cases e; omega
  have h0 : Hid (SortedTo xs xs 1) := by
    refine ⟨List.Perm.refl _, ?_⟩
    match xs with
    | [] => simp
    | a :: r => simp
  have H := hide h
  clear h hlen
  go_enter Tryz.func125, Tryz.ntmps125
  go_wp2_with fail
  go_loopw [6, 7] (fun s6 s7 wr => ∃ (i : Nat) (ys : List Int), 1 ≤ i ∧ (i ≤ n ∨ i = 1) ∧ s6 = .int .i64 i ∧ Hid (SortedTo xs ys i) ∧ Hid (Own wr B (.slice A n c) ys) ∧ Hid (Frame' (fun b => some b = (Value.slice A n c).ownBlock) w wr)) (fun s6 s7 _ => n + 1 - (intOf s6).toNat)
  case atStart => exact ⟨1, xs, Nat.le_refl _, .inr rfl, rfl, h0, H, Frame'.refl _ _⟩
  case round =>
    obtain ⟨i, ys, hi1, hin, rfl, hS, hO, hF⟩ := hrel
    by_cases hlt : i < n
    · obtain ⟨g, rfl⟩ : ∃ g, A = some ⟨g, 0, none⟩ := by
        rcases H.out.2 with ⟨_, e⟩ | ⟨g, cap, cur, e, _⟩
        · rw [Hlen.out] at e; omega
        · cases e; exact ⟨g, rfl⟩
      have hdn := hide (down_start hS.out.2)
      have hpm := hide hS.out.1
      obtain ⟨wx, rfl⟩ : ∃ wx : World, wx = wr := ⟨_, rfl⟩
      go_wp2_with fail
      clear hS
      go_loopw [7] (fun s7 wr => ∃ (j : Nat) (ys : List Int), j ≤ i ∧ s7 = .int .i64 j ∧ Hid (ys.Perm xs) ∧ Hid (Down ys i j) ∧ Hid (Own wr B (.slice (some ⟨g, 0, none⟩) n c) ys) ∧ Hid (Frame' (fun b => some b = (Value.slice (some ⟨g, 0, none⟩) n c).ownBlock) w wr)) (fun s7 _ => (intOf s7).toNat)
      case atStart => exact ⟨i, ys, Nat.le_refl _, rfl, hpm, hdn, hO, hF⟩
      case round =>
        clear hdn hpm hO hF
        obtain ⟨j, ys, hji, rfl, hpm, hdn, hO, hF⟩ := hrel
        have hyl : Hid (ys.length = n) := by unfold Hid; rw [hpm.out.length_eq, Hlen.out]
        by_cases hj0 : j = 0
        · subst hj0
          go_upto_region 4 with (fail)
          refine wp_region_more (by kernel_rfl) (by kernel_rfl) ?_
          repeat (go_big_quiet_step (fail))
          refine wpQuiet_nil ?_
          rintro w4 ⟨qw4, hww4⟩
          have hbw4 := below_of_eq hww4
          clear hww4 qw4
          go_wp2_with fail
          go_roundw
          case rel => exact ⟨i + 1, ys, by omega, .inl (by omega), by go_num, ⟨hpm.out, down_done hdn.out (Nat.zero_le _) (by rw [hyl.out]; exact hlt) (.inl rfl)⟩, Own.below hO.out hbw4, hF.out.trans (Frame'.of_below hbw4)⟩
          case measure => simp [intOf] <;> omega
        · obtain ⟨k, rfl⟩ : ∃ k, j = k + 1 := ⟨j - 1, by omega⟩
          obtain ⟨v, hv, cv, fv⟩ := hO.out.at hyl.out (show k + 1 < n by omega)
          obtain ⟨u, hu, cu, fu⟩ := hO.out.at hyl.out (show k < n by omega)
          have b1 : (0 : Int) ≤ (k : Int) := by omega
          have b2 : (k : Int) < (n : Int) := by omega
          have b3 : (k : Int) + 1 < (n : Int) := by omega
          by_cases hvu : v < u
          · have hd : decide (v < u) = true := by simp [hvu]
            have Hvu := hide hvu
            clear hvu
            go_upto_region 4 with (fail)
            refine wp_region_more (by kernel_rfl) (by kernel_rfl) ?_
            repeat (go_big_quiet_step ((go_at_call 131; with_reducible exact more_same ((less_any _ _ _).mono fun _ _ h => ⟨by rw [h.1, hd], h.2⟩))))
            refine wpQuiet_nil ?_
            rintro w4 ⟨qw4, hww4⟩
            have hbw4 := below_of_eq hww4
            clear hww4 qw4
            have cv4 := keep_cell hbw4 cv
            have cu4 := keep_cell hbw4 cu
            have fv4 := (hbw4.frozen (World.block_lt_of_cell? wr _ cv)).trans fv
            have fu4 := (hbw4.frozen (World.block_lt_of_cell? wr _ cu)).trans fu
            go_wp2_with fail
            have e1 : ((k + 1 : Nat) : Int) - 1 = (k : Int) := by omega
            have e2 : IntKind.i64.wrap (k : Int) = (k : Int) := IntWalk.i64_in _ (by omega)
            have e3 : wrap64 (k : Int) = (k : Int) := IntWalk.wrap64_in _ (by omega)
            have e4 : ((k + 1 : Nat) : Int).toNat = k + 1 := by omega
            have b5 : (0 : Int) ≤ ((k + 1 : Nat) : Int) := by omega
            have b6 : ((k + 1 : Nat) : Int) < (n : Int) := by omega
            have hkb : k + 1 ≠ k := by omega
            go_region_with (fail)
            all_goals
              have hO5 := Own.set (Own.set (Own.below hO.out hbw4) hyl.out (k + 1) u) (by rw [List.length_set]; exact hyl.out) k v
              have hF5 := Frame'.setCell (p := ⟨g, k, none⟩) (Frame'.setCell (p := ⟨g, k + 1, none⟩) (hF.out.trans (Frame'.of_below hbw4)) (.inl rfl) (.int .i64 u)) (.inl rfl) (.int .i64 v)
              clear cv4 cu4 fv4 fu4 cv cu fv fu e1 e2 e3 e4
              go_wp2
              go_roundw
              case rel => exact ⟨k, (ys.set (k + 1) u).set k v, by omega, by go_num, (perm_swap (j := k + 1) (by omega) hu.out hv.out).trans hpm.out, down_step (j := k + 1) hdn.out (by omega) hji hu.out hv.out Hvu.out, hO5, ⟨hF5.os, hF5.tape, hF5.output, hF5.size, hF5.block⟩⟩
              case measure => simp [intOf] <;> omega
          · have hd : decide (v < u) = false := by simp; omega
            have Hvu := hide hvu
            clear hvu
            go_upto_region 4 with (fail)
            refine wp_region_more (by kernel_rfl) (by kernel_rfl) ?_
            repeat (go_big_quiet_step ((go_at_call 131; with_reducible exact more_same ((less_any _ _ _).mono fun _ _ h => ⟨by rw [h.1, hd], h.2⟩))))
            refine wpQuiet_nil ?_
            rintro w4 ⟨qw4, hww4⟩
            have hbw4 := below_of_eq hww4
            clear hww4 qw4
            clear cv cu fv fu
            go_wp2_with fail
            go_roundw
            case rel => exact ⟨i + 1, ys, by omega, .inl (by omega), by go_num, ⟨hpm.out, down_done hdn.out hji (by rw [hyl.out]; exact hlt) (.inr ⟨u, v, hu.out, hv.out, by have := Hvu.out; omega⟩)⟩, Own.below hO.out hbw4, hF.out.trans (Frame'.of_below hbw4)⟩
            case measure => simp [intOf] <;> omega
    · have hb : ¬ (i : Int) < (n : Int) := by omega
      have hsr : Hid (ys.Pairwise (· ≤ ·)) := by
        have h2 := hS.out.2
        rwa [List.take_of_length_le (by rw [hS.out.1.length_eq, Hlen.out]; omega)] at h2
      go_wp2
      refine bodyPost_end (results_none rfl _ _ _) rfl ?_
      exact ⟨rfl, ys, hO.out, hS.out.1, hsr.out, hF.out⟩

set_option maxRecDepth 100000 in
set_option maxHeartbeats 2000000 in
theorem pdq_any (B : Nat) (A : Option Addr) (n c : Nat) (xs : List Int) (r : Int) (w : World) (h : Own w B (.slice A n c) xs) (hn : n ≤ 12) :
    Calls Tryz.prog 103 #[.slice A n c, .int .i64 0, .int .i64 n, .int .i64 r] w (SortPost w B (.slice A n c) xs) := by
  have hcall := insertion_any B A n c xs w h hn
  have h12 : (n : Int) ≤ 12 := by omega
  clear h
  go_enter Tryz.func103, Tryz.ntmps103
  go_wp2_with fail
  go_loopw [1, 2, 3, 8, 9] (fun s1 s2 s3 s8 s9 wr => s1 = .int .i64 0 ∧ s2 = .int .i64 n ∧ wr = w) (fun _ _ _ _ _ _ => 0)
  case atStart => exact ⟨rfl, rfl, rfl⟩
  case round =>
    obtain ⟨rfl, rfl, rfl⟩ := hrel
    go_wp2_with (go_at_call 125; refine hcall.mono ?_; rintro e w' ⟨rfl, ys, hO, hp, hs, hF⟩)
    refine bodyPost_ret (results_none rfl _ _ _) rfl ?_
    exact ⟨rfl, ys, hO, hp, hs, hF⟩

set_option maxRecDepth 100000 in
theorem sort_any (B : Nat) (A : Option Addr) (n c : Nat) (xs : List Int) (w : World) (h : Own w B (.slice A n c) xs) (hn : n ≤ 12) :
    Calls Tryz.prog 70 #[.slice A n c] w (SortPost w B (.slice A n c) xs) := by
  have hcall := fun r => pdq_any B A n c xs r w h hn
  clear h
  go_enter Tryz.func70, Tryz.ntmps70
  go_wp2_with (first
    | (go_at_call 104; refine (len_any n hn _).mono ?_; rintro e w' ⟨⟨r, rfl⟩, rfl⟩)
    | (go_at_call 103; refine (hcall r).mono ?_; rintro e w' ⟨rfl, ys, hO, hp, hs, hF⟩))
  refine bodyPost_end (results_none rfl _ _ _) rfl ?_
  exact ⟨rfl, ys, hO, hp, hs, hF⟩
end Go.Proofs.YtolbceckbnifmaaGreat

namespace Go.Proofs.YtolbceckbnifmaaGreat
open Go.RowKit Go.Proofs Go.Shelf
attribute [local go_sem] Oper.semAt_some
theorem take_succ_of {xs : List Int} {k : Nat} {x : Int} (h : xs[k]? = some x) : xs.take (k + 1) = xs.take k ++ [x] := by rw [List.take_add_one, h]; rfl

set_option maxRecDepth 100000 in
set_option maxHeartbeats 2000000 in
/-- The iterator of Values, for every loop body that keeps what lay below n₀. -/
theorem values1_in (m : Nat) (hm : 1 ≤ m) (l Bs n₀ : Nat) (A : Option Addr) (n c : Nat) (xs : List Int) (J Jx : List Int → World → Prop)
    (hY : ∀ pre x W, J pre W → pre.length < n → YieldAt Fence.wide (m - 1) Tryz.prog l #[.int .i64 x] W fun e W' =>
      (e = .returned (.bool true) ∧ J (pre ++ [x]) W' ∧ Below n₀ W W') ∨ (e = .returned (.bool false) ∧ Jx (pre ++ [x]) W'))
    (W : World) (hBs : W.cell? ⟨Bs, 0, none⟩ = some (.slice A n c)) (hlen : xs.length = n) (hc : 0 < n → ∃ b off, A = some ⟨b, off, none⟩ ∧ b < n₀ ∧ ∀ j, j < n → W.cell? ⟨b, off + j, none⟩ = some (.int .i64 (xs.getD j 0))) (hn : n ≤ 1000000) (h0 : J [] W) :
    CallsIn Fence.wide m Tryz.prog 142 #[.func (.yield l) #[] #[], .pointer (some ⟨Bs, 0, none⟩)] W fun e W' => (∃ v, e = .returned v) ∧ (J xs W' ∨ ∃ pre, pre <+: xs ∧ Jx pre W') := by
  refine callsIn_of_wp Tryz.func142 rfl trivial ?_ rfl
  simp only [Tryz.ntmps142, List.size_toArray, List.length_cons, List.length_nil, Nat.reduceAdd, Nat.reduceSub, Array.replicate_succ, Array.replicate_zero, List.push_toArray, List.append_toArray, List.nil_append, List.cons_append]
  have Hlen := hide hlen
  have Hc := hide hc
  clear hlen hc
  gi_wp2
  gi_loopw [7] (fun i wr => ∃ k : Nat, k ≤ n ∧ i = .int .i64 k ∧ Hid (J (xs.take k) wr) ∧ Hid (Below n₀ W wr))
    (fun i _ => n - (intOf i).toNat)
  case atStart => exact ⟨0, Nat.zero_le _, rfl, h0, Below.refl _ _⟩
  case round =>
    obtain ⟨k, hk, rfl, hJs, hnx⟩ := hrel
    by_cases hlt : k < n
    · obtain ⟨b, off, rfl, hb, hcell⟩ := Hc.out (by omega)
      have hcx := (hnx.out.cell (p := ⟨b, off + k, none⟩) hb).trans (hcell k hlt)
      have hxk : xs[k]? = some (xs.getD k 0) := by
        have : k < xs.length := by rw [Hlen.out]; exact hlt
        simp [List.getD, this]
      generalize xs.getD k 0 = x at hcx hxk
      have Hxk := hide hxk
      clear hcell hxk
      obtain ⟨fn, tmps, assign, body, hy, hR⟩ := hY _ x wr hJs.out (by rw [List.length_take, Hlen.out]; omega)
      gi_wp2
      refine hR.mono ?_
      rintro e W3 (⟨rfl, hJ3, hk3⟩ | ⟨rfl, hJx3⟩)
      · gi_wp2
        go_roundw
        case rel => exact ⟨k + 1, by omega, by simp, by unfold Hid; rw [take_succ_of Hxk.out]; exact hJ3, hnx.out.trans hk3⟩
        case measure => simp [intOf]; omega
      · gi_wp2
        refine bodyPost_ret (results_none rfl _ _ _) rfl ?_
        exact ⟨⟨_, rfl⟩, .inr ⟨_, by rw [← take_succ_of Hxk.out]; exact List.take_prefix _ _, hJx3⟩⟩
    · have hkn : k = n := by omega
      have hx : Hid (J xs wr) := by have := hJs.out; rwa [List.take_of_length_le (by rw [Hlen.out]; omega)] at this
      have b2 : ¬ (k : Int) < (n : Int) := by omega
      clear hlt hk
      gi_wp2
      go_end0
      exact ⟨⟨_, rfl⟩, .inl hx.out⟩

theorem values_stops (m : Nat) (hm : 1 ≤ m) (Bs n₀ : Nat) (A : Option Addr) (n c : Nat) (xs : List Int) (w : World) (hBs : Bs < w.heap.size) (hn₀ : n₀ ≤ w.heap.size) (hcell : w.cell? ⟨Bs, 0, none⟩ = some (.slice A n c)) (hlen : xs.length = n)
    (hc : 0 < n → ∃ b off, A = some ⟨b, off, none⟩ ∧ b < n₀ ∧ ∀ j, j < n → w.cell? ⟨b, off + j, none⟩ = some (.int .i64 (xs.getD j 0))) (hn : n ≤ 1000000) :
    SeqStopsK Fence.wide m Tryz.prog 142 #[.pointer (some ⟨Bs, 0, none⟩)] (fun x : Int => #[Value.int .i64 x]) (Below n₀) (fun ys => ys = xs) (fun pre => pre <+: xs) n w := fun l J Jx W hW _ _ hY h0 => by
  refine (values1_in m hm l Bs n₀ A n c xs J Jx hY W ((hW.cell (p := ⟨Bs, 0, none⟩) hBs).trans hcell) hlen (fun h => ?_) hn h0).mono ?_
  · obtain ⟨b, off, e, hb, hcs⟩ := hc h
    exact ⟨b, off, e, hb, fun j hj => (hW.cell (p := ⟨b, off + j, none⟩) (Nat.lt_of_lt_of_le hb hn₀)).trans (hcs j hj)⟩
  · rintro e W' ⟨he, hj | ⟨pre, hp, hj⟩⟩
    · exact ⟨he, .inl ⟨_, rfl, hj⟩⟩
    · exact ⟨he, .inr ⟨_, hp, hj⟩⟩

set_option maxRecDepth 100000 in
set_option maxHeartbeats 2000000 in
theorem appendSeq_any (Bs : Nat) (A : Option Addr) (n c : Nat) (xs : List Int) (w : World) (hBs : w.cell? ⟨Bs, 0, none⟩ = some (.slice A n c)) (h : RInts w A n c xs) (hn : n ≤ 1000000) :
    Calls Tryz.prog 160 #[.slice none 0 0, .func (.func 142) #[] #[.pointer (some ⟨Bs, 0, none⟩)]] w fun e W' => ∃ v, e = .returned v ∧ Own W' w.heap.size v xs ∧ Below w.heap.size w W' := by
  have hbs := World.block_lt_of_cell? w _ hBs
  have hlen := h.len
  have hcs : 0 < n → ∃ b off, A = some ⟨b, off, none⟩ ∧ b < w.heap.size ∧ ∀ j, j < n → w.cell? ⟨b, off + j, none⟩ = some (.int .i64 (xs.getD j 0)) := fun hp => by
    obtain ⟨b, off, e, hc⟩ := h.2.2.2.2 hp
    exact ⟨b, off, e, World.block_lt_of_cell? w _ (hc 0 hp), hc⟩
  have Hcs := hide hcs
  have Hlen := hide hlen
  clear hcs h hlen
  obtain ⟨i0, hi, hz0, hz1, hz2⟩ := info_parts info3
  refine (callsIn_wide (n := 3)).1 ?_
  refine callsIn_of_wp_marks Tryz.func160 rfl trivial ?_ rfl
  simp only [Tryz.ntmps160, List.size_toArray, List.length_cons, List.length_nil, Nat.reduceAdd, Nat.reduceSub, Array.replicate_succ, Array.replicate_zero, List.push_toArray, List.append_toArray, List.nil_append, List.cons_append]
  gi_wp2
  have bO := Boxed.new w 28 (.slice none 0 0)
  have hB0 : Below w.heap.size w (w.alloc (.cells #[.slice none 0 0] 28)) := (Below.refl _ w).alloc (Nat.le_refl _) _
  refine wpIn_rangeFunc_ownG (w0 := w) rfl (by decide) (gf := 142) (lb := #[.pointer (some ⟨Bs, 0, none⟩)]) rfl trivial (enters_of Tryz.func142 (by kernel_rfl) rfl)
    (values_stops 2 (by decide) Bs w.heap.size A n c xs w hbs (Nat.le_refl _) hBs Hlen.out Hcs.out hn) belowK_t (belowK_b (by simp)) hB0 (fun _ => rfl)
    (fun (pre : List Int) W => (∃ v, Boxed W w.heap.size 28 v ∧ W.ownsRow w.heap.size 3 1 v pre.length (pre.map (Value.int .i64)) ∧ True) ∧ Below w.heap.size w W)
    (fun _ _ _ => False)
    (OwnFrom.and (Own.from (holdsRow_own w.heap.size w.heap.size 28 3 1 (fun (pre : List Int) => pre.length) (fun (pre : List Int) => pre.map (Value.int .i64)) (fun (_ : List Int) _ => True)) _) (ownFrom_below (Nat.le_refl _) (by simp)))
    (fun _ _ _ _ _ hs _ _ => hs)
    ⟨⟨_, bO, World.ownsRow_nil _ _ _ _, trivial⟩, hB0⟩
    (fun x => { tmps := #[.slice none 0 0, .func (.func 142) #[] #[.pointer (some ⟨Bs, 0, none⟩)], .pointer (some ⟨w.heap.size, 0, none⟩), undef, .slice none 0 0, .int .i64 x, .func (.func 142) #[] #[.pointer (some ⟨Bs, 0, none⟩)], .int .i64 x, undef, undef, undef, undef, undef], defers := [] }) ?assign ?body ?done ?stop
  case assign =>
    intro l x W K hK
    gi_wp2
    exact hK
  case body =>
    rintro l pre x W ⟨⟨v, hv, hrow, -⟩, hB⟩ hlt
    have hc := hv.cell
    gi_wp2_with (gi_at_builtin; refine wpListIn_append_own _ rfl _ _ 28 rfl w.heap.size 3 i0 (.int .i64 0) 1 8 Tryz.underlying28 hi hz0 hz1 hz2 rfl (by decide) _ _ _ rfl (hrow.alloc _) ⟨W.heap.size, 0, none⟩ 1 1 [.int .i64 x] rfl rfl (cell_one_new _ _ _) (by simp [Value.oneCell']) (by unfold maxLen; omega) (by omega) (by have := hB.size; simp; omega) ?_; intro v' w1 hown' hgrow _; obtain ⟨g', cap', rfl⟩ := ownsRow_succ hown'; obtain ⟨hv1, hv2, hr2, hk2, hb2⟩ := hv.appended (by decide) hrow hB.size (Nat.le_refl _) hown' hgrow; have hc1 := hv1.cell; have hf1 := hv1.frozen)
    exact ⟨hk2.from _, hb2, ⟨_, hv2, by simpa using hr2, trivial⟩, hB.trans hb2⟩
  case done =>
    rintro D ys W hD rfl ⟨⟨v, hv, hrow, -⟩, hB⟩ hK
    have hc := hv.cell
    gi_wp2
    refine ⟨by simp, .inl ⟨_, _, rfl, run_takeDeferred hK, ?_⟩⟩
    exact ⟨_, results_tmp rfl _ _ _, v, rfl, ownsRow_putObj hrow _ hK rfl, hB.trans (belowK_b (w := w) (Nat.le_refl _) W D _ _ (by simp at hD; omega) hK rfl rfl)⟩
  case stop =>
    rintro D c pre W _ _ h _
    exact h.elim

theorem values_any (A : Option Addr) (n c : Nat) (w : World) :
    Calls Tryz.prog 114 #[.slice A n c] w fun e w' => e = .returned (.func (.func 142) #[] #[.pointer (some ⟨w.heap.size, 0, none⟩)]) ∧ w.alloc (.cells #[.slice A n c] 28) = w' := by
  go_enter Tryz.func114, Tryz.ntmps114
  go_wp2
  go_ret
  exact ⟨rfl, rfl⟩

theorem collect_any (Bs : Nat) (A : Option Addr) (n c : Nat) (xs : List Int) (w : World) (hBs : w.cell? ⟨Bs, 0, none⟩ = some (.slice A n c)) (h : RInts w A n c xs) (hn : n ≤ 1000000) :
    Calls Tryz.prog 141 #[.func (.func 142) #[] #[.pointer (some ⟨Bs, 0, none⟩)]] w fun e W' => ∃ v, e = .returned v ∧ Own W' w.heap.size v xs ∧ Below w.heap.size w W' := by
  have hcall := appendSeq_any Bs A n c xs w hBs h hn
  clear h hBs
  go_enter Tryz.func141, Tryz.ntmps141
  go_wp2_with (go_at_call 160; refine hcall.mono ?_; rintro e w' ⟨v, rfl, hO, hb⟩)
  go_ret
  exact ⟨v, rfl, hO, hb⟩

/-- What Sorted leaves: the numbers in order. -/
def SortedPost (w : World) (xs : List Int) (e : Ending) (w' : World) : Prop :=
  ∃ A c ys, e = .returned (.slice A xs.length c) ∧ Own w' w.heap.size (.slice A xs.length c) ys ∧ ys.Perm xs ∧ ys.Pairwise (· ≤ ·) ∧ Below w.heap.size w w'

set_option maxRecDepth 100000 in
theorem sorted_any (Bs : Nat) (A : Option Addr) (n c : Nat) (xs : List Int) (w : World) (hBs : w.cell? ⟨Bs, 0, none⟩ = some (.slice A n c)) (h : RInts w A n c xs) (hn : n ≤ 12) :
    Calls Tryz.prog 113 #[.func (.func 142) #[] #[.pointer (some ⟨Bs, 0, none⟩)]] w (SortedPost w xs) := by
  have hcall := collect_any Bs A n c xs w hBs h (by omega)
  have hl := hide h.len
  clear h hBs
  go_enter Tryz.func113, Tryz.ntmps113
  go_wp2_with (first
    | (go_at_call 141; refine hcall.mono ?_; rintro e w1 ⟨v, rfl, hO, hb⟩; obtain ⟨A1, c1, rfl⟩ := hO.slice)
    | (go_at_call 70; refine (sort_any w.heap.size A1 xs.length c1 xs w1 hO (by rw [hl.out]; exact hn)).mono ?_; rintro e w2 ⟨rfl, ys, hO2, hp, hs, hF⟩))
  go_ret
  exact ⟨A1, c1, ys, rfl, hO2, hp, hs, Frame'.below hb hF (fun k e => (Own.own_lt hO e.symm).1) hb.size⟩

theorem sorted_rangeI (n : Nat) : (rangeI n).Pairwise (· ≤ ·) := by
  unfold rangeI
  rw [List.pairwise_map]
  exact (List.pairwise_lt_range (n := n)).imp fun h => by omega
theorem get_rangeI {n i : Nat} (h : i < n) : (rangeI n)[i]? = some (i : Int) := by simp [rangeI, h]
theorem rangeI_succ (n : Nat) : rangeI (n + 1) = rangeI n ++ [(n : Int)] := by simp [rangeI, List.range_succ]
/-- A permutation, put in order, is the numbers from 0 on. -/
theorem turned_sorted {p ys : List Int} (hp : ys.Perm p) (hs : ys.Pairwise (· ≤ ·)) : turnedS p = true ↔ 1 ≤ p.length ∧ p.length ≤ 10 ∧ ys = rangeI p.length := by
  rw [turned_perm]
  constructor
  · rintro ⟨h1, h2, h3⟩
    exact ⟨h1, h2, List.Perm.eq_of_pairwise (fun a b _ _ h h' => Int.le_antisymm h h') hs (sorted_rangeI _) (hp.trans h3.symm)⟩
  · rintro ⟨h1, h2, rfl⟩
    exact ⟨h1, h2, hp⟩

set_option maxRecDepth 100000 in
theorem bturned_any (A : Option Addr) (n c : Nat) (p : List Int) (w : World) (h : RInts w A n c p) :
    Calls Tryz.prog 107 #[.slice A n c] w fun e w' => e = .returned (.bool (turnedS p)) ∧ Below w.heap.size w w' := by
  have hl := hide h.len
  cases hin : inR 1 11 n with
  | false =>
    have hr : Hid (turnedS p = false) := by
      unfold Hid
      rw [Bool.eq_false_iff]
      intro ht
      have := turned_perm.1 ht
      rw [hl.out] at this
      have : inR 1 11 n = true := inR_iff.2 (by omega)
      rw [hin] at this; cases this
    clear h
    go_enter Tryz.func107, Tryz.ntmps107
    go_wp2_with (go_at_call 124; refine (within8 _ _ _ _).mono ?_; rintro e w' ⟨rfl, rfl⟩; rw [hin])
    go_ret
    exact ⟨ret_b (by rw [hr.out]), Below.refl _ _⟩
  | true =>
    have hn := inR_iff.1 hin
    have hbv : Below w.heap.size w (w.alloc (.cells #[.slice A n c] 28)) := (Below.refl _ _).alloc (Nat.le_refl _) _
    have hcall := sorted_any w.heap.size A n c p (w.alloc (.cells #[.slice A n c] 28)) ((Has.new w 28 #[.slice A n c]).cell 0) (h.below hbv) (by omega)
    have hbd := hide (fun x (hx : x ∈ p) => h.bd hx)
    clear h
    go_enter Tryz.func107, Tryz.ntmps107
    go_wp2_with (first
      | (go_at_call 124; refine (within8 _ _ _ _).mono ?_; rintro e w' ⟨rfl, rfl⟩; rw [hin])
      | (go_at_call 114; refine (values_any _ _ _ _).mono ?_; rintro e w' ⟨rfl, rfl⟩)
      | (go_at_call 113; refine hcall.mono ?_; rintro e w1 ⟨A1, c1, ys, rfl, hO, hp, hs, hb⟩))
    have hb1 := Below_trans' hbv hbv.size hb
    have hr1 := hO.ints (fun x hx => hbd.out x (hp.subset hx))
    have Hp := hide hp
    have Hs := hide hs
    have hpl : Hid (1 ≤ p.length ∧ p.length ≤ 10) := by unfold Hid; rw [hl.out]; omega
    have hple : (p.length : Int) ≤ 10 := by have := hpl.out.2; omega
    clear hcall hb hbv hp hs hO hin hn
    go_loop [4, 14] (fun s4 i => ∃ t : Nat, t ≤ p.length ∧ i = .int .i64 t ∧ Hid (ys.take t = rangeI t)) (fun s4 i => p.length - (intOf i).toNat)
    case atStart => exact ⟨0, Nat.zero_le _, rfl, by simp [Hid, rangeI]⟩
    case round =>
      obtain ⟨t, ht, rfl, hpre⟩ := hrel
      by_cases hlt : t < p.length
      · obtain ⟨b, off, v, rfl, hc, hd, hat, _⟩ := hr1.step hlt
        by_cases hv : v = t
        · have hv' : (v != (t : Int)) = false := by simp [hv]
          have Hv := hide hv
          clear hv
          go_wp2
          go_round
          case rel => exact ⟨t + 1, by omega, by go_num, by unfold Hid; rw [take_succ_of hat.out, hpre.out, Hv.out, rangeI_succ]⟩
          case measure => simp [intOf] <;> omega
        · have hv' : (v != (t : Int)) = true := by simp [hv]
          have Hv := hide hv
          clear hv
          go_wp2
          go_ret
          refine ⟨ret_b ?_, hb1⟩
          refine Eq.symm (Bool.eq_false_iff.2 fun ht => Hv.out ?_)
          have e := ((turned_sorted Hp.out Hs.out).1 ht).2.2
          have h2 := hat.out
          rw [e, get_rangeI hlt] at h2
          exact (Option.some.inj h2).symm
      · have hte : t = p.length := by omega
        have hx : Hid (turnedS p = true) := by
          have h2 := hpre.out
          rw [hte, List.take_of_length_le (by rw [Hp.out.length_eq]; exact Nat.le_refl _)] at h2
          exact (turned_sorted Hp.out Hs.out).2 ⟨hpl.out.1, hpl.out.2, h2⟩
        have b2 : ¬ (t : Int) < (p.length : Int) := by omega
        clear hlt ht hte
        go_wp2
        go_ret
        exact ⟨ret_b (by rw [hx.out]), hb1⟩
end Go.Proofs.YtolbceckbnifmaaGreat
