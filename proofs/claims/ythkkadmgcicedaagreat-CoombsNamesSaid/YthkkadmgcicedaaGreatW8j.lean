/-
  The library's Values, AppendSeq, Collect, Sorted: a loop over an iterator.
-/
import Derived.Test.YthkkadmgcicedaaGreatW8i
import Derived.RangeFuncBox
import Derived.RangeFuncLeaves
import Derived.OwnWalkIn
import Derived.TacticsInMore
import Derived.LoopNIn
import Derived.LoopIn
import Derived.Maps.AppendAt
namespace Go.Proofs.YthkkadmgcicedaaGreat
open Go.RowKit Go.Proofs Go.Shelf
attribute [local go_sem] Oper.semAt_some

theorem take_succ_of {xs : List Int} {k : Nat} {x : Int} (h : xs[k]? = some x) : xs.take (k + 1) = xs.take k ++ [x] := by rw [List.take_add_one, h]; rfl

set_option maxRecDepth 100000 in
set_option maxHeartbeats 2000000 in
/-- The iterator of Values, for every loop body that keeps what lay below n₀. -/
theorem values1_in (m : Nat) (hm : 1 ≤ m) (l Bs n₀ : Nat) (A : Option Addr) (n c : Nat) (xs : List Int) (J Jx : List Int → World → Prop)
    (hY : ∀ pre x W, J pre W → pre.length < n → YieldAt Fence.wide (m - 1) Tryz.prog l #[.int .i64 x] W fun e W' =>
      (e = .returned (.bool true) ∧ J (pre ++ [x]) W' ∧ Below n₀ W W') ∨ (e = .returned (.bool false) ∧ Jx (pre ++ [x]) W'))
    (W : World) (hBs : W.cell? ⟨Bs, 0, none⟩ = some (.slice A n c)) (hlen : xs.length = n) (hc : 0 < n → ∃ b off, A = some ⟨b, off, none⟩ ∧ b < n₀ ∧ ∀ j, j < n → W.cell? ⟨b, off + j, none⟩ = some (.int .i64 (xs.getD j 0))) (hn : n ≤ 1000000) (h0 : J [] W) :
    CallsIn Fence.wide m Tryz.prog 107 #[.func (.yield l) #[] #[], .pointer (some ⟨Bs, 0, none⟩)] W fun e W' => (∃ v, e = .returned v) ∧ (J xs W' ∨ ∃ pre, pre <+: xs ∧ Jx pre W') := by
  refine callsIn_of_wp Tryz.func107 rfl trivial ?_ rfl
  simp only [Tryz.ntmps107, List.size_toArray, List.length_cons, List.length_nil, Nat.reduceAdd, Nat.reduceSub, Array.replicate_succ, Array.replicate_zero, List.push_toArray, List.append_toArray, List.nil_append, List.cons_append]
  have Hlen := hide hlen
  have Hc := hide hc
  clear hlen hc
  gi_wp2
  gi_loopw [7] (fun i wr => ∃ k : Nat, k ≤ n ∧ i = .int .i64 k ∧ Hid (J (xs.take k) wr) ∧ Hid (Below n₀ W wr))
    (fun i _ => n - (intOf i).toNat)
  case atStart => exact ⟨0, Nat.zero_le _, rfl, h0, Below.refl _ _⟩
  case round =>
    obtain ⟨k, hk, rfl, hJs, hnx⟩ := hrel
    by_cases hlt : k < n
    · obtain ⟨b, off, rfl, hb, hcell⟩ := Hc.out (by omega)
      have hcx := (hnx.out.cell (p := ⟨b, off + k, none⟩) hb).trans (hcell k hlt)
      have hxk : xs[k]? = some (xs.getD k 0) := by
        have : k < xs.length := by rw [Hlen.out]; exact hlt
        simp [List.getD, this]
      generalize xs.getD k 0 = x at hcx hxk
      have Hxk := hide hxk
      clear hcell hxk
      obtain ⟨fn, tmps, assign, body, hy, hR⟩ := hY _ x wr hJs.out (by rw [List.length_take, Hlen.out]; omega)
      gi_wp2
      refine hR.mono ?_
      rintro e W3 (⟨rfl, hJ3, hk3⟩ | ⟨rfl, hJx3⟩)
      · gi_wp2
        go_roundw
        case rel => exact ⟨k + 1, by omega, by simp, by unfold Hid; rw [take_succ_of Hxk.out]; exact hJ3, hnx.out.trans hk3⟩
        case measure => simp [intOf]; omega
      · gi_wp2
        refine bodyPost_ret (results_none rfl _ _ _) rfl ?_
        exact ⟨⟨_, rfl⟩, .inr ⟨_, by rw [← take_succ_of Hxk.out]; exact List.take_prefix _ _, hJx3⟩⟩
    · have hkn : k = n := by omega
      have hx : Hid (J xs wr) := by have := hJs.out; rwa [List.take_of_length_le (by rw [Hlen.out]; omega)] at this
      have b2 : ¬ (k : Int) < (n : Int) := by omega
      clear hlt hk
      gi_wp2
      go_end0
      exact ⟨⟨_, rfl⟩, .inl hx.out⟩

theorem values_stops (m : Nat) (hm : 1 ≤ m) (Bs n₀ : Nat) (A : Option Addr) (n c : Nat) (xs : List Int) (w : World) (hBs : Bs < w.heap.size) (hn₀ : n₀ ≤ w.heap.size) (hcell : w.cell? ⟨Bs, 0, none⟩ = some (.slice A n c)) (hlen : xs.length = n)
    (hc : 0 < n → ∃ b off, A = some ⟨b, off, none⟩ ∧ b < n₀ ∧ ∀ j, j < n → w.cell? ⟨b, off + j, none⟩ = some (.int .i64 (xs.getD j 0))) (hn : n ≤ 1000000) :
    SeqStopsK Fence.wide m Tryz.prog 107 #[.pointer (some ⟨Bs, 0, none⟩)] (fun x : Int => #[Value.int .i64 x]) (Below n₀) (fun ys => ys = xs) (fun pre => pre <+: xs) n w := fun l J Jx W hW _ _ hY h0 => by
  refine (values1_in m hm l Bs n₀ A n c xs J Jx hY W ((hW.cell (p := ⟨Bs, 0, none⟩) hBs).trans hcell) hlen (fun h => ?_) hn h0).mono ?_
  · obtain ⟨b, off, e, hb, hcs⟩ := hc h
    exact ⟨b, off, e, hb, fun j hj => (hW.cell (p := ⟨b, off + j, none⟩) (Nat.lt_of_lt_of_le hb hn₀)).trans (hcs j hj)⟩
  · rintro e W' ⟨he, hj | ⟨pre, hp, hj⟩⟩
    · exact ⟨he, .inl ⟨_, rfl, hj⟩⟩
    · exact ⟨he, .inr ⟨_, hp, hj⟩⟩

set_option maxRecDepth 100000 in
set_option maxHeartbeats 2000000 in
theorem appendSeq_any (Bs : Nat) (A : Option Addr) (n c : Nat) (xs : List Int) (w : World) (hBs : w.cell? ⟨Bs, 0, none⟩ = some (.slice A n c)) (h : RInts w A n c xs) (hn : n ≤ 1000000) :
    Calls Tryz.prog 133 #[.slice none 0 0, .func (.func 107) #[] #[.pointer (some ⟨Bs, 0, none⟩)]] w fun e W' => ∃ v, e = .returned v ∧ Own W' w.heap.size v xs ∧ Below w.heap.size w W' := by
  have hbs := World.block_lt_of_cell? w _ hBs
  have hlen := h.len
  have hcs : 0 < n → ∃ b off, A = some ⟨b, off, none⟩ ∧ b < w.heap.size ∧ ∀ j, j < n → w.cell? ⟨b, off + j, none⟩ = some (.int .i64 (xs.getD j 0)) := fun hp => by
    obtain ⟨b, off, e, hc⟩ := h.2.2.2.2 hp
    exact ⟨b, off, e, World.block_lt_of_cell? w _ (hc 0 hp), hc⟩
  have Hcs := hide hcs
  have Hlen := hide hlen
  clear hcs h hlen
  obtain ⟨i0, hi, hz0, hz1, hz2⟩ := info_parts info3
  refine (callsIn_wide (n := 3)).1 ?_
  refine callsIn_of_wp_marks Tryz.func133 rfl trivial ?_ rfl
  simp only [Tryz.ntmps133, List.size_toArray, List.length_cons, List.length_nil, Nat.reduceAdd, Nat.reduceSub, Array.replicate_succ, Array.replicate_zero, List.push_toArray, List.append_toArray, List.nil_append, List.cons_append]
  gi_wp2
  have bO := Boxed.new w 25 (.slice none 0 0)
  have hB0 : Below w.heap.size w (w.alloc (.cells #[.slice none 0 0] 25)) := (Below.refl _ w).alloc (Nat.le_refl _) _
  refine wpIn_rangeFunc_ownG (w0 := w) rfl (by decide) (gf := 107) (lb := #[.pointer (some ⟨Bs, 0, none⟩)]) rfl trivial (enters_of Tryz.func107 (by kernel_rfl) rfl)
    (values_stops 2 (by decide) Bs w.heap.size A n c xs w hbs (Nat.le_refl _) hBs Hlen.out Hcs.out hn) belowK_t (belowK_b (by simp)) hB0 (fun _ => rfl)
    (fun (pre : List Int) W => (∃ v, Boxed W w.heap.size 25 v ∧ W.ownsRow w.heap.size 3 1 v pre.length (pre.map (Value.int .i64)) ∧ True) ∧ Below w.heap.size w W)
    (fun _ _ _ => False)
    (OwnFrom.and (Own.from (holdsRow_own w.heap.size w.heap.size 25 3 1 (fun (pre : List Int) => pre.length) (fun (pre : List Int) => pre.map (Value.int .i64)) (fun (_ : List Int) _ => True)) _) (ownFrom_below (Nat.le_refl _) (by simp)))
    (fun _ _ _ _ _ hs _ _ => hs)
    ⟨⟨_, bO, World.ownsRow_nil _ _ _ _, trivial⟩, hB0⟩
    (fun x => { tmps := #[.slice none 0 0, .func (.func 107) #[] #[.pointer (some ⟨Bs, 0, none⟩)], .pointer (some ⟨w.heap.size, 0, none⟩), undef, .slice none 0 0, .int .i64 x, .func (.func 107) #[] #[.pointer (some ⟨Bs, 0, none⟩)], .int .i64 x, undef, undef, undef, undef, undef], defers := [] }) ?assign ?body ?done ?stop
  case assign =>
    intro l x W K hK
    gi_wp2
    exact hK
  case body =>
    rintro l pre x W ⟨⟨v, hv, hrow, -⟩, hB⟩ hlt
    have hc := hv.cell
    gi_wp2_with (gi_at_builtin; refine wpListIn_append_own _ rfl _ _ 25 rfl w.heap.size 3 i0 (.int .i64 0) 1 8 Tryz.underlying25 hi hz0 hz1 hz2 rfl (by decide) _ _ _ rfl (hrow.alloc _) ⟨W.heap.size, 0, none⟩ 1 1 [.int .i64 x] rfl rfl (cell_one_new _ _ _) (by simp [Value.oneCell']) (by unfold maxLen; omega) (by omega) (by have := hB.size; simp; omega) ?_; intro v' w1 hown' hgrow _; obtain ⟨g', cap', rfl⟩ := ownsRow_succ hown'; obtain ⟨hv1, hv2, hr2, hk2, hb2⟩ := hv.appended (by decide) hrow hB.size (Nat.le_refl _) hown' hgrow; have hc1 := hv1.cell; have hf1 := hv1.frozen)
    exact ⟨hk2.from _, hb2, ⟨_, hv2, by simpa using hr2, trivial⟩, hB.trans hb2⟩
  case done =>
    rintro D ys W hD rfl ⟨⟨v, hv, hrow, -⟩, hB⟩ hK
    have hc := hv.cell
    gi_wp2
    refine ⟨by simp, .inl ⟨_, _, rfl, run_takeDeferred hK, ?_⟩⟩
    exact ⟨_, results_tmp rfl _ _ _, v, rfl, ownsRow_putObj hrow _ hK rfl, hB.trans (belowK_b (w := w) (Nat.le_refl _) W D _ _ (by simp at hD; omega) hK rfl rfl)⟩
  case stop =>
    rintro D c pre W _ _ h _
    exact h.elim

theorem values_any (A : Option Addr) (n c : Nat) (w : World) :
    Calls Tryz.prog 88 #[.slice A n c] w fun e w' => e = .returned (.func (.func 107) #[] #[.pointer (some ⟨w.heap.size, 0, none⟩)]) ∧ w.alloc (.cells #[.slice A n c] 25) = w' := by
  go_enter Tryz.func88, Tryz.ntmps88
  go_wp2
  go_ret
  exact ⟨rfl, rfl⟩

theorem collect_any (Bs : Nat) (A : Option Addr) (n c : Nat) (xs : List Int) (w : World) (hBs : w.cell? ⟨Bs, 0, none⟩ = some (.slice A n c)) (h : RInts w A n c xs) (hn : n ≤ 1000000) :
    Calls Tryz.prog 106 #[.func (.func 107) #[] #[.pointer (some ⟨Bs, 0, none⟩)]] w fun e W' => ∃ v, e = .returned v ∧ Own W' w.heap.size v xs ∧ Below w.heap.size w W' := by
  have hcall := appendSeq_any Bs A n c xs w hBs h hn
  clear h hBs
  go_enter Tryz.func106, Tryz.ntmps106
  go_wp2_with (go_at_call 133; refine hcall.mono ?_; rintro e w' ⟨v, rfl, hO, hb⟩)
  go_ret
  exact ⟨v, rfl, hO, hb⟩

/-- What Sorted leaves: the numbers in order. -/
def SortedPost (w : World) (xs : List Int) (e : Ending) (w' : World) : Prop :=
  ∃ A c ys, e = .returned (.slice A xs.length c) ∧ Own w' w.heap.size (.slice A xs.length c) ys ∧ ys.Perm xs ∧ ys.Pairwise (· ≤ ·) ∧ Below w.heap.size w w'

set_option maxRecDepth 100000 in
theorem sorted_any (Bs : Nat) (A : Option Addr) (n c : Nat) (xs : List Int) (w : World) (hBs : w.cell? ⟨Bs, 0, none⟩ = some (.slice A n c)) (h : RInts w A n c xs) (hn : n ≤ 12) :
    Calls Tryz.prog 87 #[.func (.func 107) #[] #[.pointer (some ⟨Bs, 0, none⟩)]] w (SortedPost w xs) := by
  have hcall := collect_any Bs A n c xs w hBs h (by omega)
  have hl := hide h.len
  clear h hBs
  go_enter Tryz.func87, Tryz.ntmps87
  go_wp2_with (first
    | (go_at_call 106; refine hcall.mono ?_; rintro e w1 ⟨v, rfl, hO, hb⟩; obtain ⟨A1, c1, rfl⟩ := hO.slice)
    | (go_at_call 75; refine (sort_any w.heap.size A1 xs.length c1 xs w1 hO (by rw [hl.out]; exact hn)).mono ?_; rintro e w2 ⟨rfl, ys, hO2, hp, hs, hF⟩))
  go_ret
  exact ⟨A1, c1, ys, rfl, hO2, hp, hs, Frame'.below hb hF (fun k e => (Own.own_lt hO e.symm).1) hb.size⟩

theorem sorted_rangeI (n : Nat) : (rangeI n).Pairwise (· ≤ ·) := by
  unfold rangeI
  rw [List.pairwise_map]
  exact (List.pairwise_lt_range (n := n)).imp fun h => by omega
theorem get_rangeI {n i : Nat} (h : i < n) : (rangeI n)[i]? = some (i : Int) := by simp [rangeI, h]
theorem rangeI_succ (n : Nat) : rangeI (n + 1) = rangeI n ++ [(n : Int)] := by simp [rangeI, List.range_succ]
/-- A permutation, put in order, is the numbers from 0 on. -/
theorem turned_sorted {p ys : List Int} (hp : ys.Perm p) (hs : ys.Pairwise (· ≤ ·)) : turnedS p = true ↔ 1 ≤ p.length ∧ p.length ≤ 10 ∧ ys = rangeI p.length := by
  rw [turned_perm]
  constructor
  · rintro ⟨h1, h2, h3⟩
    exact ⟨h1, h2, List.Perm.eq_of_pairwise (fun a b _ _ h h' => Int.le_antisymm h h') hs (sorted_rangeI _) (hp.trans h3.symm)⟩
  · rintro ⟨h1, h2, rfl⟩
    exact ⟨h1, h2, hp⟩

set_option maxRecDepth 100000 in
theorem bturned_any (A : Option Addr) (n c : Nat) (p : List Int) (w : World) (h : RInts w A n c p) :
    Calls Tryz.prog 73 #[.slice A n c] w fun e w' => e = .returned (.bool (turnedS p)) ∧ Below w.heap.size w w' := by
  have hl := hide h.len
  cases hin : inR 1 11 n with
  | false =>
    have hr : Hid (turnedS p = false) := by
      unfold Hid
      rw [Bool.eq_false_iff]
      intro ht
      have := turned_perm.1 ht
      rw [hl.out] at this
      have : inR 1 11 n = true := inR_iff.2 (by omega)
      rw [hin] at this; cases this
    clear h
    go_enter Tryz.func73, Tryz.ntmps73
    go_wp2_with (go_at_call 65; refine (within8 _ _ _ _).mono ?_; rintro e w' ⟨rfl, rfl⟩; rw [hin])
    go_ret
    exact ⟨ret_b (by rw [hr.out]), Below.refl _ _⟩
  | true =>
    have hn := inR_iff.1 hin
    have hbv : Below w.heap.size w (w.alloc (.cells #[.slice A n c] 25)) := (Below.refl _ _).alloc (Nat.le_refl _) _
    have hcall := sorted_any w.heap.size A n c p (w.alloc (.cells #[.slice A n c] 25)) ((Has.new w 25 #[.slice A n c]).cell 0) (h.below hbv) (by omega)
    have hbd := hide (fun x (hx : x ∈ p) => h.bd hx)
    clear h
    go_enter Tryz.func73, Tryz.ntmps73
    go_wp2_with (first
      | (go_at_call 65; refine (within8 _ _ _ _).mono ?_; rintro e w' ⟨rfl, rfl⟩; rw [hin])
      | (go_at_call 88; refine (values_any _ _ _ _).mono ?_; rintro e w' ⟨rfl, rfl⟩)
      | (go_at_call 87; refine hcall.mono ?_; rintro e w1 ⟨A1, c1, ys, rfl, hO, hp, hs, hb⟩))
    have hb1 := Below_trans' hbv hbv.size hb
    have hr1 := hO.ints (fun x hx => hbd.out x (hp.subset hx))
    have Hp := hide hp
    have Hs := hide hs
    have hpl : Hid (1 ≤ p.length ∧ p.length ≤ 10) := by unfold Hid; rw [hl.out]; omega
    have hple : (p.length : Int) ≤ 10 := by have := hpl.out.2; omega
    clear hcall hb hbv hp hs hO hin hn
    go_loop [4, 14] (fun s4 i => ∃ t : Nat, t ≤ p.length ∧ i = .int .i64 t ∧ Hid (ys.take t = rangeI t)) (fun s4 i => p.length - (intOf i).toNat)
    case atStart => exact ⟨0, Nat.zero_le _, rfl, by simp [Hid, rangeI]⟩
    case round =>
      obtain ⟨t, ht, rfl, hpre⟩ := hrel
      by_cases hlt : t < p.length
      · obtain ⟨b, off, v, rfl, hc, hd, hat, _⟩ := hr1.step hlt
        by_cases hv : v = t
        · have hv' : (v != (t : Int)) = false := by simp [hv]
          have Hv := hide hv
          clear hv
          go_wp2
          go_round
          case rel => exact ⟨t + 1, by omega, by go_num, by unfold Hid; rw [take_succ_of hat.out, hpre.out, Hv.out, rangeI_succ]⟩
          case measure => simp [intOf] <;> omega
        · have hv' : (v != (t : Int)) = true := by simp [hv]
          have Hv := hide hv
          clear hv
          go_wp2
          go_ret
          refine ⟨ret_b ?_, hb1⟩
          refine Eq.symm (Bool.eq_false_iff.2 fun ht => Hv.out ?_)
          have e := ((turned_sorted Hp.out Hs.out).1 ht).2.2
          have h2 := hat.out
          rw [e, get_rangeI hlt] at h2
          exact (Option.some.inj h2).symm
      · have hte : t = p.length := by omega
        have hx : Hid (turnedS p = true) := by
          have h2 := hpre.out
          rw [hte, List.take_of_length_le (by rw [Hp.out.length_eq]; exact Nat.le_refl _)] at h2
          exact (turned_sorted Hp.out Hs.out).2 ⟨hpl.out.1, hpl.out.2, h2⟩
        have b2 : ¬ (t : Int) < (p.length : Int) := by omega
        clear hlt ht hte
        go_wp2
        go_ret
        exact ⟨ret_b (by rw [hx.out]), hb1⟩
end Go.Proofs.YthkkadmgcicedaaGreat
