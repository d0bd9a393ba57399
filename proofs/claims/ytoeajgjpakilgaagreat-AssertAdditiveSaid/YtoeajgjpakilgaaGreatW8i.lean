/-
  The library's Sort, of twelve numbers at most.
  The library's Values, AppendSeq, Collect, Sorted: a loop over an iterator.
-/
import Derived.Test.YtoeajgjpakilgaaGreatW8f
import Derived.RangeFuncBox
import Derived.RangeFuncLeaves
import Derived.OwnWalkIn
import Derived.TacticsInMore
import Derived.LoopNIn
import Derived.LoopIn
import Derived.Maps.AppendAt
namespace Go.Proofs.YtoeajgjpakilgaaGreat
open Go.RowKit Go.Proofs Go.Shelf
attribute [local go_sem] cell?_more cell?_alloc_some cell?_setCell_far frozen?_alloc_some frozen?_more
/-- What an in-place sort leaves. -/
def SortPost (w : World) (B : Nat) (v : Value) (xs : List Int) (e : Ending) (w' : World) : Prop :=
  e = .returned (.tuple #[]) ∧ ∃ ys, Own w' B v ys ∧ ys.Perm xs ∧ ys.Pairwise (· ≤ ·) ∧ Frame' (fun b => some b = v.ownBlock) w w'

/-- A place of a slice that is owned. -/
theorem Own.at {w : World} {B n c g : Nat} {ys : List Int} (h : Own w B (.slice (some ⟨g, 0, none⟩) n c) ys) (hl : ys.length = n) {j : Nat} (hj : j < n) : ∃ v, Hid (ys[j]? = some v) ∧ w.cell? ⟨g, j, none⟩ = some (.int .i64 v) ∧ w.frozen? ⟨g, j, none⟩ = false := by
  have hown : w.ownsRow B 3 1 (.slice (some ⟨g, 0, none⟩) n c) n (ys.map (Value.int .i64)) := by have := h; unfold Own at this; rwa [hl] at this
  have he := List.getElem?_eq_getElem (show j < ys.length by omega)
  exact ⟨_, he, by rw [hown.cellAt j (by omega), List.getElem?_map, he]; rfl, hown.frozenAt j⟩
theorem Own.set {w : World} {B n c g : Nat} {ys : List Int} (h : Own w B (.slice (some ⟨g, 0, none⟩) n c) ys) (hl : ys.length = n) (j : Nat) (v : Int) : Own (w.setCell ⟨g, j, none⟩ (.int .i64 v)) B (.slice (some ⟨g, 0, none⟩) n c) (ys.set j v) := by
  have hown : w.ownsRow B 3 1 (.slice (some ⟨g, 0, none⟩) n c) n (ys.map (Value.int .i64)) := by have := h; unfold Own at this; rwa [hl] at this
  unfold Own
  rw [List.length_set, hl, List.map_set]
  exact (hown.stored j _).1

end Go.Proofs.YtoeajgjpakilgaaGreat

namespace Go.Proofs.YtoeajgjpakilgaaGreat
open Go.RowKit Go.Proofs Go.Shelf
attribute [local go_sem] Oper.semAt_some
theorem take_succ_of {xs : List Int} {k : Nat} {x : Int} (h : xs[k]? = some x) : xs.take (k + 1) = xs.take k ++ [x] := by rw [List.take_add_one, h]; rfl

set_option maxRecDepth 100000 in
set_option maxHeartbeats 2000000 in
/-- The iterator of Values, for every loop body that keeps what lay below n₀. -/
theorem values1_in (m : Nat) (hm : 1 ≤ m) (l Bs n₀ : Nat) (A : Option Addr) (n c : Nat) (xs : List Int) (J Jx : List Int → World → Prop)
    (hY : ∀ pre x W, J pre W → pre.length < n → YieldAt Fence.wide (m - 1) Tryz.prog l #[.int .i64 x] W fun e W' =>
      (e = .returned (.bool true) ∧ J (pre ++ [x]) W' ∧ Below n₀ W W') ∨ (e = .returned (.bool false) ∧ Jx (pre ++ [x]) W'))
    (W : World) (hBs : W.cell? ⟨Bs, 0, none⟩ = some (.slice A n c)) (hlen : xs.length = n) (hc : 0 < n → ∃ b off, A = some ⟨b, off, none⟩ ∧ b < n₀ ∧ ∀ j, j < n → W.cell? ⟨b, off + j, none⟩ = some (.int .i64 (xs.getD j 0))) (hn : n ≤ 1000000) (h0 : J [] W) :
    CallsIn Fence.wide m Tryz.prog 61 #[.func (.yield l) #[] #[], .pointer (some ⟨Bs, 0, none⟩)] W fun e W' => (∃ v, e = .returned v) ∧ (J xs W' ∨ ∃ pre, pre <+: xs ∧ Jx pre W') := by
  refine callsIn_of_wp Tryz.func61 rfl trivial ?_ rfl
  simp only [Tryz.ntmps61, List.size_toArray, List.length_cons, List.length_nil, Nat.reduceAdd, Nat.reduceSub, Array.replicate_succ, Array.replicate_zero, List.push_toArray, List.append_toArray, List.nil_append, List.cons_append]
  have Hlen := hide hlen
  have Hc := hide hc
  clear hlen hc
  gi_wp2
  gi_loopw [7] (fun i wr => ∃ k : Nat, k ≤ n ∧ i = .int .i64 k ∧ Hid (J (xs.take k) wr) ∧ Hid (Below n₀ W wr))
    (fun i _ => n - (intOf i).toNat)
  case atStart => exact ⟨0, Nat.zero_le _, rfl, h0, Below.refl _ _⟩
  case round =>
    obtain ⟨k, hk, rfl, hJs, hnx⟩ := hrel
    by_cases hlt : k < n
    · obtain ⟨b, off, rfl, hb, hcell⟩ := Hc.out (by omega)
      have hcx := (hnx.out.cell (p := ⟨b, off + k, none⟩) hb).trans (hcell k hlt)
      have hxk : xs[k]? = some (xs.getD k 0) := by
        have : k < xs.length := by rw [Hlen.out]; exact hlt
        simp [List.getD, this]
      generalize xs.getD k 0 = x at hcx hxk
      have Hxk := hide hxk
      clear hcell hxk
      obtain ⟨fn, tmps, assign, body, hy, hR⟩ := hY _ x wr hJs.out (by rw [List.length_take, Hlen.out]; omega)
      gi_wp2
      refine hR.mono ?_
      rintro e W3 (⟨rfl, hJ3, hk3⟩ | ⟨rfl, hJx3⟩)
      · gi_wp2
        go_roundw
        case rel => exact ⟨k + 1, by omega, by simp, by unfold Hid; rw [take_succ_of Hxk.out]; exact hJ3, hnx.out.trans hk3⟩
        case measure => simp [intOf]; omega
      · gi_wp2
        refine bodyPost_ret (results_none rfl _ _ _) rfl ?_
        exact ⟨⟨_, rfl⟩, .inr ⟨_, by rw [← take_succ_of Hxk.out]; exact List.take_prefix _ _, hJx3⟩⟩
    · have hkn : k = n := by omega
      have hx : Hid (J xs wr) := by have := hJs.out; rwa [List.take_of_length_le (by rw [Hlen.out]; omega)] at this
      have b2 : ¬ (k : Int) < (n : Int) := by omega
      clear hlt hk
      gi_wp2
      go_end0
      exact ⟨⟨_, rfl⟩, .inl hx.out⟩

theorem values_stops (m : Nat) (hm : 1 ≤ m) (Bs n₀ : Nat) (A : Option Addr) (n c : Nat) (xs : List Int) (w : World) (hBs : Bs < w.heap.size) (hn₀ : n₀ ≤ w.heap.size) (hcell : w.cell? ⟨Bs, 0, none⟩ = some (.slice A n c)) (hlen : xs.length = n)
    (hc : 0 < n → ∃ b off, A = some ⟨b, off, none⟩ ∧ b < n₀ ∧ ∀ j, j < n → w.cell? ⟨b, off + j, none⟩ = some (.int .i64 (xs.getD j 0))) (hn : n ≤ 1000000) :
    SeqStopsK Fence.wide m Tryz.prog 61 #[.pointer (some ⟨Bs, 0, none⟩)] (fun x : Int => #[Value.int .i64 x]) (Below n₀) (fun ys => ys = xs) (fun pre => pre <+: xs) n w := fun l J Jx W hW _ _ hY h0 => by
  refine (values1_in m hm l Bs n₀ A n c xs J Jx hY W ((hW.cell (p := ⟨Bs, 0, none⟩) hBs).trans hcell) hlen (fun h => ?_) hn h0).mono ?_
  · obtain ⟨b, off, e, hb, hcs⟩ := hc h
    exact ⟨b, off, e, hb, fun j hj => (hW.cell (p := ⟨b, off + j, none⟩) (Nat.lt_of_lt_of_le hb hn₀)).trans (hcs j hj)⟩
  · rintro e W' ⟨he, hj | ⟨pre, hp, hj⟩⟩
    · exact ⟨he, .inl ⟨_, rfl, hj⟩⟩
    · exact ⟨he, .inr ⟨_, hp, hj⟩⟩

set_option maxRecDepth 100000 in
set_option maxHeartbeats 2000000 in
theorem appendSeq_any (Bs : Nat) (A : Option Addr) (n c : Nat) (xs : List Int) (w : World) (hBs : w.cell? ⟨Bs, 0, none⟩ = some (.slice A n c)) (h : RInts w A n c xs) (hn : n ≤ 1000000) :
    Calls Tryz.prog 77 #[.slice none 0 0, .func (.func 61) #[] #[.pointer (some ⟨Bs, 0, none⟩)]] w fun e W' => ∃ v, e = .returned v ∧ Own W' w.heap.size v xs ∧ Below w.heap.size w W' := by
  have hbs := World.block_lt_of_cell? w _ hBs
  have hlen := h.len
  have hcs : 0 < n → ∃ b off, A = some ⟨b, off, none⟩ ∧ b < w.heap.size ∧ ∀ j, j < n → w.cell? ⟨b, off + j, none⟩ = some (.int .i64 (xs.getD j 0)) := fun hp => by
    obtain ⟨b, off, e, hc⟩ := h.2.2.2.2 hp
    exact ⟨b, off, e, World.block_lt_of_cell? w _ (hc 0 hp), hc⟩
  have Hcs := hide hcs
  have Hlen := hide hlen
  clear hcs h hlen
  obtain ⟨i0, hi, hz0, hz1, hz2⟩ := info_parts info3
  refine (callsIn_wide (n := 3)).1 ?_
  refine callsIn_of_wp_marks Tryz.func77 rfl trivial ?_ rfl
  simp only [Tryz.ntmps77, List.size_toArray, List.length_cons, List.length_nil, Nat.reduceAdd, Nat.reduceSub, Array.replicate_succ, Array.replicate_zero, List.push_toArray, List.append_toArray, List.nil_append, List.cons_append]
  gi_wp2
  have bO := Boxed.new w 22 (.slice none 0 0)
  have hB0 : Below w.heap.size w (w.alloc (.cells #[.slice none 0 0] 22)) := (Below.refl _ w).alloc (Nat.le_refl _) _
  refine wpIn_rangeFunc_ownG (w0 := w) rfl (by decide) (gf := 61) (lb := #[.pointer (some ⟨Bs, 0, none⟩)]) rfl trivial (enters_of Tryz.func61 (by kernel_rfl) rfl)
    (values_stops 2 (by decide) Bs w.heap.size A n c xs w hbs (Nat.le_refl _) hBs Hlen.out Hcs.out hn) belowK_t (belowK_b (by simp)) hB0 (fun _ => rfl)
    (fun (pre : List Int) W => (∃ v, Boxed W w.heap.size 22 v ∧ W.ownsRow w.heap.size 3 1 v pre.length (pre.map (Value.int .i64)) ∧ True) ∧ Below w.heap.size w W)
    (fun _ _ _ => False)
    (OwnFrom.and (Own.from (holdsRow_own w.heap.size w.heap.size 22 3 1 (fun (pre : List Int) => pre.length) (fun (pre : List Int) => pre.map (Value.int .i64)) (fun (_ : List Int) _ => True)) _) (ownFrom_below (Nat.le_refl _) (by simp)))
    (fun _ _ _ _ _ hs _ _ => hs)
    ⟨⟨_, bO, World.ownsRow_nil _ _ _ _, trivial⟩, hB0⟩
    (fun x => { tmps := #[.slice none 0 0, .func (.func 61) #[] #[.pointer (some ⟨Bs, 0, none⟩)], .pointer (some ⟨w.heap.size, 0, none⟩), undef, .slice none 0 0, .int .i64 x, .func (.func 61) #[] #[.pointer (some ⟨Bs, 0, none⟩)], .int .i64 x, undef, undef, undef, undef, undef], defers := [] }) ?assign ?body ?done ?stop
  case assign =>
    intro l x W K hK
    gi_wp2
    exact hK
  case body =>
    rintro l pre x W ⟨⟨v, hv, hrow, -⟩, hB⟩ hlt
    have hc := hv.cell
    gi_wp2_with (gi_at_builtin; refine wpListIn_append_own _ rfl _ _ 22 rfl w.heap.size 3 i0 (.int .i64 0) 1 8 Tryz.underlying22 hi hz0 hz1 hz2 rfl (by decide) _ _ _ rfl (hrow.alloc _) ⟨W.heap.size, 0, none⟩ 1 1 [.int .i64 x] rfl rfl (cell_one_new _ _ _) (by simp [Value.oneCell']) (by unfold maxLen; omega) (by omega) (by have := hB.size; simp; omega) ?_; intro v' w1 hown' hgrow _; obtain ⟨g', cap', rfl⟩ := ownsRow_succ hown'; obtain ⟨hv1, hv2, hr2, hk2, hb2⟩ := hv.appended (by decide) hrow hB.size (Nat.le_refl _) hown' hgrow; have hc1 := hv1.cell; have hf1 := hv1.frozen)
    exact ⟨hk2.from _, hb2, ⟨_, hv2, by simpa using hr2, trivial⟩, hB.trans hb2⟩
  case done =>
    rintro D ys W hD rfl ⟨⟨v, hv, hrow, -⟩, hB⟩ hK
    have hc := hv.cell
    gi_wp2
    refine ⟨by simp, .inl ⟨_, _, rfl, run_takeDeferred hK, ?_⟩⟩
    exact ⟨_, results_tmp rfl _ _ _, v, rfl, ownsRow_putObj hrow _ hK rfl, hB.trans (belowK_b (w := w) (Nat.le_refl _) W D _ _ (by simp at hD; omega) hK rfl rfl)⟩
  case stop =>
    rintro D c pre W _ _ h _
    exact h.elim

theorem values_any (A : Option Addr) (n c : Nat) (w : World) :
    Calls Tryz.prog 29 #[.slice A n c] w fun e w' => e = .returned (.func (.func 61) #[] #[.pointer (some ⟨w.heap.size, 0, none⟩)]) ∧ w.alloc (.cells #[.slice A n c] 22) = w' := by
  go_enter Tryz.func29, Tryz.ntmps29
  go_wp2
  go_ret
  exact ⟨rfl, rfl⟩

theorem collect_any (Bs : Nat) (A : Option Addr) (n c : Nat) (xs : List Int) (w : World) (hBs : w.cell? ⟨Bs, 0, none⟩ = some (.slice A n c)) (h : RInts w A n c xs) (hn : n ≤ 1000000) :
    Calls Tryz.prog 59 #[.func (.func 61) #[] #[.pointer (some ⟨Bs, 0, none⟩)]] w fun e W' => ∃ v, e = .returned v ∧ Own W' w.heap.size v xs ∧ Below w.heap.size w W' := by
  have hcall := appendSeq_any Bs A n c xs w hBs h hn
  clear h hBs
  go_enter Tryz.func59, Tryz.ntmps59
  go_wp2_with (go_at_call 77; refine hcall.mono ?_; rintro e w' ⟨v, rfl, hO, hb⟩)
  go_ret
  exact ⟨v, rfl, hO, hb⟩

/-- What Sorted leaves: the numbers in order. -/
def SortedPost (w : World) (xs : List Int) (e : Ending) (w' : World) : Prop :=
  ∃ A c ys, e = .returned (.slice A xs.length c) ∧ Own w' w.heap.size (.slice A xs.length c) ys ∧ ys.Perm xs ∧ ys.Pairwise (· ≤ ·) ∧ Below w.heap.size w w'

theorem rangeI_succ (n : Nat) : rangeI (n + 1) = rangeI n ++ [(n : Int)] := by simp [rangeI, List.range_succ]
end Go.Proofs.YtoeajgjpakilgaaGreat
