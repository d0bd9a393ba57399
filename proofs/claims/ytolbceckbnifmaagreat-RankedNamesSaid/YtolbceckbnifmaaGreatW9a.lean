/-
  The layer profile: all (a predicate over the rows), of, New, Check.
  The layer profile: of, New, Check.
  The layer profile: Check; the reference: Sums, Check.
  The reference's profiles: Sums, Check.
-/
import Derived.Test.YtolbceckbnifmaaGreatW8e
import Derived.Test.YtolbceckbnifmaaGreatSpecA
import Derived.StillTailTactics
import Derived.Deep.Cut
namespace Go.Proofs.YtolbceckbnifmaaGreat
open Go.RowKit Go.Proofs
attribute [local go_sem] cell?_more cell?_alloc_some

/-- What 'all' leaves: its answer; if it is yes, the invariant at the end; if it is no, what the predicate left. -/
def AllPost (n : Nat) (p : Nat → Bool) (Inv : Nat → World → Prop) (Fin : World → Prop) (e : Ending) (w' : World) : Prop :=
  e = .returned (.bool (allN n p)) ∧ (allN n p = true → Inv n w') ∧ (allN n p = false → Fin w')

/-- What the predicate number i leaves. -/
def OnePost (i : Nat) (p : Nat → Bool) (Inv : Nat → World → Prop) (Fin : World → Prop) (e : Ending) (w' : World) : Prop :=
  e = .returned (.bool (p i)) ∧ (p i = true → Inv (i + 1) w') ∧ (p i = false → Fin w')

set_option maxRecDepth 100000 in
set_option maxHeartbeats 1000000 in
theorem all_check (A : Option Addr) (n c : Nat) (l : List Row) (cb : Array Value) (p : Nat → Bool) (Inv : Nat → World → Prop) (Fin : World → Prop) (w w0 : World)
    (hr : RRows w0 A n c l) (h0 : Inv 0 w) (hrows : ∀ i W, Inv i W → Below w0.heap.size w0 W) (hkeep : ∀ i W W', Inv i W → Below W.heap.size W W' → Inv i W')
    (hone : ∀ i W Am nm cm Al nl cl ms ml y yl, i < n → Inv i W → l[i - 1]? = some (ml, yl) → l[i]? = some (ms, y) → (-9223372036854775808 ≤ y ∧ y ≤ 9223372036854775807) → RInts w0 Al nl cl ml → RInts w0 Am nm cm ms →
      Calls Tryz.prog 95 (#[.agg #[.slice Al nl cl, .int .i64 yl], .agg #[.slice Am nm cm, .int .i64 y]] ++ cb) W (OnePost i p Inv Fin)) :
    Calls Tryz.prog 94 #[.slice A n c, .func (.func 95) #[] cb] w (AllPost n p Inv Fin) := by
  have hn := hr.le
  have H0 := hide h0
  have HR := hide hrows
  have HK := hide hkeep
  have HO := hide hone
  clear h0 hrows hkeep hone
  go_enter Tryz.func94, Tryz.ntmps94
  go_wp2
  go_loopw [9] (fun i wr => ∃ k : Nat, k ≤ n ∧ i = .int .i64 k ∧ Hid (∀ j, j < k → p j = true) ∧ Hid (Inv k wr)) (fun i _ => n - (intOf i).toNat)
  case atStart => exact ⟨0, Nat.zero_le _, rfl, fun j hj => absurd hj (by omega), H0.out⟩
  case round =>
    obtain ⟨k, hk, rfl, hp, hI⟩ := hrel
    by_cases hlt : k < n
    · have hB := HR.out k wr hI.out
      obtain ⟨b, off, Am, nm, cm, ms, y, e0, hc0, hm0, hc1, hd, hat, hy⟩ := hr.step hlt
      obtain ⟨b', off', Al, nl, cl, ml, yl, e1, hc0', hm0', hc1', hd', hat', hy'⟩ := hr.step (k := k - 1) (by omega)
      subst e0
      cases e1
      have hc0 := keep_cell hB hc0
      have hc1 := keep_cell hB hc1
      have hc0' := keep_cell hB hc0'
      have hc1' := keep_cell hB hc1'
      have b1 : (0 : Int) ≤ (k : Int) := by omega
      have b2 : (k : Int) < (n : Int) := by omega
      by_cases hk0 : k = 0
      · have b5 : ((k : Int) - 1 < 0) = True := eq_true (by omega)
        have e1 : IntKind.i64.wrap ((k : Int) - 1) = (k : Int) - 1 := IntWalk.i64_in _ (by omega)
        have hn0 : 0 < n := by omega
        have Hk0 := hide hk0
        clear hk0
        go_wp2
        obtain ⟨W, hW⟩ : ∃ W, W = wr.alloc (.cells #[.slice Am nm cm, .int .i64 y] 80) := ⟨_, rfl⟩
        rw [← hW]
        have hbW : Below wr.heap.size wr W := by rw [hW]; exact (Below.refl _ _).alloc (Nat.le_refl _) _
        have hwW : Has W wr.heap.size 80 #[.slice Am nm cm, .int .i64 y] := by rw [hW]; exact Has.new _ _ _
        clear hW
        have k0 := keep_cell hbW hc0
        have k1 := keep_cell hbW hc1
        have k2 := keep_cell hbW hc0'
        have k3 := keep_cell hbW hc1'
        have k4 : W.cell? ⟨wr.heap.size, 0, none⟩ = some (.slice Am nm cm) := hwW.cell 0
        have k5 : W.cell? ⟨wr.heap.size, 1, none⟩ = some (.int .i64 y) := hwW.cell 1
        rw [show k - 1 = 0 by have := Hk0.out; omega] at k2 k3; simp only [Nat.zero_mul, Nat.add_zero] at k2 k3
        refine wp_region_still_tail 8 (by kernel_rfl) (by kernel_rfl) ?_
        simp only [List.take_succ_cons, List.take_zero, List.drop_succ_cons, List.drop_zero]
        change wpStill _ _ W.drew _ _ _
        still_step
        still_step
        still_step
        still_step
        still_step
        still_step
        still_step
        still_step
        refine wpStill_nil ?_
        have hIW := hide (HK.out k wr W.drew hI.out hbW.drew)
        have hbD : Below wr.heap.size wr W.drew := hbW.drew
        have hcon := hide (HO.out k W.drew Am nm cm Al nl cl ms ml y yl hlt hIW.out hat'.out hat.out hy hm0' hm0)
        by_cases hpk : p k = true
        · have Hpk := hide hpk
          clear hpk
          go_wp2_with fail
          refine (hcon.out).mono ?_
          rintro e w2 ⟨he, h1, h2⟩
          rw [Hpk.out] at he
          subst he
          have H1 := hide (h1 Hpk.out)
          clear h1 h2
          go_wp2
          go_roundw
          case rel => exact ⟨k + 1, by omega, by go_num, fun j hj => by
            by_cases ej : j = k
            · rw [ej]; exact Hpk.out
            · exact hp.out j (by omega), H1.out⟩
          case measure => simp [intOf] <;> omega
        · have Hpk := hide (Bool.eq_false_iff.2 hpk)
          clear hpk
          go_wp2_with fail
          refine (hcon.out).mono ?_
          rintro e w2 ⟨he, h1, h2⟩
          rw [Hpk.out] at he
          subst he
          have H2 := hide (h2 Hpk.out)
          clear h1 h2
          go_wp2
          go_ret
          exact ⟨ret_b (allN_false hlt Hpk.out).symm, (fun h => by rw [allN_false hlt Hpk.out] at h; cases h), fun _ => H2.out⟩
      · have b5 : ((k : Int) - 1 < 0) = False := eq_false (by omega)
        have b3 : (1 : Int) ≤ (k : Int) := by omega
        have b4 : (k : Int) - 1 < (n : Int) := by omega
        have e1 : IntKind.i64.wrap ((k : Int) - 1) = (k : Int) - 1 := IntWalk.i64_in _ (by omega)
        have e2 : ((k : Int) - 1).toNat = k - 1 := by omega
        go_wp2
        obtain ⟨W, hW⟩ : ∃ W, W = wr.alloc (.cells #[.slice Am nm cm, .int .i64 y] 80) := ⟨_, rfl⟩
        rw [← hW]
        have hbW : Below wr.heap.size wr W := by rw [hW]; exact (Below.refl _ _).alloc (Nat.le_refl _) _
        have hwW : Has W wr.heap.size 80 #[.slice Am nm cm, .int .i64 y] := by rw [hW]; exact Has.new _ _ _
        clear hW
        have k0 := keep_cell hbW hc0
        have k1 := keep_cell hbW hc1
        have k2 := keep_cell hbW hc0'
        have k3 := keep_cell hbW hc1'
        have k4 : W.cell? ⟨wr.heap.size, 0, none⟩ = some (.slice Am nm cm) := hwW.cell 0
        have k5 : W.cell? ⟨wr.heap.size, 1, none⟩ = some (.int .i64 y) := hwW.cell 1
        skip
        refine wp_region_still_tail 8 (by kernel_rfl) (by kernel_rfl) ?_
        simp only [List.take_succ_cons, List.take_zero, List.drop_succ_cons, List.drop_zero]
        change wpStill _ _ W.drew _ _ _
        still_step
        still_step
        still_step
        still_step
        still_step
        still_step
        still_step
        still_step
        refine wpStill_nil ?_
        have hIW := hide (HK.out k wr W.drew hI.out hbW.drew)
        have hbD : Below wr.heap.size wr W.drew := hbW.drew
        have hcon := hide (HO.out k W.drew Am nm cm Al nl cl ms ml y yl hlt hIW.out hat'.out hat.out hy hm0' hm0)
        by_cases hpk : p k = true
        · have Hpk := hide hpk
          clear hpk
          go_wp2_with fail
          refine (hcon.out).mono ?_
          rintro e w2 ⟨he, h1, h2⟩
          rw [Hpk.out] at he
          subst he
          have H1 := hide (h1 Hpk.out)
          clear h1 h2
          go_wp2
          go_roundw
          case rel => exact ⟨k + 1, by omega, by go_num, fun j hj => by
            by_cases ej : j = k
            · rw [ej]; exact Hpk.out
            · exact hp.out j (by omega), H1.out⟩
          case measure => simp [intOf] <;> omega
        · have Hpk := hide (Bool.eq_false_iff.2 hpk)
          clear hpk
          go_wp2_with fail
          refine (hcon.out).mono ?_
          rintro e w2 ⟨he, h1, h2⟩
          rw [Hpk.out] at he
          subst he
          have H2 := hide (h2 Hpk.out)
          clear h1 h2
          go_wp2
          go_ret
          exact ⟨ret_b (allN_false hlt Hpk.out).symm, (fun h => by rw [allN_false hlt Hpk.out] at h; cases h), fun _ => H2.out⟩
    · obtain rfl : k = n := by omega
      have hat : allN k p = true := allN_true.2 hp.out
      have Hat := hide hat
      clear hat
      go_wp2
      go_ret
      exact ⟨ret_b Hat.out.symm, fun _ => hI.out, fun h => by rw [Hat.out] at h; cases h⟩
end Go.Proofs.YtolbceckbnifmaaGreat

namespace Go.Proofs.YtolbceckbnifmaaGreat
open Go.RowKit Go.Proofs
attribute [local go_sem] cell?_more cell?_alloc_some cell?_setCell_far frozen?_alloc_some frozen?_more

theorem of_any (c k : Int) (A : Option Addr) (n cp : Nat) (Am : Option Addr) (nm cm : Nat) (y : Int) (w : World) :
    Calls Tryz.prog 98 #[.agg #[.int .i64 c, .int .u8 k, .slice A n cp], .agg #[.slice Am nm cm, .int .i64 y]] w fun e w' => e = .returned (.agg #[.int .u8 k, .slice Am nm cm]) ∧ Below w.heap.size w w' := by
  go_enter Tryz.func98, Tryz.ntmps98
  go_wp2
  exact bodyPost_ret (v := .agg #[.int .u8 k, .slice Am nm cm]) (by simp [results, Tryz.results98, go_sem]) rfl ⟨rfl, ((((Below.refl _ _).alloc (Nat.le_refl _) _).alloc (by simp) _).alloc (by simp; omega) _)⟩

/-- What New hands back. -/
def newV (c k : Int) : Value := if newErr c k = 0 then .agg #[.int .i64 c, .int .u8 k, .slice none 0 0] else .agg #[.int .i64 0, .int .u8 0, .slice none 0 0]

theorem new_any (c k : Int) (w : World) :
    Calls Tryz.prog 99 #[.int .i64 c, .int .u8 k] w fun e w' => e = .returned (.tuple #[newV c k, .int .i64 (newErr c k)]) ∧ Below w.heap.size w w' := by
  have hb := ((Below.refl w.heap.size w).alloc (Nat.le_refl _) (.cells #[.int .i64 0, .int .u8 0, .slice none 0 0] 27))
  by_cases h : newErr c k = 0
  · have h' := h
    unfold newErr at h'
    have h1 : ¬ (c < 1) := by intro hh; rw [if_pos (by omega)] at h'; cases h'
    have h2 : ¬ (10 < c) := by intro hh; rw [if_pos (by omega)] at h'; cases h'
    have h3 : ¬ (k < 1) := by intro hh; rw [if_pos (by omega)] at h'; cases h'
    have h4 : ¬ (3 < k) := by intro hh; rw [if_pos (by omega)] at h'; cases h'
    have H := hide h
    clear h h'
    go_enter Tryz.func99, Tryz.ntmps99
    go_wp2
    refine bodyPost_ret (v := .tuple #[.agg #[.int .i64 c, .int .u8 k, .slice none 0 0], .int .i64 0]) (by simp [results, Tryz.results99, go_sem]) rfl ⟨by unfold newV; rw [if_pos H.out, H.out], ?_⟩
    exact (Below.refl _ _).alloc (Nat.le_refl _) _
  · have H := hide h
    have hc := newErr_bad.1 h
    clear h
    have he : Hid (newErr c k = 2) := by unfold Hid newErr; rw [if_pos hc]
    by_cases h1 : c < 1
    · clear hc
      go_enter Tryz.func99, Tryz.ntmps99
      go_wp2
      refine bodyPost_ret (v := .tuple #[.agg #[.int .i64 0, .int .u8 0, .slice none 0 0], .int .i64 2]) (by simp [results, Tryz.results99, go_sem]) rfl ⟨by unfold newV; rw [if_neg H.out, he.out], ?_⟩
      exact (Below.refl _ _).alloc (Nat.le_refl _) _
    by_cases h2 : 10 < c
    · clear hc
      go_enter Tryz.func99, Tryz.ntmps99
      go_wp2
      refine bodyPost_ret (v := .tuple #[.agg #[.int .i64 0, .int .u8 0, .slice none 0 0], .int .i64 2]) (by simp [results, Tryz.results99, go_sem]) rfl ⟨by unfold newV; rw [if_neg H.out, he.out], ?_⟩
      exact (Below.refl _ _).alloc (Nat.le_refl _) _
    by_cases h3 : k < 1
    · clear hc
      go_enter Tryz.func99, Tryz.ntmps99
      go_wp2
      refine bodyPost_ret (v := .tuple #[.agg #[.int .i64 0, .int .u8 0, .slice none 0 0], .int .i64 2]) (by simp [results, Tryz.results99, go_sem]) rfl ⟨by unfold newV; rw [if_neg H.out, he.out], ?_⟩
      exact (Below.refl _ _).alloc (Nat.le_refl _) _
    have h4 : 3 < k := by omega
    clear hc
    go_enter Tryz.func99, Tryz.ntmps99
    go_wp2
    refine bodyPost_ret (v := .tuple #[.agg #[.int .i64 0, .int .u8 0, .slice none 0 0], .int .i64 2]) (by simp [results, Tryz.results99, go_sem]) rfl ⟨by unfold newV; rw [if_neg H.out, he.out], ?_⟩
    exact (Below.refl _ _).alloc (Nat.le_refl _) _

theorem rnew_any (c k : Int) (w : World) :
    Calls Tryz.prog 120 #[.int .i64 c, .int .u8 k] w fun e w' => e = .returned (.tuple #[newV c k, .int .i64 (newErr c k)]) ∧ Below w.heap.size w w' := by
  have hb := ((Below.refl w.heap.size w).alloc (Nat.le_refl _) (.cells #[.int .i64 0, .int .u8 0, .slice none 0 0] 27))
  by_cases h : newErr c k = 0
  · have h' := h
    unfold newErr at h'
    have h1 : ¬ (c < 1) := by intro hh; rw [if_pos (by omega)] at h'; cases h'
    have h2 : ¬ (10 < c) := by intro hh; rw [if_pos (by omega)] at h'; cases h'
    have h3 : ¬ (k < 1) := by intro hh; rw [if_pos (by omega)] at h'; cases h'
    have h4 : ¬ (3 < k) := by intro hh; rw [if_pos (by omega)] at h'; cases h'
    have H := hide h
    clear h h'
    go_enter Tryz.func120, Tryz.ntmps120
    go_wp2
    refine bodyPost_ret (v := .tuple #[.agg #[.int .i64 c, .int .u8 k, .slice none 0 0], .int .i64 0]) (by simp [results, Tryz.results120, go_sem]) rfl ⟨by unfold newV; rw [if_pos H.out, H.out], ?_⟩
    exact (Below.refl _ _).alloc (Nat.le_refl _) _
  · have H := hide h
    have hc := newErr_bad.1 h
    clear h
    have he : Hid (newErr c k = 2) := by unfold Hid newErr; rw [if_pos hc]
    by_cases h1 : c < 1
    · clear hc
      go_enter Tryz.func120, Tryz.ntmps120
      go_wp2
      refine bodyPost_ret (v := .tuple #[.agg #[.int .i64 0, .int .u8 0, .slice none 0 0], .int .i64 2]) (by simp [results, Tryz.results120, go_sem]) rfl ⟨by unfold newV; rw [if_neg H.out, he.out], ?_⟩
      exact (Below.refl _ _).alloc (Nat.le_refl _) _
    by_cases h2 : 10 < c
    · clear hc
      go_enter Tryz.func120, Tryz.ntmps120
      go_wp2
      refine bodyPost_ret (v := .tuple #[.agg #[.int .i64 0, .int .u8 0, .slice none 0 0], .int .i64 2]) (by simp [results, Tryz.results120, go_sem]) rfl ⟨by unfold newV; rw [if_neg H.out, he.out], ?_⟩
      exact (Below.refl _ _).alloc (Nat.le_refl _) _
    by_cases h3 : k < 1
    · clear hc
      go_enter Tryz.func120, Tryz.ntmps120
      go_wp2
      refine bodyPost_ret (v := .tuple #[.agg #[.int .i64 0, .int .u8 0, .slice none 0 0], .int .i64 2]) (by simp [results, Tryz.results120, go_sem]) rfl ⟨by unfold newV; rw [if_neg H.out, he.out], ?_⟩
      exact (Below.refl _ _).alloc (Nat.le_refl _) _
    have h4 : 3 < k := by omega
    clear hc
    go_enter Tryz.func120, Tryz.ntmps120
    go_wp2
    refine bodyPost_ret (v := .tuple #[.agg #[.int .i64 0, .int .u8 0, .slice none 0 0], .int .i64 2]) (by simp [results, Tryz.results120, go_sem]) rfl ⟨by unfold newV; rw [if_neg H.out, he.out], ?_⟩
    exact (Below.refl _ _).alloc (Nat.le_refl _) _

/-- What holds before the predicate of Check is asked of row i: the blocks of the profile, of the sum, of 'first'. -/
def CInv (w : World) (g : Nat) (c k : Int) (A : Option Addr) (n cp : Nat) (l : List Row) (i : Nat) (W : World) : Prop :=
  Below g w W ∧ Has W g 27 #[.int .i64 c, .int .u8 k, .slice A n cp] ∧ Has W (g + 1) 3 #[.int .i64 (capS l i)] ∧ Has W (g + 2) 4 #[.bool (decide (i = 0))] ∧
    (∀ j, j < i → 0 < (l.getD j ([], 0)).2)
def CFin (w : World) (g : Nat) (c k : Int) (A : Option Addr) (n cp : Nat) (W : World) : Prop :=
  Below g w W ∧ Has W g 27 #[.int .i64 c, .int .u8 k, .slice A n cp]

set_option maxHeartbeats 1000000 in
theorem check1_any (w : World) (c k : Int) (A : Option Addr) (n cp : Nat) (l : List Row) (i : Nat) (W : World) (Am : Option Addr) (nm cm : Nat) (Al : Option Addr) (nl cl : Nat) (ms ml : List Int) (y yl : Int)
    (hln : l.length = n) (hi : i < n) (hI : CInv w w.heap.size c k A n cp l i W) (hl : l[i - 1]? = some (ml, yl)) (hm : l[i]? = some (ms, y)) (hy : -9223372036854775808 ≤ y ∧ y ≤ 9223372036854775807)
    (hr0 : RInts w Al nl cl ml) (hr0' : RInts w Am nm cm ms) :
    Calls Tryz.prog 95 (#[.agg #[.slice Al nl cl, .int .i64 yl], .agg #[.slice Am nm cm, .int .i64 y]] ++ #[.pointer (some ⟨w.heap.size + 2, 0, none⟩), .pointer (some ⟨w.heap.size + 1, 0, none⟩), .pointer (some ⟨w.heap.size, 0, none⟩)]) W
      (OnePost i (rowOK c k l) (CInv w w.heap.size c k A n cp l) (CFin w w.heap.size c k A n cp)) := by
  obtain ⟨hb, hP, hS, hF, hpos⟩ := hI
  have hr := hr0.below hb
  have hr' := hr0'.below hb
  have p0 : W.cell? ⟨w.heap.size, 0, none⟩ = some (.int .i64 c) := hP.cell 0
  have p1 : W.cell? ⟨w.heap.size, 1, none⟩ = some (.int .u8 k) := hP.cell 1
  have p2 : W.cell? ⟨w.heap.size, 2, none⟩ = some (.slice A n cp) := hP.cell 2
  have s0 : W.cell? ⟨w.heap.size + 1, 0, none⟩ = some (.int .i64 (capS l i)) := hS.cell 0
  have f0 : W.cell? ⟨w.heap.size + 2, 0, none⟩ = some (.bool (decide (i = 0))) := hF.cell 0
  have fs := hS.free 0
  have ff := hF.free 0
  have hlt := hF.lt
  have hq1 : w.heap.size + 1 < W.heap.size := by omega
  have hq0 : w.heap.size < W.heap.size := by omega
  have hln' : i < l.length := by omega
  have hT := totS_nn (n := i) hpos (by omega)
  have hcap := capS_bd hT
  have hnext := hide (fun (h0 : 0 < y) => @capS_next l i (ms, y) hm h0 hT)
  have hrow := hide (rowOK_eq (c := c) (k := k) hl hm)
  have hpos' := hide hpos
  have hm' := hide hm
  generalize hSS : capS l i = S at *
  clear hSS hpos hT hm hl hln'
  by_cases hi0 : i = 0
  · have f0' : W.cell? ⟨w.heap.size + 2, 0, none⟩ = some (.bool true) := by rw [f0, hi0]; rfl
    have Hi0 := hide hi0
    have hfst : Hid ((decide (i = 0) || decide (cmpL ml ms < 0)) = true) := by unfold Hid; rw [hi0]; simp
    clear f0 hi0
    go_enter Tryz.func95, Tryz.ntmps95
    go_upto_region 3 with (fail)
    generalize hW1 : World.alloc _ _ = W1
    have hb1 : Below W.heap.size W W1 := by rw [← hW1]; exact ((Below.refl _ _).alloc (Nat.le_refl _) _).alloc (by simp) _
    have hR1 : Has W1 (W.heap.size + 1) 80 #[.slice Am nm cm, .int .i64 y] := by rw [← hW1]; exact Has.new2 _ _ _ _
    clear hW1
    have hP1 := hP.below hb1 hq0
    have hS1 := hS.below hb1 hq1
    have hF1 := hF.below hb1 hlt
    have hr1 := hr'.below hb1
    have hbb1 := Below_trans' hb hb.size hb1
    have hz1 := hb1.size
    have s1 : W1.cell? ⟨w.heap.size + 1, 0, none⟩ = some (.int .i64 S) := hS1.cell 0
    have f1 := hF1.cell 0
    have t0 : W1.cell? ⟨W.heap.size + 1, 0, none⟩ = some (.slice Am nm cm) := hR1.cell 0
    have t1 : W1.cell? ⟨W.heap.size + 1, 1, none⟩ = some (.int .i64 y) := hR1.cell 1
    have fs1 := hS1.free 0
    have ff1 := hF1.free 0
    have ne1 : W.heap.size + 1 ≠ w.heap.size + 2 := by omega
    have ne2 : W.heap.size + 1 ≠ w.heap.size + 1 := by omega
    clear p0 p1 p2 s0 fs ff
    by_cases y0 : 0 < y
    · by_cases c1 : 1000001 < y
      · by_cases c2 : 1000001 < S + 1000001
        · go_upto_region 5 with (fail)
          generalize hW2 : World.setCell _ _ _ = W2
          have hP2 : Has W2 w.heap.size 27 #[.int .i64 c, .int .u8 k, .slice A n cp] := by
            rw [← hW2]; exact (hP1.far (by show w.heap.size ≠ w.heap.size + 2; omega) _).far (by show w.heap.size ≠ w.heap.size + 1; omega) _
          have hS2 : Has W2 (w.heap.size + 1) 3 #[.int .i64 1000001] := by
            rw [← hW2]; exact (hS1.far (by show w.heap.size + 1 ≠ w.heap.size + 2; omega) _).put 0 _
          have hF2 : Has W2 (w.heap.size + 2) 4 #[.bool false] := by
            rw [← hW2]; exact (hF1.put 0 _).far (by show w.heap.size + 2 ≠ w.heap.size + 1; omega) _
          have hR2 : Has W2 (W.heap.size + 1) 80 #[.slice Am nm cm, .int .i64 y] := by
            rw [← hW2]; exact (hR1.far ne1 _).far ne2 _
          have hbb2 : Below w.heap.size w W2 := by
            rw [← hW2]; exact (hbb1.setCell (by show w.heap.size ≤ w.heap.size + 2; omega) _).setCell (by show w.heap.size ≤ w.heap.size + 1; omega) _
          clear hW2
          have hr2 := hr0'.below hbb2
          have p0 : W2.cell? ⟨w.heap.size, 0, none⟩ = some (.int .i64 c) := hP2.cell 0
          have p1 : W2.cell? ⟨w.heap.size, 1, none⟩ = some (.int .u8 k) := hP2.cell 1
          have p2 : W2.cell? ⟨w.heap.size, 2, none⟩ = some (.slice A n cp) := hP2.cell 2
          have t0 : W2.cell? ⟨W.heap.size + 1, 0, none⟩ = some (.slice Am nm cm) := hR2.cell 0
          have t1 : W2.cell? ⟨W.heap.size + 1, 1, none⟩ = some (.int .i64 y) := hR2.cell 1
          have g1 : decide (0 < y) = true := by simpa using y0
          by_cases hbc : bcheckS k ms c = 0
          · have g2 : (bcheckS k ms c == 0) = true := by simpa using hbc
            have Hbc := hide hbc
            clear hbc
            refine wp_region_more (by kernel_rfl) (by kernel_rfl) ?_
            repeat (go_big_quiet_step ((first | (go_at_call 98; exact more_of (of_any _ _ _ _ _ _ _ _ _ _)) | (go_at_call 97; exact more_of (bcheck_any _ _ _ _ ms _ _ (hr2.more _))))))
            refine wpQuiet_nil ?_
            rintro w3 ⟨qw3, hww3⟩
            have hbw3 := below_of_eq hww3
            clear hww3 qw3
            go_wp2
            go_ret
            have hro : rowOK c k l i = true := by rw [hrow.out, hfst.out, g1]; simp [Hbc.out]
            refine ⟨ret_b (by rw [hro]), fun _ => ⟨Below_trans' hbb2 hbb2.size hbw3, hP2.below hbw3 hP2.lt, ?_, ?_, ?_⟩, fun h => by rw [hro] at h; cases h⟩
            · rw [← hnext.out y0 (v := 1000001) (by show 1000001 = if 1000001 < S + y then 1000001 else S + y; split <;> omega)]
              exact hS2.below hbw3 hS2.lt
            · exact hF2.below hbw3 hF2.lt
            · intro j hj
              by_cases ej : j = i
              · rw [ej, getD_of hm'.out]; exact y0
              · exact hpos'.out j (by omega)
          · have g2 : (bcheckS k ms c == 0) = false := by simpa using hbc
            have Hbc := hide hbc
            clear hbc
            refine wp_region_more (by kernel_rfl) (by kernel_rfl) ?_
            repeat (go_big_quiet_step ((first | (go_at_call 98; exact more_of (of_any _ _ _ _ _ _ _ _ _ _)) | (go_at_call 97; exact more_of (bcheck_any _ _ _ _ ms _ _ (hr2.more _))))))
            refine wpQuiet_nil ?_
            rintro w3 ⟨qw3, hww3⟩
            have hbw3 := below_of_eq hww3
            clear hww3 qw3
            go_wp2
            go_ret
            have hro : rowOK c k l i = false := by rw [hrow.out]; simp [Hbc.out]
            exact ⟨ret_b (by rw [hro]), (fun h => by rw [hro] at h; cases h), fun _ => ⟨Below_trans' hbb2 hbb2.size hbw3, hP2.below hbw3 hP2.lt⟩⟩
        · go_upto_region 5 with (fail)
          generalize hW2 : World.setCell _ _ _ = W2
          have hP2 : Has W2 w.heap.size 27 #[.int .i64 c, .int .u8 k, .slice A n cp] := by
            rw [← hW2]; exact (hP1.far (by show w.heap.size ≠ w.heap.size + 2; omega) _).far (by show w.heap.size ≠ w.heap.size + 1; omega) _
          have hS2 : Has W2 (w.heap.size + 1) 3 #[.int .i64 (S + 1000001)] := by
            rw [← hW2]; exact (hS1.far (by show w.heap.size + 1 ≠ w.heap.size + 2; omega) _).put 0 _
          have hF2 : Has W2 (w.heap.size + 2) 4 #[.bool false] := by
            rw [← hW2]; exact (hF1.put 0 _).far (by show w.heap.size + 2 ≠ w.heap.size + 1; omega) _
          have hR2 : Has W2 (W.heap.size + 1) 80 #[.slice Am nm cm, .int .i64 y] := by
            rw [← hW2]; exact (hR1.far ne1 _).far ne2 _
          have hbb2 : Below w.heap.size w W2 := by
            rw [← hW2]; exact (hbb1.setCell (by show w.heap.size ≤ w.heap.size + 2; omega) _).setCell (by show w.heap.size ≤ w.heap.size + 1; omega) _
          clear hW2
          have hr2 := hr0'.below hbb2
          have p0 : W2.cell? ⟨w.heap.size, 0, none⟩ = some (.int .i64 c) := hP2.cell 0
          have p1 : W2.cell? ⟨w.heap.size, 1, none⟩ = some (.int .u8 k) := hP2.cell 1
          have p2 : W2.cell? ⟨w.heap.size, 2, none⟩ = some (.slice A n cp) := hP2.cell 2
          have t0 : W2.cell? ⟨W.heap.size + 1, 0, none⟩ = some (.slice Am nm cm) := hR2.cell 0
          have t1 : W2.cell? ⟨W.heap.size + 1, 1, none⟩ = some (.int .i64 y) := hR2.cell 1
          have g1 : decide (0 < y) = true := by simpa using y0
          by_cases hbc : bcheckS k ms c = 0
          · have g2 : (bcheckS k ms c == 0) = true := by simpa using hbc
            have Hbc := hide hbc
            clear hbc
            refine wp_region_more (by kernel_rfl) (by kernel_rfl) ?_
            repeat (go_big_quiet_step ((first | (go_at_call 98; exact more_of (of_any _ _ _ _ _ _ _ _ _ _)) | (go_at_call 97; exact more_of (bcheck_any _ _ _ _ ms _ _ (hr2.more _))))))
            refine wpQuiet_nil ?_
            rintro w3 ⟨qw3, hww3⟩
            have hbw3 := below_of_eq hww3
            clear hww3 qw3
            go_wp2
            go_ret
            have hro : rowOK c k l i = true := by rw [hrow.out, hfst.out, g1]; simp [Hbc.out]
            refine ⟨ret_b (by rw [hro]), fun _ => ⟨Below_trans' hbb2 hbb2.size hbw3, hP2.below hbw3 hP2.lt, ?_, ?_, ?_⟩, fun h => by rw [hro] at h; cases h⟩
            · rw [← hnext.out y0 (v := (S + 1000001)) (by show (S + 1000001) = if 1000001 < S + y then 1000001 else S + y; split <;> omega)]
              exact hS2.below hbw3 hS2.lt
            · exact hF2.below hbw3 hF2.lt
            · intro j hj
              by_cases ej : j = i
              · rw [ej, getD_of hm'.out]; exact y0
              · exact hpos'.out j (by omega)
          · have g2 : (bcheckS k ms c == 0) = false := by simpa using hbc
            have Hbc := hide hbc
            clear hbc
            refine wp_region_more (by kernel_rfl) (by kernel_rfl) ?_
            repeat (go_big_quiet_step ((first | (go_at_call 98; exact more_of (of_any _ _ _ _ _ _ _ _ _ _)) | (go_at_call 97; exact more_of (bcheck_any _ _ _ _ ms _ _ (hr2.more _))))))
            refine wpQuiet_nil ?_
            rintro w3 ⟨qw3, hww3⟩
            have hbw3 := below_of_eq hww3
            clear hww3 qw3
            go_wp2
            go_ret
            have hro : rowOK c k l i = false := by rw [hrow.out]; simp [Hbc.out]
            exact ⟨ret_b (by rw [hro]), (fun h => by rw [hro] at h; cases h), fun _ => ⟨Below_trans' hbb2 hbb2.size hbw3, hP2.below hbw3 hP2.lt⟩⟩
      · by_cases c2 : 1000001 < S + y
        · go_upto_region 5 with (fail)
          generalize hW2 : World.setCell _ _ _ = W2
          have hP2 : Has W2 w.heap.size 27 #[.int .i64 c, .int .u8 k, .slice A n cp] := by
            rw [← hW2]; exact (hP1.far (by show w.heap.size ≠ w.heap.size + 2; omega) _).far (by show w.heap.size ≠ w.heap.size + 1; omega) _
          have hS2 : Has W2 (w.heap.size + 1) 3 #[.int .i64 1000001] := by
            rw [← hW2]; exact (hS1.far (by show w.heap.size + 1 ≠ w.heap.size + 2; omega) _).put 0 _
          have hF2 : Has W2 (w.heap.size + 2) 4 #[.bool false] := by
            rw [← hW2]; exact (hF1.put 0 _).far (by show w.heap.size + 2 ≠ w.heap.size + 1; omega) _
          have hR2 : Has W2 (W.heap.size + 1) 80 #[.slice Am nm cm, .int .i64 y] := by
            rw [← hW2]; exact (hR1.far ne1 _).far ne2 _
          have hbb2 : Below w.heap.size w W2 := by
            rw [← hW2]; exact (hbb1.setCell (by show w.heap.size ≤ w.heap.size + 2; omega) _).setCell (by show w.heap.size ≤ w.heap.size + 1; omega) _
          clear hW2
          have hr2 := hr0'.below hbb2
          have p0 : W2.cell? ⟨w.heap.size, 0, none⟩ = some (.int .i64 c) := hP2.cell 0
          have p1 : W2.cell? ⟨w.heap.size, 1, none⟩ = some (.int .u8 k) := hP2.cell 1
          have p2 : W2.cell? ⟨w.heap.size, 2, none⟩ = some (.slice A n cp) := hP2.cell 2
          have t0 : W2.cell? ⟨W.heap.size + 1, 0, none⟩ = some (.slice Am nm cm) := hR2.cell 0
          have t1 : W2.cell? ⟨W.heap.size + 1, 1, none⟩ = some (.int .i64 y) := hR2.cell 1
          have g1 : decide (0 < y) = true := by simpa using y0
          by_cases hbc : bcheckS k ms c = 0
          · have g2 : (bcheckS k ms c == 0) = true := by simpa using hbc
            have Hbc := hide hbc
            clear hbc
            refine wp_region_more (by kernel_rfl) (by kernel_rfl) ?_
            repeat (go_big_quiet_step ((first | (go_at_call 98; exact more_of (of_any _ _ _ _ _ _ _ _ _ _)) | (go_at_call 97; exact more_of (bcheck_any _ _ _ _ ms _ _ (hr2.more _))))))
            refine wpQuiet_nil ?_
            rintro w3 ⟨qw3, hww3⟩
            have hbw3 := below_of_eq hww3
            clear hww3 qw3
            go_wp2
            go_ret
            have hro : rowOK c k l i = true := by rw [hrow.out, hfst.out, g1]; simp [Hbc.out]
            refine ⟨ret_b (by rw [hro]), fun _ => ⟨Below_trans' hbb2 hbb2.size hbw3, hP2.below hbw3 hP2.lt, ?_, ?_, ?_⟩, fun h => by rw [hro] at h; cases h⟩
            · rw [← hnext.out y0 (v := 1000001) (by show 1000001 = if 1000001 < S + y then 1000001 else S + y; split <;> omega)]
              exact hS2.below hbw3 hS2.lt
            · exact hF2.below hbw3 hF2.lt
            · intro j hj
              by_cases ej : j = i
              · rw [ej, getD_of hm'.out]; exact y0
              · exact hpos'.out j (by omega)
          · have g2 : (bcheckS k ms c == 0) = false := by simpa using hbc
            have Hbc := hide hbc
            clear hbc
            refine wp_region_more (by kernel_rfl) (by kernel_rfl) ?_
            repeat (go_big_quiet_step ((first | (go_at_call 98; exact more_of (of_any _ _ _ _ _ _ _ _ _ _)) | (go_at_call 97; exact more_of (bcheck_any _ _ _ _ ms _ _ (hr2.more _))))))
            refine wpQuiet_nil ?_
            rintro w3 ⟨qw3, hww3⟩
            have hbw3 := below_of_eq hww3
            clear hww3 qw3
            go_wp2
            go_ret
            have hro : rowOK c k l i = false := by rw [hrow.out]; simp [Hbc.out]
            exact ⟨ret_b (by rw [hro]), (fun h => by rw [hro] at h; cases h), fun _ => ⟨Below_trans' hbb2 hbb2.size hbw3, hP2.below hbw3 hP2.lt⟩⟩
        · go_upto_region 5 with (fail)
          generalize hW2 : World.setCell _ _ _ = W2
          have hP2 : Has W2 w.heap.size 27 #[.int .i64 c, .int .u8 k, .slice A n cp] := by
            rw [← hW2]; exact (hP1.far (by show w.heap.size ≠ w.heap.size + 2; omega) _).far (by show w.heap.size ≠ w.heap.size + 1; omega) _
          have hS2 : Has W2 (w.heap.size + 1) 3 #[.int .i64 (S + y)] := by
            rw [← hW2]; exact (hS1.far (by show w.heap.size + 1 ≠ w.heap.size + 2; omega) _).put 0 _
          have hF2 : Has W2 (w.heap.size + 2) 4 #[.bool false] := by
            rw [← hW2]; exact (hF1.put 0 _).far (by show w.heap.size + 2 ≠ w.heap.size + 1; omega) _
          have hR2 : Has W2 (W.heap.size + 1) 80 #[.slice Am nm cm, .int .i64 y] := by
            rw [← hW2]; exact (hR1.far ne1 _).far ne2 _
          have hbb2 : Below w.heap.size w W2 := by
            rw [← hW2]; exact (hbb1.setCell (by show w.heap.size ≤ w.heap.size + 2; omega) _).setCell (by show w.heap.size ≤ w.heap.size + 1; omega) _
          clear hW2
          have hr2 := hr0'.below hbb2
          have p0 : W2.cell? ⟨w.heap.size, 0, none⟩ = some (.int .i64 c) := hP2.cell 0
          have p1 : W2.cell? ⟨w.heap.size, 1, none⟩ = some (.int .u8 k) := hP2.cell 1
          have p2 : W2.cell? ⟨w.heap.size, 2, none⟩ = some (.slice A n cp) := hP2.cell 2
          have t0 : W2.cell? ⟨W.heap.size + 1, 0, none⟩ = some (.slice Am nm cm) := hR2.cell 0
          have t1 : W2.cell? ⟨W.heap.size + 1, 1, none⟩ = some (.int .i64 y) := hR2.cell 1
          have g1 : decide (0 < y) = true := by simpa using y0
          by_cases hbc : bcheckS k ms c = 0
          · have g2 : (bcheckS k ms c == 0) = true := by simpa using hbc
            have Hbc := hide hbc
            clear hbc
            refine wp_region_more (by kernel_rfl) (by kernel_rfl) ?_
            repeat (go_big_quiet_step ((first | (go_at_call 98; exact more_of (of_any _ _ _ _ _ _ _ _ _ _)) | (go_at_call 97; exact more_of (bcheck_any _ _ _ _ ms _ _ (hr2.more _))))))
            refine wpQuiet_nil ?_
            rintro w3 ⟨qw3, hww3⟩
            have hbw3 := below_of_eq hww3
            clear hww3 qw3
            go_wp2
            go_ret
            have hro : rowOK c k l i = true := by rw [hrow.out, hfst.out, g1]; simp [Hbc.out]
            refine ⟨ret_b (by rw [hro]), fun _ => ⟨Below_trans' hbb2 hbb2.size hbw3, hP2.below hbw3 hP2.lt, ?_, ?_, ?_⟩, fun h => by rw [hro] at h; cases h⟩
            · rw [← hnext.out y0 (v := (S + y)) (by show (S + y) = if 1000001 < S + y then 1000001 else S + y; split <;> omega)]
              exact hS2.below hbw3 hS2.lt
            · exact hF2.below hbw3 hF2.lt
            · intro j hj
              by_cases ej : j = i
              · rw [ej, getD_of hm'.out]; exact y0
              · exact hpos'.out j (by omega)
          · have g2 : (bcheckS k ms c == 0) = false := by simpa using hbc
            have Hbc := hide hbc
            clear hbc
            refine wp_region_more (by kernel_rfl) (by kernel_rfl) ?_
            repeat (go_big_quiet_step ((first | (go_at_call 98; exact more_of (of_any _ _ _ _ _ _ _ _ _ _)) | (go_at_call 97; exact more_of (bcheck_any _ _ _ _ ms _ _ (hr2.more _))))))
            refine wpQuiet_nil ?_
            rintro w3 ⟨qw3, hww3⟩
            have hbw3 := below_of_eq hww3
            clear hww3 qw3
            go_wp2
            go_ret
            have hro : rowOK c k l i = false := by rw [hrow.out]; simp [Hbc.out]
            exact ⟨ret_b (by rw [hro]), (fun h => by rw [hro] at h; cases h), fun _ => ⟨Below_trans' hbb2 hbb2.size hbw3, hP2.below hbw3 hP2.lt⟩⟩
    · have c1 : ¬ 1000001 < y := by omega
      have c2 : ¬ 1000001 < S + y := by omega
      go_upto_region 5 with (fail)
      generalize hW2 : World.setCell _ _ _ = W2
      have hP2 : Has W2 w.heap.size 27 #[.int .i64 c, .int .u8 k, .slice A n cp] := by
        rw [← hW2]; exact (hP1.far (by show w.heap.size ≠ w.heap.size + 2; omega) _).far (by show w.heap.size ≠ w.heap.size + 1; omega) _
      have hS2 : Has W2 (w.heap.size + 1) 3 #[.int .i64 (S + y)] := by
        rw [← hW2]; exact (hS1.far (by show w.heap.size + 1 ≠ w.heap.size + 2; omega) _).put 0 _
      have hF2 : Has W2 (w.heap.size + 2) 4 #[.bool false] := by
        rw [← hW2]; exact (hF1.put 0 _).far (by show w.heap.size + 2 ≠ w.heap.size + 1; omega) _
      have hR2 : Has W2 (W.heap.size + 1) 80 #[.slice Am nm cm, .int .i64 y] := by
        rw [← hW2]; exact (hR1.far ne1 _).far ne2 _
      have hbb2 : Below w.heap.size w W2 := by
        rw [← hW2]; exact (hbb1.setCell (by show w.heap.size ≤ w.heap.size + 2; omega) _).setCell (by show w.heap.size ≤ w.heap.size + 1; omega) _
      clear hW2
      have hr2 := hr0'.below hbb2
      have p0 : W2.cell? ⟨w.heap.size, 0, none⟩ = some (.int .i64 c) := hP2.cell 0
      have p1 : W2.cell? ⟨w.heap.size, 1, none⟩ = some (.int .u8 k) := hP2.cell 1
      have p2 : W2.cell? ⟨w.heap.size, 2, none⟩ = some (.slice A n cp) := hP2.cell 2
      have t0 : W2.cell? ⟨W.heap.size + 1, 0, none⟩ = some (.slice Am nm cm) := hR2.cell 0
      have t1 : W2.cell? ⟨W.heap.size + 1, 1, none⟩ = some (.int .i64 y) := hR2.cell 1
      have g1 : decide (0 < y) = false := by simpa using y0
      refine wp_region_more (by kernel_rfl) (by kernel_rfl) ?_
      repeat (go_big_quiet_step ((first | (go_at_call 98; exact more_of (of_any _ _ _ _ _ _ _ _ _ _)) | (go_at_call 97; exact more_of (bcheck_any _ _ _ _ ms _ _ (hr2.more _))))))
      refine wpQuiet_nil ?_
      rintro w3 ⟨qw3, hww3⟩
      have hbw3 := below_of_eq hww3
      clear hww3 qw3
      go_wp2
      go_ret
      have hro : rowOK c k l i = false := by rw [hrow.out]; simp; omega
      exact ⟨ret_b (by rw [hro]), (fun h => by rw [hro] at h; cases h), fun _ => ⟨Below_trans' hbb2 hbb2.size hbw3, hP2.below hbw3 hP2.lt⟩⟩
  · have f0' : W.cell? ⟨w.heap.size + 2, 0, none⟩ = some (.bool false) := by rw [f0]; simp [hi0]
    clear f0
    by_cases hcm : cmpL ml ms < 0
    · have hfst : Hid ((decide (i = 0) || decide (cmpL ml ms < 0)) = true) := by unfold Hid; simp [hcm]
      have hcm' : ¬ (0 ≤ cmpL ml ms) := by omega
      clear hi0
      go_enter Tryz.func95, Tryz.ntmps95
      go_upto_region 3 with (go_at_call 96; refine (compareL_any _ _ _ _ _ _ ml ms _ (hr.below (((Below.refl _ _).alloc (Nat.le_refl _) _).alloc (by simp) _)) (hr'.below (((Below.refl _ _).alloc (Nat.le_refl _) _).alloc (by simp) _))).mono ?_; rintro e w' ⟨rfl, rfl⟩)
      generalize hW1 : World.alloc _ _ = W1
      have hb1 : Below W.heap.size W W1 := by rw [← hW1]; exact ((Below.refl _ _).alloc (Nat.le_refl _) _).alloc (by simp) _
      have hR1 : Has W1 (W.heap.size + 1) 80 #[.slice Am nm cm, .int .i64 y] := by rw [← hW1]; exact Has.new2 _ _ _ _
      clear hW1
      have hP1 := hP.below hb1 hq0
      have hS1 := hS.below hb1 hq1
      have hF1 := hF.below hb1 hlt
      have hr1 := hr'.below hb1
      have hbb1 := Below_trans' hb hb.size hb1
      have hz1 := hb1.size
      have s1 : W1.cell? ⟨w.heap.size + 1, 0, none⟩ = some (.int .i64 S) := hS1.cell 0
      have f1 := hF1.cell 0
      have t0 : W1.cell? ⟨W.heap.size + 1, 0, none⟩ = some (.slice Am nm cm) := hR1.cell 0
      have t1 : W1.cell? ⟨W.heap.size + 1, 1, none⟩ = some (.int .i64 y) := hR1.cell 1
      have fs1 := hS1.free 0
      have ff1 := hF1.free 0
      have ne1 : W.heap.size + 1 ≠ w.heap.size + 2 := by omega
      have ne2 : W.heap.size + 1 ≠ w.heap.size + 1 := by omega
      clear p0 p1 p2 s0 fs ff
      by_cases y0 : 0 < y
      · by_cases c1 : 1000001 < y
        · by_cases c2 : 1000001 < S + 1000001
          · go_upto_region 5 with (fail)
            generalize hW2 : World.setCell _ _ _ = W2
            have hP2 : Has W2 w.heap.size 27 #[.int .i64 c, .int .u8 k, .slice A n cp] := by
              rw [← hW2]; exact (hP1.far (by show w.heap.size ≠ w.heap.size + 2; omega) _).far (by show w.heap.size ≠ w.heap.size + 1; omega) _
            have hS2 : Has W2 (w.heap.size + 1) 3 #[.int .i64 1000001] := by
              rw [← hW2]; exact (hS1.far (by show w.heap.size + 1 ≠ w.heap.size + 2; omega) _).put 0 _
            have hF2 : Has W2 (w.heap.size + 2) 4 #[.bool false] := by
              rw [← hW2]; exact (hF1.put 0 _).far (by show w.heap.size + 2 ≠ w.heap.size + 1; omega) _
            have hR2 : Has W2 (W.heap.size + 1) 80 #[.slice Am nm cm, .int .i64 y] := by
              rw [← hW2]; exact (hR1.far ne1 _).far ne2 _
            have hbb2 : Below w.heap.size w W2 := by
              rw [← hW2]; exact (hbb1.setCell (by show w.heap.size ≤ w.heap.size + 2; omega) _).setCell (by show w.heap.size ≤ w.heap.size + 1; omega) _
            clear hW2
            have hr2 := hr0'.below hbb2
            have p0 : W2.cell? ⟨w.heap.size, 0, none⟩ = some (.int .i64 c) := hP2.cell 0
            have p1 : W2.cell? ⟨w.heap.size, 1, none⟩ = some (.int .u8 k) := hP2.cell 1
            have p2 : W2.cell? ⟨w.heap.size, 2, none⟩ = some (.slice A n cp) := hP2.cell 2
            have t0 : W2.cell? ⟨W.heap.size + 1, 0, none⟩ = some (.slice Am nm cm) := hR2.cell 0
            have t1 : W2.cell? ⟨W.heap.size + 1, 1, none⟩ = some (.int .i64 y) := hR2.cell 1
            have g1 : decide (0 < y) = true := by simpa using y0
            by_cases hbc : bcheckS k ms c = 0
            · have g2 : (bcheckS k ms c == 0) = true := by simpa using hbc
              have Hbc := hide hbc
              clear hbc
              refine wp_region_more (by kernel_rfl) (by kernel_rfl) ?_
              repeat (go_big_quiet_step ((first | (go_at_call 98; exact more_of (of_any _ _ _ _ _ _ _ _ _ _)) | (go_at_call 97; exact more_of (bcheck_any _ _ _ _ ms _ _ (hr2.more _))))))
              refine wpQuiet_nil ?_
              rintro w3 ⟨qw3, hww3⟩
              have hbw3 := below_of_eq hww3
              clear hww3 qw3
              go_wp2
              go_ret
              have hro : rowOK c k l i = true := by rw [hrow.out, hfst.out, g1]; simp [Hbc.out]
              refine ⟨ret_b (by rw [hro]), fun _ => ⟨Below_trans' hbb2 hbb2.size hbw3, hP2.below hbw3 hP2.lt, ?_, ?_, ?_⟩, fun h => by rw [hro] at h; cases h⟩
              · rw [← hnext.out y0 (v := 1000001) (by show 1000001 = if 1000001 < S + y then 1000001 else S + y; split <;> omega)]
                exact hS2.below hbw3 hS2.lt
              · exact hF2.below hbw3 hF2.lt
              · intro j hj
                by_cases ej : j = i
                · rw [ej, getD_of hm'.out]; exact y0
                · exact hpos'.out j (by omega)
            · have g2 : (bcheckS k ms c == 0) = false := by simpa using hbc
              have Hbc := hide hbc
              clear hbc
              refine wp_region_more (by kernel_rfl) (by kernel_rfl) ?_
              repeat (go_big_quiet_step ((first | (go_at_call 98; exact more_of (of_any _ _ _ _ _ _ _ _ _ _)) | (go_at_call 97; exact more_of (bcheck_any _ _ _ _ ms _ _ (hr2.more _))))))
              refine wpQuiet_nil ?_
              rintro w3 ⟨qw3, hww3⟩
              have hbw3 := below_of_eq hww3
              clear hww3 qw3
              go_wp2
              go_ret
              have hro : rowOK c k l i = false := by rw [hrow.out]; simp [Hbc.out]
              exact ⟨ret_b (by rw [hro]), (fun h => by rw [hro] at h; cases h), fun _ => ⟨Below_trans' hbb2 hbb2.size hbw3, hP2.below hbw3 hP2.lt⟩⟩
          · go_upto_region 5 with (fail)
            generalize hW2 : World.setCell _ _ _ = W2
            have hP2 : Has W2 w.heap.size 27 #[.int .i64 c, .int .u8 k, .slice A n cp] := by
              rw [← hW2]; exact (hP1.far (by show w.heap.size ≠ w.heap.size + 2; omega) _).far (by show w.heap.size ≠ w.heap.size + 1; omega) _
            have hS2 : Has W2 (w.heap.size + 1) 3 #[.int .i64 (S + 1000001)] := by
              rw [← hW2]; exact (hS1.far (by show w.heap.size + 1 ≠ w.heap.size + 2; omega) _).put 0 _
            have hF2 : Has W2 (w.heap.size + 2) 4 #[.bool false] := by
              rw [← hW2]; exact (hF1.put 0 _).far (by show w.heap.size + 2 ≠ w.heap.size + 1; omega) _
            have hR2 : Has W2 (W.heap.size + 1) 80 #[.slice Am nm cm, .int .i64 y] := by
              rw [← hW2]; exact (hR1.far ne1 _).far ne2 _
            have hbb2 : Below w.heap.size w W2 := by
              rw [← hW2]; exact (hbb1.setCell (by show w.heap.size ≤ w.heap.size + 2; omega) _).setCell (by show w.heap.size ≤ w.heap.size + 1; omega) _
            clear hW2
            have hr2 := hr0'.below hbb2
            have p0 : W2.cell? ⟨w.heap.size, 0, none⟩ = some (.int .i64 c) := hP2.cell 0
            have p1 : W2.cell? ⟨w.heap.size, 1, none⟩ = some (.int .u8 k) := hP2.cell 1
            have p2 : W2.cell? ⟨w.heap.size, 2, none⟩ = some (.slice A n cp) := hP2.cell 2
            have t0 : W2.cell? ⟨W.heap.size + 1, 0, none⟩ = some (.slice Am nm cm) := hR2.cell 0
            have t1 : W2.cell? ⟨W.heap.size + 1, 1, none⟩ = some (.int .i64 y) := hR2.cell 1
            have g1 : decide (0 < y) = true := by simpa using y0
            by_cases hbc : bcheckS k ms c = 0
            · have g2 : (bcheckS k ms c == 0) = true := by simpa using hbc
              have Hbc := hide hbc
              clear hbc
              refine wp_region_more (by kernel_rfl) (by kernel_rfl) ?_
              repeat (go_big_quiet_step ((first | (go_at_call 98; exact more_of (of_any _ _ _ _ _ _ _ _ _ _)) | (go_at_call 97; exact more_of (bcheck_any _ _ _ _ ms _ _ (hr2.more _))))))
              refine wpQuiet_nil ?_
              rintro w3 ⟨qw3, hww3⟩
              have hbw3 := below_of_eq hww3
              clear hww3 qw3
              go_wp2
              go_ret
              have hro : rowOK c k l i = true := by rw [hrow.out, hfst.out, g1]; simp [Hbc.out]
              refine ⟨ret_b (by rw [hro]), fun _ => ⟨Below_trans' hbb2 hbb2.size hbw3, hP2.below hbw3 hP2.lt, ?_, ?_, ?_⟩, fun h => by rw [hro] at h; cases h⟩
              · rw [← hnext.out y0 (v := (S + 1000001)) (by show (S + 1000001) = if 1000001 < S + y then 1000001 else S + y; split <;> omega)]
                exact hS2.below hbw3 hS2.lt
              · exact hF2.below hbw3 hF2.lt
              · intro j hj
                by_cases ej : j = i
                · rw [ej, getD_of hm'.out]; exact y0
                · exact hpos'.out j (by omega)
            · have g2 : (bcheckS k ms c == 0) = false := by simpa using hbc
              have Hbc := hide hbc
              clear hbc
              refine wp_region_more (by kernel_rfl) (by kernel_rfl) ?_
              repeat (go_big_quiet_step ((first | (go_at_call 98; exact more_of (of_any _ _ _ _ _ _ _ _ _ _)) | (go_at_call 97; exact more_of (bcheck_any _ _ _ _ ms _ _ (hr2.more _))))))
              refine wpQuiet_nil ?_
              rintro w3 ⟨qw3, hww3⟩
              have hbw3 := below_of_eq hww3
              clear hww3 qw3
              go_wp2
              go_ret
              have hro : rowOK c k l i = false := by rw [hrow.out]; simp [Hbc.out]
              exact ⟨ret_b (by rw [hro]), (fun h => by rw [hro] at h; cases h), fun _ => ⟨Below_trans' hbb2 hbb2.size hbw3, hP2.below hbw3 hP2.lt⟩⟩
        · by_cases c2 : 1000001 < S + y
          · go_upto_region 5 with (fail)
            generalize hW2 : World.setCell _ _ _ = W2
            have hP2 : Has W2 w.heap.size 27 #[.int .i64 c, .int .u8 k, .slice A n cp] := by
              rw [← hW2]; exact (hP1.far (by show w.heap.size ≠ w.heap.size + 2; omega) _).far (by show w.heap.size ≠ w.heap.size + 1; omega) _
            have hS2 : Has W2 (w.heap.size + 1) 3 #[.int .i64 1000001] := by
              rw [← hW2]; exact (hS1.far (by show w.heap.size + 1 ≠ w.heap.size + 2; omega) _).put 0 _
            have hF2 : Has W2 (w.heap.size + 2) 4 #[.bool false] := by
              rw [← hW2]; exact (hF1.put 0 _).far (by show w.heap.size + 2 ≠ w.heap.size + 1; omega) _
            have hR2 : Has W2 (W.heap.size + 1) 80 #[.slice Am nm cm, .int .i64 y] := by
              rw [← hW2]; exact (hR1.far ne1 _).far ne2 _
            have hbb2 : Below w.heap.size w W2 := by
              rw [← hW2]; exact (hbb1.setCell (by show w.heap.size ≤ w.heap.size + 2; omega) _).setCell (by show w.heap.size ≤ w.heap.size + 1; omega) _
            clear hW2
            have hr2 := hr0'.below hbb2
            have p0 : W2.cell? ⟨w.heap.size, 0, none⟩ = some (.int .i64 c) := hP2.cell 0
            have p1 : W2.cell? ⟨w.heap.size, 1, none⟩ = some (.int .u8 k) := hP2.cell 1
            have p2 : W2.cell? ⟨w.heap.size, 2, none⟩ = some (.slice A n cp) := hP2.cell 2
            have t0 : W2.cell? ⟨W.heap.size + 1, 0, none⟩ = some (.slice Am nm cm) := hR2.cell 0
            have t1 : W2.cell? ⟨W.heap.size + 1, 1, none⟩ = some (.int .i64 y) := hR2.cell 1
            have g1 : decide (0 < y) = true := by simpa using y0
            by_cases hbc : bcheckS k ms c = 0
            · have g2 : (bcheckS k ms c == 0) = true := by simpa using hbc
              have Hbc := hide hbc
              clear hbc
              refine wp_region_more (by kernel_rfl) (by kernel_rfl) ?_
              repeat (go_big_quiet_step ((first | (go_at_call 98; exact more_of (of_any _ _ _ _ _ _ _ _ _ _)) | (go_at_call 97; exact more_of (bcheck_any _ _ _ _ ms _ _ (hr2.more _))))))
              refine wpQuiet_nil ?_
              rintro w3 ⟨qw3, hww3⟩
              have hbw3 := below_of_eq hww3
              clear hww3 qw3
              go_wp2
              go_ret
              have hro : rowOK c k l i = true := by rw [hrow.out, hfst.out, g1]; simp [Hbc.out]
              refine ⟨ret_b (by rw [hro]), fun _ => ⟨Below_trans' hbb2 hbb2.size hbw3, hP2.below hbw3 hP2.lt, ?_, ?_, ?_⟩, fun h => by rw [hro] at h; cases h⟩
              · rw [← hnext.out y0 (v := 1000001) (by show 1000001 = if 1000001 < S + y then 1000001 else S + y; split <;> omega)]
                exact hS2.below hbw3 hS2.lt
              · exact hF2.below hbw3 hF2.lt
              · intro j hj
                by_cases ej : j = i
                · rw [ej, getD_of hm'.out]; exact y0
                · exact hpos'.out j (by omega)
            · have g2 : (bcheckS k ms c == 0) = false := by simpa using hbc
              have Hbc := hide hbc
              clear hbc
              refine wp_region_more (by kernel_rfl) (by kernel_rfl) ?_
              repeat (go_big_quiet_step ((first | (go_at_call 98; exact more_of (of_any _ _ _ _ _ _ _ _ _ _)) | (go_at_call 97; exact more_of (bcheck_any _ _ _ _ ms _ _ (hr2.more _))))))
              refine wpQuiet_nil ?_
              rintro w3 ⟨qw3, hww3⟩
              have hbw3 := below_of_eq hww3
              clear hww3 qw3
              go_wp2
              go_ret
              have hro : rowOK c k l i = false := by rw [hrow.out]; simp [Hbc.out]
              exact ⟨ret_b (by rw [hro]), (fun h => by rw [hro] at h; cases h), fun _ => ⟨Below_trans' hbb2 hbb2.size hbw3, hP2.below hbw3 hP2.lt⟩⟩
          · go_upto_region 5 with (fail)
            generalize hW2 : World.setCell _ _ _ = W2
            have hP2 : Has W2 w.heap.size 27 #[.int .i64 c, .int .u8 k, .slice A n cp] := by
              rw [← hW2]; exact (hP1.far (by show w.heap.size ≠ w.heap.size + 2; omega) _).far (by show w.heap.size ≠ w.heap.size + 1; omega) _
            have hS2 : Has W2 (w.heap.size + 1) 3 #[.int .i64 (S + y)] := by
              rw [← hW2]; exact (hS1.far (by show w.heap.size + 1 ≠ w.heap.size + 2; omega) _).put 0 _
            have hF2 : Has W2 (w.heap.size + 2) 4 #[.bool false] := by
              rw [← hW2]; exact (hF1.put 0 _).far (by show w.heap.size + 2 ≠ w.heap.size + 1; omega) _
            have hR2 : Has W2 (W.heap.size + 1) 80 #[.slice Am nm cm, .int .i64 y] := by
              rw [← hW2]; exact (hR1.far ne1 _).far ne2 _
            have hbb2 : Below w.heap.size w W2 := by
              rw [← hW2]; exact (hbb1.setCell (by show w.heap.size ≤ w.heap.size + 2; omega) _).setCell (by show w.heap.size ≤ w.heap.size + 1; omega) _
            clear hW2
            have hr2 := hr0'.below hbb2
            have p0 : W2.cell? ⟨w.heap.size, 0, none⟩ = some (.int .i64 c) := hP2.cell 0
            have p1 : W2.cell? ⟨w.heap.size, 1, none⟩ = some (.int .u8 k) := hP2.cell 1
            have p2 : W2.cell? ⟨w.heap.size, 2, none⟩ = some (.slice A n cp) := hP2.cell 2
            have t0 : W2.cell? ⟨W.heap.size + 1, 0, none⟩ = some (.slice Am nm cm) := hR2.cell 0
            have t1 : W2.cell? ⟨W.heap.size + 1, 1, none⟩ = some (.int .i64 y) := hR2.cell 1
            have g1 : decide (0 < y) = true := by simpa using y0
            by_cases hbc : bcheckS k ms c = 0
            · have g2 : (bcheckS k ms c == 0) = true := by simpa using hbc
              have Hbc := hide hbc
              clear hbc
              refine wp_region_more (by kernel_rfl) (by kernel_rfl) ?_
              repeat (go_big_quiet_step ((first | (go_at_call 98; exact more_of (of_any _ _ _ _ _ _ _ _ _ _)) | (go_at_call 97; exact more_of (bcheck_any _ _ _ _ ms _ _ (hr2.more _))))))
              refine wpQuiet_nil ?_
              rintro w3 ⟨qw3, hww3⟩
              have hbw3 := below_of_eq hww3
              clear hww3 qw3
              go_wp2
              go_ret
              have hro : rowOK c k l i = true := by rw [hrow.out, hfst.out, g1]; simp [Hbc.out]
              refine ⟨ret_b (by rw [hro]), fun _ => ⟨Below_trans' hbb2 hbb2.size hbw3, hP2.below hbw3 hP2.lt, ?_, ?_, ?_⟩, fun h => by rw [hro] at h; cases h⟩
              · rw [← hnext.out y0 (v := (S + y)) (by show (S + y) = if 1000001 < S + y then 1000001 else S + y; split <;> omega)]
                exact hS2.below hbw3 hS2.lt
              · exact hF2.below hbw3 hF2.lt
              · intro j hj
                by_cases ej : j = i
                · rw [ej, getD_of hm'.out]; exact y0
                · exact hpos'.out j (by omega)
            · have g2 : (bcheckS k ms c == 0) = false := by simpa using hbc
              have Hbc := hide hbc
              clear hbc
              refine wp_region_more (by kernel_rfl) (by kernel_rfl) ?_
              repeat (go_big_quiet_step ((first | (go_at_call 98; exact more_of (of_any _ _ _ _ _ _ _ _ _ _)) | (go_at_call 97; exact more_of (bcheck_any _ _ _ _ ms _ _ (hr2.more _))))))
              refine wpQuiet_nil ?_
              rintro w3 ⟨qw3, hww3⟩
              have hbw3 := below_of_eq hww3
              clear hww3 qw3
              go_wp2
              go_ret
              have hro : rowOK c k l i = false := by rw [hrow.out]; simp [Hbc.out]
              exact ⟨ret_b (by rw [hro]), (fun h => by rw [hro] at h; cases h), fun _ => ⟨Below_trans' hbb2 hbb2.size hbw3, hP2.below hbw3 hP2.lt⟩⟩
      · have c1 : ¬ 1000001 < y := by omega
        have c2 : ¬ 1000001 < S + y := by omega
        go_upto_region 5 with (fail)
        generalize hW2 : World.setCell _ _ _ = W2
        have hP2 : Has W2 w.heap.size 27 #[.int .i64 c, .int .u8 k, .slice A n cp] := by
          rw [← hW2]; exact (hP1.far (by show w.heap.size ≠ w.heap.size + 2; omega) _).far (by show w.heap.size ≠ w.heap.size + 1; omega) _
        have hS2 : Has W2 (w.heap.size + 1) 3 #[.int .i64 (S + y)] := by
          rw [← hW2]; exact (hS1.far (by show w.heap.size + 1 ≠ w.heap.size + 2; omega) _).put 0 _
        have hF2 : Has W2 (w.heap.size + 2) 4 #[.bool false] := by
          rw [← hW2]; exact (hF1.put 0 _).far (by show w.heap.size + 2 ≠ w.heap.size + 1; omega) _
        have hR2 : Has W2 (W.heap.size + 1) 80 #[.slice Am nm cm, .int .i64 y] := by
          rw [← hW2]; exact (hR1.far ne1 _).far ne2 _
        have hbb2 : Below w.heap.size w W2 := by
          rw [← hW2]; exact (hbb1.setCell (by show w.heap.size ≤ w.heap.size + 2; omega) _).setCell (by show w.heap.size ≤ w.heap.size + 1; omega) _
        clear hW2
        have hr2 := hr0'.below hbb2
        have p0 : W2.cell? ⟨w.heap.size, 0, none⟩ = some (.int .i64 c) := hP2.cell 0
        have p1 : W2.cell? ⟨w.heap.size, 1, none⟩ = some (.int .u8 k) := hP2.cell 1
        have p2 : W2.cell? ⟨w.heap.size, 2, none⟩ = some (.slice A n cp) := hP2.cell 2
        have t0 : W2.cell? ⟨W.heap.size + 1, 0, none⟩ = some (.slice Am nm cm) := hR2.cell 0
        have t1 : W2.cell? ⟨W.heap.size + 1, 1, none⟩ = some (.int .i64 y) := hR2.cell 1
        have g1 : decide (0 < y) = false := by simpa using y0
        refine wp_region_more (by kernel_rfl) (by kernel_rfl) ?_
        repeat (go_big_quiet_step ((first | (go_at_call 98; exact more_of (of_any _ _ _ _ _ _ _ _ _ _)) | (go_at_call 97; exact more_of (bcheck_any _ _ _ _ ms _ _ (hr2.more _))))))
        refine wpQuiet_nil ?_
        rintro w3 ⟨qw3, hww3⟩
        have hbw3 := below_of_eq hww3
        clear hww3 qw3
        go_wp2
        go_ret
        have hro : rowOK c k l i = false := by rw [hrow.out]; simp; omega
        exact ⟨ret_b (by rw [hro]), (fun h => by rw [hro] at h; cases h), fun _ => ⟨Below_trans' hbb2 hbb2.size hbw3, hP2.below hbw3 hP2.lt⟩⟩
    · have hcm' : 0 ≤ cmpL ml ms := by omega
      have hro : Hid (rowOK c k l i = false) := by unfold Hid; rw [hrow.out]; simp [hi0, hcm]
      clear hi0
      go_enter Tryz.func95, Tryz.ntmps95
      go_wp2_with (go_at_call 96; refine (compareL_any _ _ _ _ _ _ ml ms _ (hr.below (((Below.refl _ _).alloc (Nat.le_refl _) _).alloc (by simp) _)) (hr'.below (((Below.refl _ _).alloc (Nat.le_refl _) _).alloc (by simp) _))).mono ?_; rintro e w' ⟨rfl, rfl⟩)
      have hb1 : Below W.heap.size W ((W.alloc (.cells #[.slice Al nl cl, .int .i64 yl] 80)).alloc (.cells #[.slice Am nm cm, .int .i64 y] 80)) := ((Below.refl _ _).alloc (Nat.le_refl _) _).alloc (by simp) _
      go_ret
      exact ⟨ret_b (by rw [hro.out]), (fun h => by rw [hro.out] at h; cases h), fun _ => ⟨Below_trans' hb hb.size hb1, hP.below hb1 hP.lt⟩⟩
end Go.Proofs.YtolbceckbnifmaaGreat

namespace Go.Proofs.YtolbceckbnifmaaGreat
open Go.RowKit Go.Proofs
attribute [local go_sem] cell?_more cell?_alloc_some cell?_setCell_far frozen?_alloc_some frozen?_more


theorem CInv.keep {w : World} {g : Nat} {c k : Int} {A : Option Addr} {n cp : Nat} {l : List Row} {i : Nat} {W W' : World} (hg : w.heap.size = g) (h : CInv w g c k A n cp l i W) (hb : Below W.heap.size W W') :
    CInv w g c k A n cp l i W' :=
  let ⟨h1, h2, h3, h4, h5⟩ := h
  ⟨by subst hg; exact Below_trans' h1 h1.size hb, h2.below hb h2.lt, h3.below hb h3.lt, h4.below hb h4.lt, h5⟩

theorem CInv.start (w : World) (c k : Int) (A : Option Addr) (n cp : Nat) (l : List Row) :
    CInv w w.heap.size c k A n cp l 0 (((w.alloc (.cells #[.int .i64 c, .int .u8 k, .slice A n cp] 27)).alloc (.cells #[.int .i64 0] 3)).alloc (.cells #[.bool true] 4)) := by
  refine ⟨(((Below.refl _ _).alloc (Nat.le_refl _) _).alloc (by simp) _).alloc (by simp; omega) _, ((Has.new _ _ _).alloc _).alloc _, ?_, ?_, fun j hj => absurd hj (by omega)⟩
  · simpa [capS, totS] using (Has.new2 w _ 3 #[.int .i64 0]).alloc _
  · simpa using Has.new2 (w.alloc (.cells #[.int .i64 c, .int .u8 k, .slice A n cp] 27)) (.cells #[.int .i64 0] 3) 4 #[.bool true]

theorem all_check1 (c k : Int) (A : Option Addr) (n cp : Nat) (l : List Row) (w : World) (h : RRows w A n cp l) :
    Calls Tryz.prog 94 #[.slice A n cp, .func (.func 95) #[] #[.pointer (some ⟨w.heap.size + 1 + 1, 0, none⟩), .pointer (some ⟨w.heap.size + 1, 0, none⟩), .pointer (some ⟨w.heap.size, 0, none⟩)]]
      (((w.alloc (.cells #[.int .i64 c, .int .u8 k, .slice A n cp] 27)).alloc (.cells #[.int .i64 0] 3)).alloc (.cells #[.bool true] 4))
      (AllPost n (rowOK c k l) (CInv w w.heap.size c k A n cp l) (CFin w w.heap.size c k A n cp)) :=
  all_check A n cp l _ (rowOK c k l) (CInv w w.heap.size c k A n cp l) (CFin w w.heap.size c k A n cp) _ w h (CInv.start w c k A n cp l)
    (fun _ _ hI => hI.1) (fun _ _ _ hI hb => hI.keep rfl hb)
    (fun i W Am nm cm Al nl cl ms ml y yl hi hI hl hm hy hr hr' => check1_any w c k A n cp l i W Am nm cm Al nl cl ms ml y yl h.len hi hI hl hm hy hr hr')

theorem new_ok (c k : Int) (w : World) (h : newErr c k = 0) :
    Calls Tryz.prog 99 #[.int .i64 c, .int .u8 k] w fun e w' => e = .returned (.tuple #[.agg #[.int .i64 c, .int .u8 k, .slice none 0 0], .int .i64 0]) ∧ Below w.heap.size w w' :=
  (new_any c k w).mono fun e w' ⟨he, hb⟩ => ⟨by rw [he, newV, if_pos h, h], hb⟩
theorem new_bad (c k : Int) (w : World) (h : newErr c k ≠ 0) :
    Calls Tryz.prog 99 #[.int .i64 c, .int .u8 k] w fun e w' => e = .returned (.tuple #[.agg #[.int .i64 0, .int .u8 0, .slice none 0 0], .int .i64 2]) ∧ Below w.heap.size w w' :=
  (new_any c k w).mono fun e w' ⟨he, hb⟩ => ⟨by rw [he, newV, if_neg h, newErr, if_pos (newErr_bad.1 h)], hb⟩

theorem rnew_ok (c k : Int) (w : World) (h : newErr c k = 0) :
    Calls Tryz.prog 120 #[.int .i64 c, .int .u8 k] w fun e w' => e = .returned (.tuple #[.agg #[.int .i64 c, .int .u8 k, .slice none 0 0], .int .i64 0]) ∧ Below w.heap.size w w' :=
  (rnew_any c k w).mono fun e w' ⟨he, hb⟩ => ⟨by rw [he, newV, if_pos h, h], hb⟩
theorem rnew_bad (c k : Int) (w : World) (h : newErr c k ≠ 0) :
    Calls Tryz.prog 120 #[.int .i64 c, .int .u8 k] w fun e w' => e = .returned (.tuple #[.agg #[.int .i64 0, .int .u8 0, .slice none 0 0], .int .i64 2]) ∧ Below w.heap.size w w' :=
  (rnew_any c k w).mono fun e w' ⟨he, hb⟩ => ⟨by rw [he, newV, if_neg h, newErr, if_pos (newErr_bad.1 h)], hb⟩

theorem capS_end {l : List Row} : 1000000 < capS l l.length ↔ 1000000 < totS l := by
  unfold capS
  rw [List.take_length]
  split <;> omega

set_option maxHeartbeats 1000000 in
theorem pcheck_any (c k : Int) (A : Option Addr) (n cp : Nat) (l : List Row) (w : World) (h : RRows w A n cp l) :
    Calls Tryz.prog 66 #[.agg #[.int .i64 c, .int .u8 k, .slice A n cp]] w fun e w' => e = .returned (.int .i64 (checkS c k l)) ∧ Below w.heap.size w w' := by
  have hn := h.le
  have hl := h.len
  have hbP : Below w.heap.size w (w.alloc (.cells #[.int .i64 c, .int .u8 k, .slice A n cp] 27)) := (Below.refl _ _).alloc (Nat.le_refl _) _
  by_cases h64 : 64 < n
  · go_enter Tryz.func66, Tryz.ntmps66
    go_wp2
    go_ret
    exact ⟨ret_i (by rw [checkS, if_pos (by omega)]), hbP⟩
  · have hcon := hide (all_check1 c k A n cp l w h)
    by_cases hall : allN n (rowOK c k l) = true
    · have Hall := hide hall
      clear hall
      by_cases herr : newErr c k = 0
      · have Herr := hide herr
        clear herr
        by_cases htot : 1000000 < totS l
        · go_enter Tryz.func66, Tryz.ntmps66
          go_wp2_with fail
          refine hcon.out.mono ?_
          rintro e w4 ⟨he, hI, _⟩
          rw [Hall.out] at he
          subst he
          obtain ⟨hb, hP, hS, _, _⟩ := hI Hall.out
          clear hI
          have hc := capS_end (l := l)
          rw [hl] at hc
          have hcap : 1000000 < capS l n := hc.2 htot
          clear hc
          have p0 : w4.cell? ⟨w.heap.size, 0, none⟩ = some (.int .i64 c) := hP.cell 0
          have p1 : w4.cell? ⟨w.heap.size, 1, none⟩ = some (.int .u8 k) := hP.cell 1
          go_wp2_with fail
          refine (new_ok _ _ _ Herr.out).mono ?_
          rintro e w5 ⟨rfl, hb5⟩
          have s1 : w5.cell? ⟨w.heap.size + 1, 0, none⟩ = some (.int .i64 (capS l n)) := (hS.below hb5 hS.lt).cell 0
          have hbE := Below_trans' hb hb.size (hb5.alloc hb5.size (.cells #[.int .i64 c, .int .u8 k, .slice none 0 0] 27))
          go_wp2
          go_ret
          exact ⟨ret_i (by rw [checkS, if_neg (by omega), hl, if_neg (by rw [Hall.out, Herr.out]; simp), if_pos htot]), hbE⟩
        · go_enter Tryz.func66, Tryz.ntmps66
          go_wp2_with fail
          refine hcon.out.mono ?_
          rintro e w4 ⟨he, hI, _⟩
          rw [Hall.out] at he
          subst he
          obtain ⟨hb, hP, hS, _, _⟩ := hI Hall.out
          clear hI
          have hc := capS_end (l := l)
          rw [hl] at hc
          have hcap : ¬ 1000000 < capS l n := fun hh => by have := hc.1 hh; omega
          clear hc
          have p0 : w4.cell? ⟨w.heap.size, 0, none⟩ = some (.int .i64 c) := hP.cell 0
          have p1 : w4.cell? ⟨w.heap.size, 1, none⟩ = some (.int .u8 k) := hP.cell 1
          go_wp2_with fail
          refine (new_ok _ _ _ Herr.out).mono ?_
          rintro e w5 ⟨rfl, hb5⟩
          have s1 : w5.cell? ⟨w.heap.size + 1, 0, none⟩ = some (.int .i64 (capS l n)) := (hS.below hb5 hS.lt).cell 0
          have hbE := Below_trans' hb hb.size (hb5.alloc hb5.size (.cells #[.int .i64 c, .int .u8 k, .slice none 0 0] 27))
          go_wp2
          go_ret
          exact ⟨ret_i (by rw [checkS, if_neg (by omega), hl, if_neg (by rw [Hall.out, Herr.out]; simp), if_neg (by omega)]), hbE⟩
      · have Herr := hide herr
        clear herr
        go_enter Tryz.func66, Tryz.ntmps66
        go_wp2_with fail
        refine hcon.out.mono ?_
        rintro e w4 ⟨he, hI, _⟩
        rw [Hall.out] at he
        subst he
        obtain ⟨hb, hP, hS, _, _⟩ := hI Hall.out
        clear hI
        have hc := capS_end (l := l)
        rw [hl] at hc
        clear hc
        have p0 : w4.cell? ⟨w.heap.size, 0, none⟩ = some (.int .i64 c) := hP.cell 0
        have p1 : w4.cell? ⟨w.heap.size, 1, none⟩ = some (.int .u8 k) := hP.cell 1
        go_wp2_with fail
        refine (new_bad _ _ _ Herr.out).mono ?_
        rintro e w5 ⟨rfl, hb5⟩
        have s1 : w5.cell? ⟨w.heap.size + 1, 0, none⟩ = some (.int .i64 (capS l n)) := (hS.below hb5 hS.lt).cell 0
        have hbE := Below_trans' hb hb.size (hb5.alloc hb5.size (.cells #[.int .i64 0, .int .u8 0, .slice none 0 0] 27))
        go_wp2
        go_ret
        exact ⟨ret_i (by rw [checkS, if_neg (by omega), hl, if_pos (.inr Herr.out)]), hbE⟩
    · have hall' : allN n (rowOK c k l) = false := by simpa using hall
      have Hall := hide hall'
      clear hall hall'
      go_enter Tryz.func66, Tryz.ntmps66
      go_wp2_with fail
      refine hcon.out.mono ?_
      rintro e w4 ⟨he, _, hI⟩
      rw [Hall.out] at he
      subst he
      obtain ⟨hb, hP⟩ := hI Hall.out
      clear hI
      have p0 : w4.cell? ⟨w.heap.size, 0, none⟩ = some (.int .i64 c) := hP.cell 0
      have p1 : w4.cell? ⟨w.heap.size, 1, none⟩ = some (.int .u8 k) := hP.cell 1
      by_cases herr : newErr c k = 0
      · have Herr := hide herr
        clear herr
        go_wp2_with fail
        refine (new_ok _ _ _ Herr.out).mono ?_
        rintro e w5 ⟨rfl, hb5⟩
        go_wp2
        go_ret
        exact ⟨ret_i (by rw [checkS, if_neg (by omega), hl, if_pos (.inl Hall.out)]), Below_trans' hb hb.size (hb5.alloc hb5.size _)⟩
      · have Herr := hide herr
        clear herr
        go_wp2_with fail
        refine (new_bad _ _ _ Herr.out).mono ?_
        rintro e w5 ⟨rfl, hb5⟩
        go_wp2
        go_ret
        exact ⟨ret_i (by rw [checkS, if_neg (by omega), hl, if_pos (.inl Hall.out)]), Below_trans' hb hb.size (hb5.alloc hb5.size _)⟩
end Go.Proofs.YtolbceckbnifmaaGreat

namespace Go.Proofs.YtolbceckbnifmaaGreat
open Go.RowKit Go.Proofs
attribute [local go_sem] cell?_more cell?_alloc_some cell?_setCell_far frozen?_alloc_some frozen?_more

set_option maxHeartbeats 1000000 in
theorem sums_any (A : Option Addr) (n cp : Nat) (l : List Row) (w : World) (h : RRows w A n cp l) (hpos : ∀ i, i < l.length → 0 < (l.getD i ([], 0)).2) :
    Calls Tryz.prog 123 #[.slice A n cp] w fun e w' => e = .returned (.int .i64 (capS l n)) ∧ w = w' := by
  have hn := h.le
  have hl := h.len
  have Hpos := hide hpos
  clear hpos
  go_enter Tryz.func123, Tryz.ntmps123
  go_wp2
  go_loop [3, 4] (fun s i => ∃ (k : Nat) (S : Int), k ≤ n ∧ i = .int .i64 k ∧ s = .int .i64 S ∧ Hid (S = totS (l.take k)) ∧ 0 ≤ S ∧ S ≤ 1000000) (fun _ i => n - (intOf i).toNat)
  case atStart => exact ⟨0, 0, Nat.zero_le _, rfl, rfl, by simp [Hid, totS], by omega, by omega⟩
  case round =>
    obtain ⟨k, S, hk, rfl, rfl, hS, s0, s1⟩ := hrel
    by_cases hlt : k < n
    · obtain ⟨b, off, Am, nm, cm, ms, y, rfl, hc0, hm0, hc1, hd, hat, hy⟩ := h.step hlt
      have y0 := Hpos.out k (by omega)
      rw [getD_of hat.out] at y0
      have hT := hide (totS_take_succ hat.out)
      by_cases hbig : 1000000 - S < y
      · have hge := totS_mono (l := l) Hpos.out (a := k + 1) (b := n) (by omega) (by omega)
        have hcap : Hid (capS l n = 1000001) := by
          unfold Hid capS
          rw [hT.out, ← hS.out] at hge
          simp only at hge
          split
          · rfl
          · omega
        go_wp2
        go_ret
        exact ⟨ret_i (by rw [hcap.out]), rfl⟩
      · go_wp2
        go_round
        case rel => exact ⟨k + 1, S + y, by omega, by go_num, rfl, by unfold Hid; rw [hT.out, hS.out], by omega, by omega⟩
        case measure => simp [intOf] <;> omega
    · obtain rfl : k = n := by omega
      go_wp2
      go_ret
      exact ⟨ret_i (by unfold capS; rw [← hS.out, if_neg (by omega)]), rfl⟩

set_option maxHeartbeats 2000000 in
theorem rcheck_any (c k : Int) (A : Option Addr) (n cp : Nat) (l : List Row) (w : World) (h : RRows w A n cp l) :
    Calls Tryz.prog 91 #[.agg #[.int .i64 c, .int .u8 k, .slice A n cp]] w fun e w' => e = .returned (.int .i64 (checkS c k l)) ∧ Below w.heap.size w w' := by
  have hn := h.le
  have hl := h.len
  have hbP : Below w.heap.size w (w.alloc (.cells #[.int .i64 c, .int .u8 k, .slice A n cp] 27)) := (Below.refl _ _).alloc (Nat.le_refl _) _
  have hPP := Has.new w 27 #[.int .i64 c, .int .u8 k, .slice A n cp]
  by_cases h64 : 64 < n
  · go_enter Tryz.func91, Tryz.ntmps91
    go_wp2
    go_ret
    exact ⟨ret_i (by rw [checkS, if_pos (by omega)]), hbP⟩
  by_cases herr : newErr c k = 0
  · have Herr := hide herr
    clear herr
    go_enter Tryz.func91, Tryz.ntmps91
    go_wp2_with fail
    refine (rnew_ok _ _ _ Herr.out).mono ?_
    rintro e w5 ⟨rfl, hb5⟩
    have hP5 := hPP.below hb5 hPP.lt
    have hbE := Below_trans' hbP hbP.size (hb5.alloc hb5.size (.cells #[.int .i64 c, .int .u8 k, .slice none 0 0] 27))
    go_wp2
    go_loopw [6] (fun i wr => ∃ t : Nat, t ≤ n ∧ i = .int .i64 t ∧ Hid (∀ j, j < t → rowOK c k l j = true) ∧ Below w.heap.size w wr ∧ Has wr w.heap.size 27 #[.int .i64 c, .int .u8 k, .slice A n cp]) (fun i _ => n - (intOf i).toNat)
    case atStart => exact ⟨0, Nat.zero_le _, rfl, fun j hj => absurd hj (by omega), hbE, hP5.alloc _⟩
    case round =>
      obtain ⟨t, ht, rfl, hok, hb, hP⟩ := hrel
      have p0 : wr.cell? ⟨w.heap.size, 0, none⟩ = some (.int .i64 c) := hP.cell 0
      have p1 : wr.cell? ⟨w.heap.size, 1, none⟩ = some (.int .u8 k) := hP.cell 1
      by_cases hlt : t < n
      · have hr := h.below hb
        obtain ⟨b, off, Am, nm, cm, ms, y, rfl, hc0, hm0, hc1, hd, hat, hy⟩ := hr.step hlt
        obtain ⟨b', off', Al, nl, cl, ml, yl, e1, hc0', hm0', hc1', hd', hat', hy'⟩ := hr.step (k := t - 1) (by omega)
        cases e1
        have hrow := hide (rowOK_eq (c := c) (k := k) hat'.out hat.out)
        have b1 : (0 : Int) ≤ (t : Int) := by omega
        have b2 : (t : Int) < (n : Int) := by omega
        by_cases y1 : y < 1
        · have g1 : decide (y < 1) = true := by simpa using y1
          have hro : rowOK c k l t = false := by rw [hrow.out]; simp; intros; omega
          have Hro := hide hro
          clear hro
          go_wp2
          refine wp_region_more (by kernel_rfl) (by kernel_rfl) ?_
          repeat (go_big_quiet_step ((first | (go_at_call 121; exact more_of (rbcheck_any _ _ _ _ ms _ _ (hm0.more _))) | (go_at_call 122; exact more_of (ahead_any _ _ _ _ _ _ ml ms _ (hm0'.more _) (hm0.more _))))))
          refine wpQuiet_nil ?_
          rintro w1 ⟨qw1, hww1⟩
          have hbw1 := below_of_eq hww1
          clear hww1 qw1
          go_wp2
          go_ret
          exact ⟨ret_i (by rw [checkS, if_neg (by omega), hl, if_pos (.inl (allN_false hlt Hro.out))]), Below_trans' hb hb.size hbw1⟩
        have g1 : decide (y < 1) = false := by simpa using y1
        by_cases hbc : bcheckS k ms c = 0
        · have g2 : (bcheckS k ms c != 0) = false := by simp [hbc]
          by_cases ht0 : t = 0
          · have g3 : decide (0 < (t : Int)) = false := by simp; omega
            have g4 : decide (0 < t) = false := by simp; omega
            have hro : rowOK c k l t = true := by rw [hrow.out]; simp [hbc, ht0]; omega
            clear ht0
            have Hro := hide hro
            clear hro
            go_wp2
            refine wp_region_more (by kernel_rfl) (by kernel_rfl) ?_
            repeat (go_big_quiet_step ((first | (go_at_call 121; exact more_of (rbcheck_any _ _ _ _ ms _ _ (hm0.more _))) | (go_at_call 122; exact more_of (ahead_any _ _ _ _ _ _ ml ms _ (hm0'.more _) (hm0.more _))))))
            refine wpQuiet_nil ?_
            rintro w1 ⟨qw1, hww1⟩
            have hbw1 := below_of_eq hww1
            clear hww1 qw1
            go_wp2
            go_roundw
            case rel => exact ⟨t + 1, by omega, by go_num, fun j hj => by
              by_cases ej : j = t
              · rw [ej]; exact Hro.out
              · exact hok.out j (by omega), Below_trans' hb hb.size hbw1, hP.below hbw1 hP.lt⟩
            case measure => simp [intOf] <;> omega
          · have g3 : decide (0 < (t : Int)) = true := by simp; omega
            have g4 : decide (0 < t) = true := by simp; omega
            have e1 : IntKind.i64.wrap ((t : Int) - 1) = (t : Int) - 1 := IntWalk.i64_in _ (by omega)
            have e2 : ((t : Int) - 1).toNat = t - 1 := by omega
            have b3 : (1 : Int) ≤ (t : Int) := by omega
            have b4 : (t : Int) - 1 < (n : Int) := by omega
            by_cases hcm : aheadB ml ms = true
            · have hro : rowOK c k l t = true := by rw [hrow.out]; unfold aheadB at hcm; simp at hcm; simp [hbc, hcm]; omega
              clear hbc ht0
              have Hro := hide hro
              clear hro
              go_wp2
              refine wp_region_more (by kernel_rfl) (by kernel_rfl) ?_
              repeat (go_big_quiet_step ((first | (go_at_call 121; exact more_of (rbcheck_any _ _ _ _ ms _ _ (hm0.more _))) | (go_at_call 122; exact more_of (ahead_any _ _ _ _ _ _ ml ms _ (hm0'.more _) (hm0.more _))))))
              refine wpQuiet_nil ?_
              rintro w1 ⟨qw1, hww1⟩
              have hbw1 := below_of_eq hww1
              clear hww1 qw1
              go_wp2
              go_roundw
              case rel => exact ⟨t + 1, by omega, by go_num, fun j hj => by
                by_cases ej : j = t
                · rw [ej]; exact Hro.out
                · exact hok.out j (by omega), Below_trans' hb hb.size hbw1, hP.below hbw1 hP.lt⟩
              case measure => simp [intOf] <;> omega
            · have hcm : aheadB ml ms = false := by simpa using hcm
              have hro : rowOK c k l t = false := by rw [hrow.out]; unfold aheadB at hcm; simp at hcm; simp [ht0]; omega
              clear hbc ht0
              have Hro := hide hro
              clear hro
              go_wp2
              refine wp_region_more (by kernel_rfl) (by kernel_rfl) ?_
              repeat (go_big_quiet_step ((first | (go_at_call 121; exact more_of (rbcheck_any _ _ _ _ ms _ _ (hm0.more _))) | (go_at_call 122; exact more_of (ahead_any _ _ _ _ _ _ ml ms _ (hm0'.more _) (hm0.more _))))))
              refine wpQuiet_nil ?_
              rintro w1 ⟨qw1, hww1⟩
              have hbw1 := below_of_eq hww1
              clear hww1 qw1
              go_wp2
              go_ret
              exact ⟨ret_i (by rw [checkS, if_neg (by omega), hl, if_pos (.inl (allN_false hlt Hro.out))]), Below_trans' hb hb.size hbw1⟩
        · have g2 : (bcheckS k ms c != 0) = true := by simp [hbc]
          have hro : rowOK c k l t = false := by rw [hrow.out]; simp [hbc]
          have Hro := hide hro
          clear hro
          go_wp2
          refine wp_region_more (by kernel_rfl) (by kernel_rfl) ?_
          repeat (go_big_quiet_step ((first | (go_at_call 121; exact more_of (rbcheck_any _ _ _ _ ms _ _ (hm0.more _))) | (go_at_call 122; exact more_of (ahead_any _ _ _ _ _ _ ml ms _ (hm0'.more _) (hm0.more _))))))
          refine wpQuiet_nil ?_
          rintro w1 ⟨qw1, hww1⟩
          have hbw1 := below_of_eq hww1
          clear hww1 qw1
          go_wp2
          go_ret
          exact ⟨ret_i (by rw [checkS, if_neg (by omega), hl, if_pos (.inl (allN_false hlt Hro.out))]), Below_trans' hb hb.size hbw1⟩
      · obtain rfl : t = n := by omega
        have hall : Hid (allN t (rowOK c k l) = true) := allN_true.2 hok.out
        have hpos : ∀ i, i < l.length → 0 < (l.getD i ([], 0)).2 := fun i hi => rowOK_many (hok.out i (by omega))
        have Hpos := hide hpos
        clear hpos
        have hc := capS_end (l := l)
        rw [hl] at hc
        by_cases htot : 1000000 < totS l
        · have hcap : 1000000 < capS l t := hc.2 htot
          clear hc
          go_wp2_with (go_at_call 123; refine (sums_any _ _ _ l _ (h.below hb) Hpos.out).mono ?_; rintro e w' ⟨rfl, rfl⟩)
          go_ret
          exact ⟨ret_i (by rw [checkS, if_neg (by omega), hl, if_neg (by rw [hall.out, Herr.out]; simp), if_pos htot]), hb⟩
        · have hcap : ¬ 1000000 < capS l t := fun hh => by have := hc.1 hh; omega
          clear hc
          go_wp2_with (go_at_call 123; refine (sums_any _ _ _ l _ (h.below hb) Hpos.out).mono ?_; rintro e w' ⟨rfl, rfl⟩)
          go_ret
          exact ⟨ret_i (by rw [checkS, if_neg (by omega), hl, if_neg (by rw [hall.out, Herr.out]; simp), if_neg (by omega)]), hb⟩
  · have Herr := hide herr
    clear herr
    go_enter Tryz.func91, Tryz.ntmps91
    go_wp2_with fail
    refine (rnew_bad _ _ _ Herr.out).mono ?_
    rintro e w5 ⟨rfl, hb5⟩
    go_wp2
    go_ret
    exact ⟨ret_i (by rw [checkS, if_neg (by omega), hl, if_pos (.inr Herr.out)]), Below_trans' hbP hbP.size (hb5.alloc hb5.size _)⟩
end Go.Proofs.YtolbceckbnifmaaGreat
