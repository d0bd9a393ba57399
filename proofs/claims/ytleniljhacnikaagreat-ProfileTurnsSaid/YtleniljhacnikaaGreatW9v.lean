/-
  Same, in the program and in the reference.
-/
import Derived.Test.YtleniljhacnikaaGreatW9l
import Derived.Shelf.Abstract
namespace Go.Proofs.YtleniljhacnikaaGreat
open Go.RowKit Go.Proofs Go.Shelf
attribute [local go_sem] cell?_more cell?_alloc_some cell?_setCell_far frozen?_alloc_some frozen?_more

/-- Two profiles are the same. -/
def sameB (c k : Int) (l : List Row) (c' k' : Int) (l' : List Row) : Bool := decide (c = c' ∧ k = k' ∧ l = l')
theorem sameB_iff {c k : Int} {l : List Row} {c' k' : Int} {l' : List Row} : sameB c k l c' k' l' = true ↔ c = c' ∧ k = k' ∧ l = l' := by simp [sameB]
theorem sameB_self (c k : Int) (l : List Row) : sameB c k l c k l = true := sameB_iff.2 ⟨rfl, rfl, rfl⟩
def rowsB (l l' : List Row) : Bool := decide (l = l')

theorem equalI_any (A A' : Option Addr) (n c n' c' : Nat) (xs ys : List Int) (w : World) (h : RInts w A n c xs) (h' : RInts w A' n' c' ys) :
    Calls Tryz.prog 44 #[.slice A n c, .slice A' n' c'] w fun e w' => e = .returned (.bool (xs == ys)) ∧ Below w.heap.size w w' := by
  have hn := h.le
  have hn' := h'.le
  have hl := h.len
  have hl' := h'.len
  by_cases hnn : n = n'
  · subst hnn
    go_enter Tryz.func44, Tryz.ntmps44
    go_wp2
    go_loopw [13] (fun i wr => ∃ k : Nat, k ≤ n ∧ i = .int .i64 k ∧ Hid ((xs == ys) = (xs.drop k == ys.drop k)) ∧ Below w.heap.size w wr) (fun i _ => n - (intOf i).toNat)
    case atStart => exact ⟨0, Nat.zero_le _, rfl, by simp [Hid], Below.refl _ _⟩
    case round =>
      obtain ⟨k, hk, rfl, hp, hb⟩ := hrel
      by_cases hlt : k < n
      · obtain ⟨b, off, v, rfl, hc, hd, _⟩ := (h.below hb).step hlt
        obtain ⟨b', off', u, rfl, hc', hd', _⟩ := (h'.below hb).step hlt
        have b1 : (0 : Int) ≤ (k : Int) := by omega
        have b2 : (k : Int) < (n : Int) := by omega
        by_cases hv : v = u
        · have hz : (v != u) = false := by simp [hv]
          have Hv := hide hv
          clear hv
          go_wp2
          refine wp_region_more (by kernel_rfl) (by kernel_rfl) ?_
          repeat (go_big_quiet_step (fail))
          refine wpQuiet_nil ?_
          rintro w1 ⟨qw1, hww1⟩
          have hbw1 := below_of_eq hww1
          clear hww1 qw1
          go_wp2
          go_roundw
          case rel => exact ⟨k + 1, by omega, by go_num, by unfold Hid; rw [hp.out, hd.out, hd'.out, Hv.out]; simp, Below_trans' hb hb.size hbw1⟩
          case measure => simp [intOf] <;> omega
        · have hz : (v != u) = true := by simp [hv]
          go_wp2
          refine wp_region_more (by kernel_rfl) (by kernel_rfl) ?_
          repeat (go_big_quiet_step (fail))
          refine wpQuiet_nil ?_
          rintro w1 ⟨qw1, hww1⟩
          have hbw1 := below_of_eq hww1
          clear hww1 qw1
          go_wp2
          go_ret
          exact ⟨ret_b (by rw [hp.out, hd.out, hd'.out]; simp [hv]), Below_trans' hb hb.size hbw1⟩
      · have hd := hide (h.done hlt)
        have hd' := hide (h'.done hlt)
        go_wp2
        go_ret
        exact ⟨ret_b (by rw [hp.out, hd.out, hd'.out]; simp), hb⟩
  · have hz : ((n : Int) != (n' : Int)) = true := by simp; omega
    have hne : (xs == ys) = false := by
      rw [← Bool.not_eq_true]; intro hh; rw [beq_iff_eq] at hh; subst hh; omega
    have Hne := hide hne
    clear hne
    go_enter Tryz.func44, Tryz.ntmps44
    go_wp2
    go_ret
    exact ⟨ret_b (by rw [Hne.out]), Below.refl _ _⟩

def rowB (a b : Row) : Bool := decide (a = b)
theorem same1_any (A : Option Addr) (n c : Nat) (ms : List Int) (y : Int) (A' : Option Addr) (n' c' : Nat) (ms' : List Int) (y' : Int) (w : World) (h : RInts w A n c ms) (h' : RInts w A' n' c' ms') :
    Calls Tryz.prog 43 #[.agg #[.slice A n c, .int .i64 y], .agg #[.slice A' n' c', .int .i64 y']] w fun e w' => e = .returned (.bool (rowB (ms, y) (ms', y'))) ∧ Below w.heap.size w w' := by
  have hb0 : Below w.heap.size w ((w.alloc (.cells #[.slice A n c, .int .i64 y] 47)).alloc (.cells #[.slice A' n' c', .int .i64 y'] 47)) := ((Below.refl _ _).alloc (Nat.le_refl _) _).alloc (by simp) _
  by_cases hy : y = y'
  · have hyb : (y == y') = true := by simp [hy]
    have Hv : Hid (rowB (ms, y) (ms', y') = (ms == ms')) := by unfold Hid rowB; subst hy; by_cases e : ms = ms' <;> simp [e]
    clear hy
    go_enter Tryz.func43, Tryz.ntmps43
    go_wp2_with fail
    refine (equalI_any A A' n c n' c' ms ms' _ (h.below hb0) (h'.below hb0)).mono ?_
    rintro e w1 ⟨rfl, hbw⟩
    go_wp2
    go_ret
    exact ⟨ret_b Hv.out.symm, Below_trans' hb0 hb0.size hbw⟩
  · have hyb : (y == y') = false := by simp [hy]
    have Hv : Hid (rowB (ms, y) (ms', y') = false) := by unfold Hid rowB; simp [hy]
    clear hy
    go_enter Tryz.func43, Tryz.ntmps43
    go_wp2
    go_ret
    exact ⟨ret_b Hv.out.symm, hb0⟩

theorem rowsB_step {l l' : List Row} {t : Nat} {a b : Row} (ha : l.drop t = a :: l.drop (t + 1)) (hb : l'.drop t = b :: l'.drop (t + 1)) : rowsB (l.drop t) (l'.drop t) = (rowB a b && rowsB (l.drop (t + 1)) (l'.drop (t + 1))) := by
  unfold rowsB rowB
  rw [ha, hb]
  by_cases e : a = b <;> simp [e]

set_option maxRecDepth 100000 in
theorem equalF_any (A : Option Addr) (n c : Nat) (l : List Row) (A' : Option Addr) (n' c' : Nat) (l' : List Row) (w : World) (h : RRows w A n c l) (h' : RRows w A' n' c' l') :
    Calls Tryz.prog 45 #[.slice A n c, .slice A' n' c', .func (.func 43) #[] #[]] w fun e w' => e = .returned (.bool (rowsB l l')) ∧ Below w.heap.size w w' := by
  have eg : ∀ args w, (callFunc 43 args).run Tryz.prog w = .ok (.enter 43 args) w := enters_of Tryz.func43 (by kernel_rfl) rfl
  have hn := h.le
  have hn' := h'.le
  have hl := hide h.len
  have hl' := hide h'.len
  by_cases hnn : n = n'
  · subst hnn
    go_enter Tryz.func45, Tryz.ntmps45
    go_wp2
    go_loopw [17] (fun i wr => ∃ k : Nat, k ≤ n ∧ i = .int .i64 k ∧ Hid (rowsB l l' = rowsB (l.drop k) (l'.drop k)) ∧ Below w.heap.size w wr) (fun i _ => n - (intOf i).toNat)
    case atStart => exact ⟨0, Nat.zero_le _, rfl, by simp [Hid], Below.refl _ _⟩
    case round =>
      obtain ⟨k, hk, rfl, hp, hb⟩ := hrel
      by_cases hlt : k < n
      · obtain ⟨b, off, Am, nm, cm, ms, y, rfl, hc0, hm0, hc1, hd, hat, hy⟩ := h.step hlt
        obtain ⟨b', off', Am', nm', cm', ms', y', rfl, hc0', hm0', hc1', hd', hat', hy'⟩ := h'.step hlt
        have p0 := keep_cell hb hc0
        have p1 := keep_cell hb hc1
        have q0 := keep_cell hb hc0'
        have q1 := keep_cell hb hc1'
        have b1 : (0 : Int) ≤ (k : Int) := by omega
        have b2 : (k : Int) < (n : Int) := by omega
        have Hst := hide (rowsB_step hd.out hd'.out)
        have hb3 := (hb.alloc hb.size (.cells #[.slice Am nm cm, .int .i64 y] 47)).alloc (by have := hb.size; simp; omega) (.cells #[.slice Am' nm' cm', .int .i64 y'] 47)
        cases hr : rowB (ms, y) (ms', y') with
        | true =>
          have Hr := hide hr
          clear hr
          go_wp2_with (go_at_fn 43; refine (same1_any Am nm cm ms y Am' nm' cm' ms' y' _ (hm0.below hb3) (hm0'.below hb3)).mono ?_; rintro e w4 ⟨rfl, hbw⟩; rw [Hr.out])
          have hb4 := Below_trans' hb3 hb3.size hbw
          clear hb hb3 hbw p0 p1 q0 q1
          go_roundw
          case rel => exact ⟨k + 1, by omega, by go_num, by unfold Hid; rw [hp.out, Hst.out, Hr.out, Bool.true_and], hb4⟩
          case measure => simp [intOf] <;> omega
        | false =>
          have Hr := hide hr
          clear hr
          go_wp2_with (go_at_fn 43; refine (same1_any Am nm cm ms y Am' nm' cm' ms' y' _ (hm0.below hb3) (hm0'.below hb3)).mono ?_; rintro e w4 ⟨rfl, hbw⟩; rw [Hr.out])
          go_ret
          exact ⟨ret_b (by rw [hp.out, Hst.out, Hr.out, Bool.false_and]), Below_trans' hb3 hb3.size hbw⟩
      · have hd := hide (h.done hlt)
        have hd' := hide (h'.done hlt)
        have b2 : ¬ (k : Int) < (n : Int) := by omega
        clear hlt hk
        go_wp2
        go_ret
        exact ⟨ret_b (by rw [hp.out, hd.out, hd'.out]; rfl), hb⟩
  · have hz : ((n : Int) != (n' : Int)) = true := by simp; omega
    have hne : Hid (rowsB l l' = false) := by
      unfold Hid rowsB
      rw [decide_eq_false_iff_not]; rintro rfl; exact hnn (by rw [← hl.out, ← hl'.out])
    clear hnn
    go_enter Tryz.func45, Tryz.ntmps45
    go_wp2
    go_ret
    exact ⟨ret_b hne.out.symm, Below.refl _ _⟩

set_option maxRecDepth 100000 in
theorem psame_any (c k : Int) (A : Option Addr) (n cp : Nat) (l : List Row) (c' k' : Int) (A' : Option Addr) (n' cp' : Nat) (l' : List Row) (w : World) (h : RRows w A n cp l) (h' : RRows w A' n' cp' l') :
    Calls Tryz.prog 21 #[.agg #[.int .i64 c, .int .u8 k, .slice A n cp], .agg #[.int .i64 c', .int .u8 k', .slice A' n' cp']] w fun e w' => e = .returned (.bool (sameB c k l c' k' l')) ∧ Below w.heap.size w w' := by
  have hS0 := ((Hs.nil w).alloc 24 #[.int .i64 c, .int .u8 k, .slice A n cp]).alloc 24 #[.int .i64 c', .int .u8 k', .slice A' n' cp']
  have hb0 : Below w.heap.size w ((w.alloc (.cells #[.int .i64 c, .int .u8 k, .slice A n cp] 24)).alloc (.cells #[.int .i64 c', .int .u8 k', .slice A' n' cp'] 24)) := ((Below.refl _ _).alloc (Nat.le_refl _) _).alloc (by simp) _
  simp only [World.size_alloc] at hS0
  by_cases hc : c = c'
  · have hcb : (c == c') = true := by simp [hc]
    by_cases hk : k = k'
    · have hkb : (k == k') = true := by simp [hk]
      have Hv : Hid (sameB c k l c' k' l' = rowsB l l') := by unfold Hid sameB rowsB; simp [hc, hk]
      clear hc hk
      go_enter Tryz.func21, Tryz.ntmps21
      go_wp2_with fail
      refine (equalF_any A n cp l A' n' cp' l' _ (h.below hb0) (h'.below hb0)).mono ?_
      rintro e w1 ⟨rfl, hbw⟩
      go_wp2
      go_ret
      exact ⟨ret_b Hv.out.symm, Below_trans' hb0 hb0.size hbw⟩
    · have hkb : (k == k') = false := by simp [hk]
      have Hv : Hid (sameB c k l c' k' l' = false) := by unfold Hid sameB; simp [hk]
      clear hc hk
      go_enter Tryz.func21, Tryz.ntmps21
      go_wp2
      go_ret
      exact ⟨ret_b Hv.out.symm, hb0⟩
  · have hcb : (c == c') = false := by simp [hc]
    have Hv : Hid (sameB c k l c' k' l' = false) := by unfold Hid sameB; simp [hc]
    clear hc
    go_enter Tryz.func21, Tryz.ntmps21
    go_wp2
    go_ret
    exact ⟨ret_b Hv.out.symm, hb0⟩

set_option maxRecDepth 100000 in
set_option maxHeartbeats 1000000 in
theorem rsame_any (c k : Int) (A : Option Addr) (n cp : Nat) (l : List Row) (c' k' : Int) (A' : Option Addr) (n' cp' : Nat) (l' : List Row) (w : World) (h : RRows w A n cp l) (h' : RRows w A' n' cp' l') :
    Calls Tryz.prog 14 #[.agg #[.int .i64 c, .int .u8 k, .slice A n cp], .agg #[.int .i64 c', .int .u8 k', .slice A' n' cp']] w fun e w' => e = .returned (.bool (sameB c k l c' k' l')) ∧ Below w.heap.size w w' := by
  have hn := h.le
  have hn' := h'.le
  have hl := hide h.len
  have hl' := hide h'.len
  have hS0 := ((Hs.nil w).alloc 24 #[.int .i64 c, .int .u8 k, .slice A n cp]).alloc 24 #[.int .i64 c', .int .u8 k', .slice A' n' cp']
  have hb0 : Below w.heap.size w ((w.alloc (.cells #[.int .i64 c, .int .u8 k, .slice A n cp] 24)).alloc (.cells #[.int .i64 c', .int .u8 k', .slice A' n' cp'] 24)) := ((Below.refl _ _).alloc (Nat.le_refl _) _).alloc (by simp) _
  simp only [World.size_alloc] at hS0
  by_cases hc : c = c'
  · have hcb : (c != c') = false := by simp [hc]
    by_cases hk : k = k'
    · have hkb : (k != k') = false := by simp [hk]
      have Hv : Hid (sameB c k l c' k' l' = rowsB l l') := by unfold Hid sameB rowsB; simp [hc, hk]
      clear hc hk
      by_cases hnn : n = n'
      · subst hnn
        go_enter Tryz.func14, Tryz.ntmps14
        go_wp2_with fail
        generalize hW : World.alloc (World.alloc _ _) _ = W0 at hS0 hb0
        try rw [hW]
        clear hW
        go_loopw [5] (fun i wr => ∃ t : Nat, t ≤ n ∧ i = .int .i64 t ∧ Hid (rowsB l l' = rowsB (l.drop t) (l'.drop t)) ∧ Below W0.heap.size W0 wr) (fun i _ => n - (intOf i).toNat)
        case atStart => exact ⟨0, Nat.zero_le _, rfl, by simp [Hid], Below.refl _ _⟩
        case round =>
          obtain ⟨t, hk, rfl, hp, hbr⟩ := hrel
          have hb := Below_trans' hb0 hb0.size hbr
          have hS := hS0.below hbr
          have p0 : wr.cell? ⟨w.heap.size, 0, none⟩ = some (.int .i64 c) := hS.2.1.cell 0
          have p1 : wr.cell? ⟨w.heap.size, 1, none⟩ = some (.int .u8 k) := hS.2.1.cell 1
          have p2 : wr.cell? ⟨w.heap.size, 2, none⟩ = some (.slice A n cp) := hS.2.1.cell 2
          have q0 : wr.cell? ⟨w.heap.size + 1, 0, none⟩ = some (.int .i64 c') := hS.1.cell 0
          have q1 : wr.cell? ⟨w.heap.size + 1, 1, none⟩ = some (.int .u8 k') := hS.1.cell 1
          have q2 : wr.cell? ⟨w.heap.size + 1, 2, none⟩ = some (.slice A' n cp') := hS.1.cell 2
          by_cases hlt : t < n
          · obtain ⟨b, off, Am, nm, cm, ms, y, rfl, hc0, hm0, hc1, hd, hat, hy⟩ := (h.below hb).step hlt
            obtain ⟨b', off', Am', nm', cm', ms', y', rfl, hc0', hm0', hc1', hd', hat', hy'⟩ := (h'.below hb).step hlt
            have b1 : (0 : Int) ≤ (t : Int) := by omega
            have b2 : (t : Int) < (n : Int) := by omega
            have Hst := hide (rowsB_step hd.out hd'.out)
            by_cases hyy : y = y'
            · have hyb : (y != y') = false := by simp [hyy]
              have Hr : Hid (rowB (ms, y) (ms', y') = (ms == ms')) := by unfold Hid rowB; subst hyy; by_cases e : ms = ms' <;> simp [e]
              clear hyy
              cases hms : ms == ms' with
              | true =>
                have Hms := hide hms
                clear hms
                go_upto_region 6 with fail
                refine wp_region_more (by kernel_rfl) (by kernel_rfl) ?_
                repeat (go_big_quiet_step ((with_reducible exact more_of (ints_any Am Am' nm cm nm' cm' ms ms' _ (hm0.more _) (hm0'.more _)))))
                refine wpQuiet_nil ?_
                rintro w1 ⟨qw1, hww1⟩
                have hbw1 := below_of_eq hww1
                clear hww1 qw1
                rw [Hms.out]
                go_wp2
                go_roundw
                case rel => exact ⟨t + 1, by omega, by go_num, by unfold Hid; rw [hp.out, Hst.out, Hr.out, Hms.out, Bool.true_and], Below_trans' hbr hbr.size hbw1⟩
                case measure => simp [intOf] <;> omega
              | false =>
                have Hms := hide hms
                clear hms
                go_upto_region 6 with fail
                refine wp_region_more (by kernel_rfl) (by kernel_rfl) ?_
                repeat (go_big_quiet_step ((with_reducible exact more_of (ints_any Am Am' nm cm nm' cm' ms ms' _ (hm0.more _) (hm0'.more _)))))
                refine wpQuiet_nil ?_
                rintro w1 ⟨qw1, hww1⟩
                have hbw1 := below_of_eq hww1
                clear hww1 qw1
                rw [Hms.out]
                go_wp2
                go_ret
                exact ⟨ret_b (by rw [Hv.out, hp.out, Hst.out, Hr.out, Hms.out, Bool.false_and]), Below_trans' hb hb.size hbw1⟩
            · have hyb : (y != y') = true := by simp [hyy]
              have Hr : Hid (rowB (ms, y) (ms', y') = false) := by unfold Hid rowB; simp [hyy]
              clear hyy
              go_upto_region 6 with fail
              refine wp_region_more (by kernel_rfl) (by kernel_rfl) ?_
              repeat (go_big_quiet_step (fail))
              refine wpQuiet_nil ?_
              rintro w1 ⟨qw1, hww1⟩
              have hbw1 := below_of_eq hww1
              clear hww1 qw1
              go_wp2
              go_ret
              exact ⟨ret_b (by rw [Hv.out, hp.out, Hst.out, Hr.out, Bool.false_and]), Below_trans' hb hb.size hbw1⟩
          · have hd : Hid (l.drop t = []) := (h.below hb).done hlt
            have hd' : Hid (l'.drop t = []) := (h'.below hb).done hlt
            have b2 : ¬ (t : Int) < (n : Int) := by omega
            clear hlt hk
            go_wp2
            go_ret
            exact ⟨ret_b (by rw [Hv.out, hp.out, hd.out, hd'.out]; rfl), hb⟩
      · have hz : ((n : Int) != (n' : Int)) = true := by simp; omega
        have hne : Hid (rowsB l l' = false) := by
          unfold Hid rowsB
          rw [decide_eq_false_iff_not]; rintro rfl; exact hnn (by rw [← hl.out, ← hl'.out])
        clear hnn
        go_enter Tryz.func14, Tryz.ntmps14
        go_wp2
        go_ret
        exact ⟨ret_b (by rw [Hv.out, hne.out]), hb0⟩
    · have hkb : (k != k') = true := by simp [hk]
      have Hv : Hid (sameB c k l c' k' l' = false) := by unfold Hid sameB; simp [hk]
      clear hc hk
      go_enter Tryz.func14, Tryz.ntmps14
      go_wp2
      go_ret
      exact ⟨ret_b Hv.out.symm, hb0⟩
  · have hcb : (c != c') = true := by simp [hc]
    have Hv : Hid (sameB c k l c' k' l' = false) := by unfold Hid sameB; simp [hc]
    clear hc
    go_enter Tryz.func14, Tryz.ntmps14
    go_wp2
    go_ret
    exact ⟨ret_b Hv.out.symm, hb0⟩
end Go.Proofs.YtleniljhacnikaaGreat
