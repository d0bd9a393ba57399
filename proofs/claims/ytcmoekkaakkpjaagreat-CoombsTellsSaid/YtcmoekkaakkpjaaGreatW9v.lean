/-
  Same, in the program and in the reference.
-/
import Derived.Test.YtcmoekkaakkpjaaGreatW9l
import Derived.Shelf.Abstract
namespace Go.Proofs.YtcmoekkaakkpjaaGreat
open Go.RowKit Go.Proofs Go.Shelf
attribute [local go_sem] cell?_more cell?_alloc_some cell?_setCell_far frozen?_alloc_some frozen?_more

/-- Two profiles are the same. -/
def sameB (c k : Int) (l : List Row) (c' k' : Int) (l' : List Row) : Bool := decide (c = c' ∧ k = k' ∧ l = l')
theorem sameB_iff {c k : Int} {l : List Row} {c' k' : Int} {l' : List Row} : sameB c k l c' k' l' = true ↔ c = c' ∧ k = k' ∧ l = l' := by simp [sameB]
theorem sameB_self (c k : Int) (l : List Row) : sameB c k l c k l = true := sameB_iff.2 ⟨rfl, rfl, rfl⟩
def rowsB (l l' : List Row) : Bool := decide (l = l')

def rowB (a b : Row) : Bool := decide (a = b)
theorem rowsB_step {l l' : List Row} {t : Nat} {a b : Row} (ha : l.drop t = a :: l.drop (t + 1)) (hb : l'.drop t = b :: l'.drop (t + 1)) : rowsB (l.drop t) (l'.drop t) = (rowB a b && rowsB (l.drop (t + 1)) (l'.drop (t + 1))) := by
  unfold rowsB rowB
  rw [ha, hb]
  by_cases e : a = b <;> simp [e]

set_option maxRecDepth 100000 in
set_option maxHeartbeats 1000000 in
theorem rsame_any (c k : Int) (A : Option Addr) (n cp : Nat) (l : List Row) (c' k' : Int) (A' : Option Addr) (n' cp' : Nat) (l' : List Row) (w : World) (h : RRows w A n cp l) (h' : RRows w A' n' cp' l') :
    Calls Tryz.prog 24 #[.agg #[.int .i64 c, .int .u8 k, .slice A n cp], .agg #[.int .i64 c', .int .u8 k', .slice A' n' cp']] w fun e w' => e = .returned (.bool (sameB c k l c' k' l')) ∧ Below w.heap.size w w' := by
  have hn := h.le
  have hn' := h'.le
  have hl := hide h.len
  have hl' := hide h'.len
  have hS0 := ((Hs.nil w).alloc 24 #[.int .i64 c, .int .u8 k, .slice A n cp]).alloc 24 #[.int .i64 c', .int .u8 k', .slice A' n' cp']
  have hb0 : Below w.heap.size w ((w.alloc (.cells #[.int .i64 c, .int .u8 k, .slice A n cp] 24)).alloc (.cells #[.int .i64 c', .int .u8 k', .slice A' n' cp'] 24)) := ((Below.refl _ _).alloc (Nat.le_refl _) _).alloc (by simp) _
  simp only [World.size_alloc] at hS0
  by_cases hc : c = c'
  · have hcb : (c != c') = false := by simp [hc]
    by_cases hk : k = k'
    · have hkb : (k != k') = false := by simp [hk]
      have Hv : Hid (sameB c k l c' k' l' = rowsB l l') := by unfold Hid sameB rowsB; simp [hc, hk]
      clear hc hk
      by_cases hnn : n = n'
      · subst hnn
        go_enter Tryz.func24, Tryz.ntmps24
        go_wp2_with fail
        generalize hW : World.alloc (World.alloc _ _) _ = W0 at hS0 hb0
        try rw [hW]
        clear hW
        go_loopw [5] (fun i wr => ∃ t : Nat, t ≤ n ∧ i = .int .i64 t ∧ Hid (rowsB l l' = rowsB (l.drop t) (l'.drop t)) ∧ Below W0.heap.size W0 wr) (fun i _ => n - (intOf i).toNat)
        case atStart => exact ⟨0, Nat.zero_le _, rfl, by simp [Hid], Below.refl _ _⟩
        case round =>
          obtain ⟨t, hk, rfl, hp, hbr⟩ := hrel
          have hb := Below_trans' hb0 hb0.size hbr
          have hS := hS0.below hbr
          have p0 : wr.cell? ⟨w.heap.size, 0, none⟩ = some (.int .i64 c) := hS.2.1.cell 0
          have p1 : wr.cell? ⟨w.heap.size, 1, none⟩ = some (.int .u8 k) := hS.2.1.cell 1
          have p2 : wr.cell? ⟨w.heap.size, 2, none⟩ = some (.slice A n cp) := hS.2.1.cell 2
          have q0 : wr.cell? ⟨w.heap.size + 1, 0, none⟩ = some (.int .i64 c') := hS.1.cell 0
          have q1 : wr.cell? ⟨w.heap.size + 1, 1, none⟩ = some (.int .u8 k') := hS.1.cell 1
          have q2 : wr.cell? ⟨w.heap.size + 1, 2, none⟩ = some (.slice A' n cp') := hS.1.cell 2
          by_cases hlt : t < n
          · obtain ⟨b, off, Am, nm, cm, ms, y, rfl, hc0, hm0, hc1, hd, hat, hy⟩ := (h.below hb).step hlt
            obtain ⟨b', off', Am', nm', cm', ms', y', rfl, hc0', hm0', hc1', hd', hat', hy'⟩ := (h'.below hb).step hlt
            have b1 : (0 : Int) ≤ (t : Int) := by omega
            have b2 : (t : Int) < (n : Int) := by omega
            have Hst := hide (rowsB_step hd.out hd'.out)
            by_cases hyy : y = y'
            · have hyb : (y != y') = false := by simp [hyy]
              have Hr : Hid (rowB (ms, y) (ms', y') = (ms == ms')) := by unfold Hid rowB; subst hyy; by_cases e : ms = ms' <;> simp [e]
              clear hyy
              cases hms : ms == ms' with
              | true =>
                have Hms := hide hms
                clear hms
                go_upto_region 6 with fail
                refine wp_region_more (by kernel_rfl) (by kernel_rfl) ?_
                repeat (go_big_quiet_step ((with_reducible exact more_of (ints_any Am Am' nm cm nm' cm' ms ms' _ (hm0.more _) (hm0'.more _)))))
                refine wpQuiet_nil ?_
                rintro w1 ⟨qw1, hww1⟩
                have hbw1 := below_of_eq hww1
                clear hww1 qw1
                rw [Hms.out]
                go_wp2
                go_roundw
                case rel => exact ⟨t + 1, by omega, by go_num, by unfold Hid; rw [hp.out, Hst.out, Hr.out, Hms.out, Bool.true_and], Below_trans' hbr hbr.size hbw1⟩
                case measure => simp [intOf] <;> omega
              | false =>
                have Hms := hide hms
                clear hms
                go_upto_region 6 with fail
                refine wp_region_more (by kernel_rfl) (by kernel_rfl) ?_
                repeat (go_big_quiet_step ((with_reducible exact more_of (ints_any Am Am' nm cm nm' cm' ms ms' _ (hm0.more _) (hm0'.more _)))))
                refine wpQuiet_nil ?_
                rintro w1 ⟨qw1, hww1⟩
                have hbw1 := below_of_eq hww1
                clear hww1 qw1
                rw [Hms.out]
                go_wp2
                go_ret
                exact ⟨ret_b (by rw [Hv.out, hp.out, Hst.out, Hr.out, Hms.out, Bool.false_and]), Below_trans' hb hb.size hbw1⟩
            · have hyb : (y != y') = true := by simp [hyy]
              have Hr : Hid (rowB (ms, y) (ms', y') = false) := by unfold Hid rowB; simp [hyy]
              clear hyy
              go_upto_region 6 with fail
              refine wp_region_more (by kernel_rfl) (by kernel_rfl) ?_
              repeat (go_big_quiet_step (fail))
              refine wpQuiet_nil ?_
              rintro w1 ⟨qw1, hww1⟩
              have hbw1 := below_of_eq hww1
              clear hww1 qw1
              go_wp2
              go_ret
              exact ⟨ret_b (by rw [Hv.out, hp.out, Hst.out, Hr.out, Bool.false_and]), Below_trans' hb hb.size hbw1⟩
          · have hd : Hid (l.drop t = []) := (h.below hb).done hlt
            have hd' : Hid (l'.drop t = []) := (h'.below hb).done hlt
            have b2 : ¬ (t : Int) < (n : Int) := by omega
            clear hlt hk
            go_wp2
            go_ret
            exact ⟨ret_b (by rw [Hv.out, hp.out, hd.out, hd'.out]; rfl), hb⟩
      · have hz : ((n : Int) != (n' : Int)) = true := by simp; omega
        have hne : Hid (rowsB l l' = false) := by
          unfold Hid rowsB
          rw [decide_eq_false_iff_not]; rintro rfl; exact hnn (by rw [← hl.out, ← hl'.out])
        clear hnn
        go_enter Tryz.func24, Tryz.ntmps24
        go_wp2
        go_ret
        exact ⟨ret_b (by rw [Hv.out, hne.out]), hb0⟩
    · have hkb : (k != k') = true := by simp [hk]
      have Hv : Hid (sameB c k l c' k' l' = false) := by unfold Hid sameB; simp [hk]
      clear hc hk
      go_enter Tryz.func24, Tryz.ntmps24
      go_wp2
      go_ret
      exact ⟨ret_b Hv.out.symm, hb0⟩
  · have hcb : (c != c') = true := by simp [hc]
    have Hv : Hid (sameB c k l c' k' l' = false) := by unfold Hid sameB; simp [hc]
    clear hc
    go_enter Tryz.func24, Tryz.ntmps24
    go_wp2
    go_ret
    exact ⟨ret_b Hv.out.symm, hb0⟩
end Go.Proofs.YtcmoekkaakkpjaaGreat
