/-
  The reference's Twin, whole.
  Same, in the program and in the reference.
-/
import Derived.Test.YtolbceckbnifmaaGreatApp
import Derived.Test.YtolbceckbnifmaaGreatW9m
import Derived.Test.YtolbceckbnifmaaGreatW9i
import Derived.Shelf.Abstract
namespace Go.Proofs.YtolbceckbnifmaaGreat
open Go.RowKit Go.Proofs
attribute [local go_sem] cell?_more cell?_alloc_some cell?_setCell_far frozen?_alloc_some frozen?_more
section
variable {ops : Array Oper} {o : Oper} {a : Act} {w : World} {Q : Exit → Act → World → Prop} {K : Act → World → Prop} {E : Prop}
/-- A row of one's own is appended, at a step of a region that draws. -/
theorem stepOwn (hg : o.guard = none) {s x : Operand} (ho : o.op = .call { callee := .builtin .append, args := #[s, x], argTypes := #[25, 25] }) {B : Nat} {v : Value} {l : List Row} (hs : a.eval s = v) {gx : Nat} (hx : a.eval x = .slice (some ⟨gx, 0, none⟩) 1 1) (hown : ORows w B v l)
    {u : Value} {y : Int} {ms : List Int} (h0 : w.cell? ⟨gx, 0, none⟩ = some u) (h1 : w.cell? ⟨gx, 1, none⟩ = some (.int .i64 y)) (hu : OMarks w B v.ownBlock u ms) (hy : I64 y) (hn : l.length + 1 ≤ 1000000) (hB : B ≤ w.heap.size)
    (hK : ∀ v' w', ORows w' B v' (l ++ [(ms, y)]) → w.grownBy w' v.ownBlock → (v'.ownBlock = v.ownBlock ∨ v'.ownBlock = some w.heap.size) → K (a.put o.dst v') w') : if Region.wanted o (yielded ops a.tmps) = true then Oper.wp Tryz.prog o a w K Q else E := by
  obtain ⟨v', w', h1, h2, h3, h4⟩ := run_appOwn w o.type hown h0 h1 hu hy hn hB
  exact step_app hg ho hs hx h1 (hK v' w' h2 h3 h4)
end

/-- Numbers that were made now are marks of one's own, in another block than v's. -/
theorem omarks_new {w : World} {H B : Nat} {A : Option Addr} {n c : Nat} {xs : List Int} {g : Option Nat} (h : Own w H (.slice A n c) xs) (hx : ∀ x ∈ xs, -9223372036854775808 ≤ x ∧ x ≤ 9223372036854775807) (hB : B ≤ H) (hg : ∀ k, g = some k → k < H) : OMarks w B g (.slice A n c) xs := by
  refine ⟨A, n, c, rfl, h.ints hx, fun hn => ?_⟩
  obtain ⟨h1, h2⟩ := h
  rcases h2 with ⟨e, e2⟩ | ⟨gg, cap, cur, e, hb, hgg, hnc, hcm, hcs, ht⟩
  · cases e; omega
  · cases e
    exact ⟨gg, 0, rfl, by omega, fun e => by have := hg gg e.symm; omega, fun i _ => frozen_of_row w gg _ cur 3 hgg⟩

set_option maxRecDepth 100000 in
set_option maxHeartbeats 4000000 in
theorem rtwin_any (c k : Int) (A : Option Addr) (n cp : Nat) (l : List Row) (w : World) (h : RRows w A n cp l) (hn : n ≤ 1000) (hm : ∀ r ∈ l, r.1.length ≤ 1000) :
    Calls Tryz.prog 11 #[.agg #[.int .i64 c, .int .u8 k, .slice A n cp]] w (TwinPost w c k l) := by
  have hl := h.len
  have Hm := hide hm
  clear hm
  have hS0 := ((Hs.nil w).alloc 27 #[.int .i64 c, .int .u8 k, .slice A n cp]).alloc 27 #[.int .i64 0, .int .u8 0, .slice none 0 0]
  have hb0 : Below w.heap.size w ((w.alloc (.cells #[.int .i64 c, .int .u8 k, .slice A n cp] 27)).alloc (.cells #[.int .i64 0, .int .u8 0, .slice none 0 0] 27)) := ((Below.refl _ _).alloc (Nat.le_refl _) _).alloc (by simp) _
  have hz0 : w.heap.size + 2 ≤ ((w.alloc (.cells #[.int .i64 c, .int .u8 k, .slice A n cp] 27)).alloc (.cells #[.int .i64 0, .int .u8 0, .slice none 0 0] 27)).heap.size := by simp
  simp only [World.size_alloc] at hS0
  go_enter Tryz.func11, Tryz.ntmps11
  go_wp2_with fail
  generalize hW : World.alloc (World.alloc _ _) _ = W0 at hS0 hb0 hz0
  try rw [hW]
  clear hW
  go_loopw [3, 4] (fun u i wr => ∃ (t : Nat) (v : Value), t ≤ n ∧ v = u ∧ i = .int .i64 t ∧ ORows wr (w.heap.size + 2) v (l.take t) ∧ Has wr w.heap.size 27 #[.int .i64 c, .int .u8 k, .slice A n cp] ∧ Has wr (w.heap.size + 1) 27 #[.int .i64 0, .int .u8 0, .slice none 0 0] ∧ Below w.heap.size w wr ∧ w.heap.size + 2 ≤ wr.heap.size) (fun _ i _ => n - (intOf i).toNat)
  case atStart => exact ⟨0, _, Nat.zero_le _, rfl, rfl, by rw [List.take_zero]; exact ORows.nil_ _ _, hS0.2.1, hS0.1, hb0, hz0⟩
  case round =>
    clear hS0 hb0 hz0
    obtain ⟨t, v, ht, rfl, rfl, hO, hP, hR, hb, hz⟩ := hrel
    by_cases hlt : t < n
    · obtain ⟨b, off, Am, nm, cm, ms, y, rfl, hc0w, hm0, hc1w, hd, hat, hy⟩ := h.step hlt
      have lb : b < w.heap.size := World.block_lt_of_cell? w _ hc0w
      have hc0 := keep_cell hb hc0w
      have hc1 := keep_cell hb hc1w
      have hp2 : wr.cell? ⟨w.heap.size, 2, none⟩ = some (.slice (some ⟨b, off, none⟩) n cp) := hP.cell 2
      have hmsl : ms.length ≤ 1000 := Hm.out _ (List.mem_of_getElem? hat.out)
      have hat2 : Hid (l.take (t + 1) = l.take t ++ [(ms, y)]) := by unfold Hid; rw [List.take_add_one, hat.out]; rfl
      have htl : (l.take t).length ≤ 1000 := by rw [List.length_take]; omega
      have b1 : (0 : Int) ≤ (t : Int) := by omega
      have b2 : (t : Int) < (n : Int) := by omega
      have hbz : Below wr.heap.size wr (wr.alloc (.cells #[] 3)).drew := ((Below.refl wr.heap.size wr).alloc (Nat.le_refl _) (.cells #[] 3)).drew
      have hOz : Own (wr.alloc (.cells #[] 3)).drew wr.heap.size (.slice (some ⟨wr.heap.size, 0, none⟩) 0 0) [] := World.ownsRow_made wr #[] 0 (Nat.le_refl _) (by unfold maxLen; omega) rfl
      have hmz := (hm0.below hb).below hbz
      have hmn := hide hmz.len
      have hol := fun k hk => hO.own_lt (k := k) hk
      have Hz := hide (show ∀ q : Nat, q < wr.heap.size → q < (wr.alloc (.cells #[] 3)).drew.heap.size from fun q hq => by simp; omega)
      clear hd
      go_upto_region 5 with fail
      go_region_held3 (fun w' => w'.cell? ⟨w.heap.size, 2, none⟩ = some (.slice (some ⟨b, off, none⟩) n cp) ∧ w'.cell? ⟨b, off + t * 2, none⟩ = some (.slice Am nm cm) ∧ w'.cell? ⟨b, off + t * 2 + 1, none⟩ = some (.int .i64 y))
        (first
          | go_keep
          | exact ⟨(hg4.cell_far _ (Hz.out _ (by show w.heap.size < _; omega)) (fun e => by have e : w.heap.size = wr.heap.size := Option.some.inj e; omega)).trans (keep_cell hbz hp2), (hg4.cell_far _ (Hz.out _ (by show b < _; omega)) (fun e => by have e : b = wr.heap.size := Option.some.inj e; omega)).trans (keep_cell hbz hc0), (hg4.cell_far _ (Hz.out _ (by show b < _; omega)) (fun e => by have e : b = wr.heap.size := Option.some.inj e; omega)).trans (keep_cell hbz hc1)⟩
          | exact ⟨hP6.cell 2, keep_cell hb7 hc0w, keep_cell hb7 hc1w⟩)
        (first
          | ((refine stepInts rfl (s := .tmp 13) (x := .tmp 19) rfl (by simp [Act.eval]) (by simp [Act.eval]) hOz hmz (by have := hmn.out; simp; omega) (by simp) ?_; intro v4 w4 h42 hg4 _; rw [List.nil_append] at h42; obtain ⟨A4, c4, rfl⟩ := h42.slice; have hb4 : Below wr.heap.size wr w4 := Frame'.below hbz (Frame'.of_grown hg4) (fun k e => by have e : k = wr.heap.size := Option.some.inj e; omega) hbz.size; have hb5 := Below_trans' hb4 hb4.size ((Below.refl w4.heap.size w4).alloc (Nat.le_refl _) (.cells #[.slice A4 ms.length c4, .int .i64 y] 80)); have hO5 := hO.below hb5; have hr5 := (Has.new w4 80 #[.slice A4 ms.length c4, .int .i64 y]); have hB5 := Nat.le_trans hz hb5.size; have hu5 : OMarks (w4.alloc (.cells #[.slice A4 ms.length c4, .int .i64 y] 80)) (w.heap.size + 2) v.ownBlock (.slice A4 ms.length c4) ms := OMarks.frame (S := fun _ => False) (omarks_new (h42) (fun x hx => hm0.bd hx) hz (fun k hk => (hol k hk).2)) (Frame'.of_below ((Below.refl w4.heap.size w4).alloc (Nat.le_refl _) _)) (fun _ _ _ h => h)))
          | (refine stepOwn rfl (s := .tmp 12) (x := .tmp 28) rfl (by simp [Act.eval]) (by simp [Act.eval]) hO5 (hr5.cell 0) (hr5.cell 1) (hu5) hy (by omega) hB5 ?_; intro v6 w6 hO6 hg6 _; have hb7 : Below w.heap.size w w6 := Frame'.below (Below_trans' hb hb.size hb5) (Frame'.of_grown hg6) (fun k e => by have := (hol k e.symm).1; omega) (Below_trans' hb hb.size hb5).size; have hP6 := (Frame'.of_grown hg6).has (hP.below hb5 hP.lt) (fun e => by have := (hol _ e.symm).1; omega); have hR6 := (Frame'.of_grown hg6).has (hR.below hb5 hR.lt) (fun e => by have := (hol _ e.symm).1; omega)))
      rw [← hat2.out] at hO6
      have hz6 := Nat.le_trans hB5 hg6.size
      clear hO5 hr5 hu5 hB5 hb5 hb4 hg6 hg4 h42 hOz hmz hbz Hz hol hO hP hR hb hz hc0 hc1 hc0w hc1w hp2
      go_wp2
      go_roundw
      case rel => exact ⟨t + 1, v6, by omega, rfl, by go_num, hO6, hP6, hR6, hb7, hz6⟩
      case measure => simp [intOf] <;> omega
    · have htn : Hid (l.take t = l) := List.take_of_length_le (by omega)
      rw [htn.out] at hO
      have b2 : ¬ (t : Int) < n := by omega
      clear hlt ht
      obtain ⟨Aw, nw, cw, rfl⟩ : ∃ Av nv cv, v = .slice Av nv cv := by
        rcases hO.slice with ⟨e, _⟩ | ⟨g', cap, cur, e, _⟩
        · exact ⟨none, 0, 0, e⟩
        · exact ⟨_, _, _, e⟩
      have p2 : wr.cell? ⟨w.heap.size, 2, none⟩ = some (.slice A n cp) := hP.cell 2
      have f2 := hP.free 2
      have k7 : Frame' (fun b => b = w.heap.size) wr (wr.setCell ⟨w.heap.size, 2, none⟩ (.slice Aw nw cw)) := Frame'.setCell (p := ⟨w.heap.size, 2, none⟩) (Frame'.refl (fun b => b = w.heap.size) wr) (.inl rfl) _
      have hP7 : Has (wr.setCell ⟨w.heap.size, 2, none⟩ (.slice Aw nw cw)) w.heap.size 27 #[.int .i64 c, .int .u8 k, .slice Aw nw cw] := hP.put 2 (.slice Aw nw cw)
      have hR7 := k7.has hR (by show ¬ (w.heap.size + 1 = w.heap.size); omega)
      have hO7 := hO.frame k7 (fun b hb _ e => by have e : b = w.heap.size := e; omega)
      have hb7 := hb.setCell (p := ⟨w.heap.size, 2, none⟩) (Nat.le_refl _) (.slice Aw nw cw)
      go_upto_region 7 with fail
      generalize World.setCell wr _ _ = W7 at hP7 hR7 hO7 hb7 ⊢
      clear k7 p2 f2 hP hR hO hb hz
      have p0 : W7.cell? ⟨w.heap.size, 0, none⟩ = some (.int .i64 c) := hP7.cell 0
      have p1 : W7.cell? ⟨w.heap.size, 1, none⟩ = some (.int .u8 k) := hP7.cell 1
      have p2 : W7.cell? ⟨w.heap.size, 2, none⟩ = some (.slice Aw nw cw) := hP7.cell 2
      have r0 : W7.cell? ⟨w.heap.size + 1, 0, none⟩ = some (.int .i64 0) := hR7.cell 0
      have r1 : W7.cell? ⟨w.heap.size + 1, 1, none⟩ = some (.int .u8 0) := hR7.cell 1
      have r2 : W7.cell? ⟨w.heap.size + 1, 2, none⟩ = some (.slice none 0 0) := hR7.cell 2
      have f0 := hR7.free 0
      have f1 := hR7.free 1
      have f2 := hR7.free 2
      go_wp2
      refine retProf rfl rfl (put3 hR7) rfl rfl ⟨_, rfl, ?_, below3 hb7 (by omega) _ _ _⟩
      exact (hO7.frame (frame3 W7 _ _ _ _) (fun b hB _ e => by have e : b = w.heap.size + 1 := e; omega)).mono (by omega)
end Go.Proofs.YtolbceckbnifmaaGreat

namespace Go.Proofs.YtolbceckbnifmaaGreat
open Go.RowKit Go.Proofs Go.Shelf
attribute [local go_sem] cell?_more cell?_alloc_some cell?_setCell_far frozen?_alloc_some frozen?_more
/-- Two profiles are the same. -/
def sameB (c k : Int) (l : List Row) (c' k' : Int) (l' : List Row) : Bool := decide (c = c' ∧ k = k' ∧ l = l')
theorem sameB_iff {c k : Int} {l : List Row} {c' k' : Int} {l' : List Row} : sameB c k l c' k' l' = true ↔ c = c' ∧ k = k' ∧ l = l' := by simp [sameB]
theorem sameB_self (c k : Int) (l : List Row) : sameB c k l c k l = true := sameB_iff.2 ⟨rfl, rfl, rfl⟩
def rowsB (l l' : List Row) : Bool := decide (l = l')

def rowB (a b : Row) : Bool := decide (a = b)
theorem rowsB_step {l l' : List Row} {t : Nat} {a b : Row} (ha : l.drop t = a :: l.drop (t + 1)) (hb : l'.drop t = b :: l'.drop (t + 1)) : rowsB (l.drop t) (l'.drop t) = (rowB a b && rowsB (l.drop (t + 1)) (l'.drop (t + 1))) := by
  unfold rowsB rowB
  rw [ha, hb]
  by_cases e : a = b <;> simp [e]

set_option maxRecDepth 100000 in
set_option maxHeartbeats 1000000 in
theorem rsame_any (c k : Int) (A : Option Addr) (n cp : Nat) (l : List Row) (c' k' : Int) (A' : Option Addr) (n' cp' : Nat) (l' : List Row) (w : World) (h : RRows w A n cp l) (h' : RRows w A' n' cp' l') :
    Calls Tryz.prog 20 #[.agg #[.int .i64 c, .int .u8 k, .slice A n cp], .agg #[.int .i64 c', .int .u8 k', .slice A' n' cp']] w fun e w' => e = .returned (.bool (sameB c k l c' k' l')) ∧ Below w.heap.size w w' := by
  have hn := h.le
  have hn' := h'.le
  have hl := hide h.len
  have hl' := hide h'.len
  have hS0 := ((Hs.nil w).alloc 27 #[.int .i64 c, .int .u8 k, .slice A n cp]).alloc 27 #[.int .i64 c', .int .u8 k', .slice A' n' cp']
  have hb0 : Below w.heap.size w ((w.alloc (.cells #[.int .i64 c, .int .u8 k, .slice A n cp] 27)).alloc (.cells #[.int .i64 c', .int .u8 k', .slice A' n' cp'] 27)) := ((Below.refl _ _).alloc (Nat.le_refl _) _).alloc (by simp) _
  simp only [World.size_alloc] at hS0
  by_cases hc : c = c'
  · have hcb : (c != c') = false := by simp [hc]
    by_cases hk : k = k'
    · have hkb : (k != k') = false := by simp [hk]
      have Hv : Hid (sameB c k l c' k' l' = rowsB l l') := by unfold Hid sameB rowsB; simp [hc, hk]
      clear hc hk
      by_cases hnn : n = n'
      · subst hnn
        go_enter Tryz.func20, Tryz.ntmps20
        go_wp2_with fail
        generalize hW : World.alloc (World.alloc _ _) _ = W0 at hS0 hb0
        try rw [hW]
        clear hW
        go_loopw [5] (fun i wr => ∃ t : Nat, t ≤ n ∧ i = .int .i64 t ∧ Hid (rowsB l l' = rowsB (l.drop t) (l'.drop t)) ∧ Below W0.heap.size W0 wr) (fun i _ => n - (intOf i).toNat)
        case atStart => exact ⟨0, Nat.zero_le _, rfl, by simp [Hid], Below.refl _ _⟩
        case round =>
          obtain ⟨t, hk, rfl, hp, hbr⟩ := hrel
          have hb := Below_trans' hb0 hb0.size hbr
          have hS := hS0.below hbr
          have p0 : wr.cell? ⟨w.heap.size, 0, none⟩ = some (.int .i64 c) := hS.2.1.cell 0
          have p1 : wr.cell? ⟨w.heap.size, 1, none⟩ = some (.int .u8 k) := hS.2.1.cell 1
          have p2 : wr.cell? ⟨w.heap.size, 2, none⟩ = some (.slice A n cp) := hS.2.1.cell 2
          have q0 : wr.cell? ⟨w.heap.size + 1, 0, none⟩ = some (.int .i64 c') := hS.1.cell 0
          have q1 : wr.cell? ⟨w.heap.size + 1, 1, none⟩ = some (.int .u8 k') := hS.1.cell 1
          have q2 : wr.cell? ⟨w.heap.size + 1, 2, none⟩ = some (.slice A' n cp') := hS.1.cell 2
          by_cases hlt : t < n
          · obtain ⟨b, off, Am, nm, cm, ms, y, rfl, hc0, hm0, hc1, hd, hat, hy⟩ := (h.below hb).step hlt
            obtain ⟨b', off', Am', nm', cm', ms', y', rfl, hc0', hm0', hc1', hd', hat', hy'⟩ := (h'.below hb).step hlt
            have b1 : (0 : Int) ≤ (t : Int) := by omega
            have b2 : (t : Int) < (n : Int) := by omega
            have Hst := hide (rowsB_step hd.out hd'.out)
            by_cases hyy : y = y'
            · have hyb : (y != y') = false := by simp [hyy]
              have Hr : Hid (rowB (ms, y) (ms', y') = (ms == ms')) := by unfold Hid rowB; subst hyy; by_cases e : ms = ms' <;> simp [e]
              clear hyy
              cases hms : ms == ms' with
              | true =>
                have Hms := hide hms
                clear hms
                go_upto_region 6 with fail
                refine wp_region_more (by kernel_rfl) (by kernel_rfl) ?_
                repeat (go_big_quiet_step ((with_reducible exact more_of (ints_any Am Am' nm cm nm' cm' ms ms' _ (hm0.more _) (hm0'.more _)))))
                refine wpQuiet_nil ?_
                rintro w1 ⟨qw1, hww1⟩
                have hbw1 := below_of_eq hww1
                clear hww1 qw1
                rw [Hms.out]
                go_wp2
                go_roundw
                case rel => exact ⟨t + 1, by omega, by go_num, by unfold Hid; rw [hp.out, Hst.out, Hr.out, Hms.out, Bool.true_and], Below_trans' hbr hbr.size hbw1⟩
                case measure => simp [intOf] <;> omega
              | false =>
                have Hms := hide hms
                clear hms
                go_upto_region 6 with fail
                refine wp_region_more (by kernel_rfl) (by kernel_rfl) ?_
                repeat (go_big_quiet_step ((with_reducible exact more_of (ints_any Am Am' nm cm nm' cm' ms ms' _ (hm0.more _) (hm0'.more _)))))
                refine wpQuiet_nil ?_
                rintro w1 ⟨qw1, hww1⟩
                have hbw1 := below_of_eq hww1
                clear hww1 qw1
                rw [Hms.out]
                go_wp2
                go_ret
                exact ⟨ret_b (by rw [Hv.out, hp.out, Hst.out, Hr.out, Hms.out, Bool.false_and]), Below_trans' hb hb.size hbw1⟩
            · have hyb : (y != y') = true := by simp [hyy]
              have Hr : Hid (rowB (ms, y) (ms', y') = false) := by unfold Hid rowB; simp [hyy]
              clear hyy
              go_upto_region 6 with fail
              refine wp_region_more (by kernel_rfl) (by kernel_rfl) ?_
              repeat (go_big_quiet_step (fail))
              refine wpQuiet_nil ?_
              rintro w1 ⟨qw1, hww1⟩
              have hbw1 := below_of_eq hww1
              clear hww1 qw1
              go_wp2
              go_ret
              exact ⟨ret_b (by rw [Hv.out, hp.out, Hst.out, Hr.out, Bool.false_and]), Below_trans' hb hb.size hbw1⟩
          · have hd : Hid (l.drop t = []) := (h.below hb).done hlt
            have hd' : Hid (l'.drop t = []) := (h'.below hb).done hlt
            have b2 : ¬ (t : Int) < (n : Int) := by omega
            clear hlt hk
            go_wp2
            go_ret
            exact ⟨ret_b (by rw [Hv.out, hp.out, hd.out, hd'.out]; rfl), hb⟩
      · have hz : ((n : Int) != (n' : Int)) = true := by simp; omega
        have hne : Hid (rowsB l l' = false) := by
          unfold Hid rowsB
          rw [decide_eq_false_iff_not]; rintro rfl; exact hnn (by rw [← hl.out, ← hl'.out])
        clear hnn
        go_enter Tryz.func20, Tryz.ntmps20
        go_wp2
        go_ret
        exact ⟨ret_b (by rw [Hv.out, hne.out]), hb0⟩
    · have hkb : (k != k') = true := by simp [hk]
      have Hv : Hid (sameB c k l c' k' l' = false) := by unfold Hid sameB; simp [hk]
      clear hc hk
      go_enter Tryz.func20, Tryz.ntmps20
      go_wp2
      go_ret
      exact ⟨ret_b Hv.out.symm, hb0⟩
  · have hcb : (c != c') = true := by simp [hc]
    have Hv : Hid (sameB c k l c' k' l' = false) := by unfold Hid sameB; simp [hc]
    clear hc
    go_enter Tryz.func20, Tryz.ntmps20
    go_wp2
    go_ret
    exact ⟨ret_b Hv.out.symm, hb0⟩
end Go.Proofs.YtolbceckbnifmaaGreat
