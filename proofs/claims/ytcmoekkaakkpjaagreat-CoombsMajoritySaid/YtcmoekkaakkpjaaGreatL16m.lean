/-
  Majorities in a Coombs count, in plain terms; the law CoombsMajority.
-/
import Derived.Test.YtcmoekkaakkpjaaGreatSpecBs
import Derived.Test.YtcmoekkaakkpjaaGreatSpecMj
import Derived.Test.YtcmoekkaakkpjaaGreatW16c
import Derived.Test.YtcmoekkaakkpjaaGreatFlow2
import Derived.Deep.CutBlock
namespace Go.Proofs.YtcmoekkaakkpjaaGreat
open Go.RowKit Go.Proofs Go.Shelf
attribute [local go_sem] cell?_more cell?_alloc_some cell?_setCell_far frozen?_alloc_some frozen?_more

/-- A ballot that ranks as many as there are ranks all. -/
theorem allFull {ms : List Int} {C : Nat} (hn : ms.Nodup) (hm : ∀ x ∈ ms, 0 ≤ x ∧ x < (C : Int)) (hl : ms.length = C) {left : List Int} (hs : left.Sublist (rangeI C)) : left.all (inL ms) = true := by
  refine List.all_eq_true.2 fun x hx => inL_iff.2 ?_
  exact (perm_of_subset hn (fun y hy => mem_rangeI.2 (hm y hy)) (by rw [length_rangeI]; omega)).symm.subset (hs.subset hx)
/-- Do the first t ballots rank all? -/
def fullM (l : List Row) (C t : Nat) : Bool := (l.take t).all fun r => decide (r.1.length = C)
theorem fullM_succ {l : List Row} {C t : Nat} {ms : List Int} {y : Int} (h : l[t]? = some (ms, y)) : fullM l C (t + 1) = (fullM l C t && decide (ms.length = C)) := by
  unfold fullM; rw [List.take_add_one, h, List.all_append]; simp

theorem mayCm_any (c k : Int) (A : Option Addr) (n cp : Nat) (l : List Row) (At : Option Addr) (nt ct : Nat) (lot : List Int) (w : World) (h : RRows w A n cp l) (h' : RInts w At nt ct lot) :
    Calls Tryz.prog 38 #[.agg #[.int .i64 c, .int .u8 k, .slice A n cp], .slice At nt ct] w fun e w' => e = .returned (.bool (mayS c k l 1 1 1 lot == 0)) ∧ Below w.heap.size w w' := by
  have hb0 : Below w.heap.size w (w.alloc (.cells #[.int .i64 c, .int .u8 k, .slice A n cp] 24)) := below_allocN
  have hP0 := Has.new w 24 #[.int .i64 c, .int .u8 k, .slice A n cp]
  generalize hW : World.alloc w _ = W0 at hb0 hP0
  have p0 := hP0.cell 0
  have p1 := hP0.cell 1
  have p2 := hP0.cell 2
  go_enter Tryz.func38, Tryz.ntmps38
  go_wp2_with fail
  try simp only [hW]
  clear hW
  refine (may_any c k A n cp l 1 1 1 At nt ct lot W0 (h.below hb0) (h'.below hb0)).mono ?_
  rintro e w1 ⟨rfl, hb1⟩
  go_wp2
  go_ret
  exact ⟨rfl, Below_trans' hb0 hb0.size hb1⟩

theorem win_first {l : List Row} {C : Nat} (hr : RankOK l C) {c : Int} (hc : 0 ≤ c ∧ c < C) (h : totS l < 2 * hadS (fun _ => true) l c) : winS (rangeI C) (hadL (inL (rangeI C)) l C) = some c := by
  have e : hadS (inL (rangeI C)) l c = hadS (fun _ => true) l c := wsum_congr fun r hr' => by
    have : r.1.find? (inL (rangeI C)) = r.1.find? (fun _ => true) := by
      cases hl : r.1 with
      | nil => rfl
      | cons a t =>
        have ha := hr.marks r hr' a (by rw [hl]; simp)
        rw [List.find?_cons, inL_iff.2 (mem_rangeI.2 ha)]; rfl
    rw [this]
  have hsum := had_sum (φ := inL (rangeI C)) hr
  have hl0 := (hr.lost (inL (rangeI C))).1
  refine find_only (mem_rangeI.2 hc) (by rw [getI_had hc, e]; simp; omega) fun y hy hyp => ?_
  have hyr := mem_rangeI.1 hy
  by_cases h1 : (rangeI C).length = 1
  · rw [length_rangeI] at h1; omega
  · simp [h1] at hyp
    exact win_one (fun x hx => (hr.hads _ x hx).1) (length_hadL _ _ C) hyr hc hyp (by rw [getI_had hc, e]; omega)
theorem first_wonB {l : List Row} {C : Nat} {lot : List Int} (hr : RankOK l C) {c : Int} (hc : 0 ≤ c ∧ c < C) (h : totS l < 2 * hadS (fun _ => true) l c) :
    countB l C lot C (rangeI C) [] [] = ([c], [rndS (hadL (inL (rangeI C)) l C) (lostS (inL (rangeI C)) l) [c] []], []) := by
  have := (CbInv.start l lot hr.c1).won (win_first hr hc h)
  simpa using this
theorem countB_in {l : List Row} {C : Nat} {lot : List Int} (hlot : lotS lot C = true) : ∀ (f : Nat) (left : List Int) (rs : List Rnd) (ts : List Row) (x : Int) (rs' : List Rnd) (ts' : List Row), left.Sublist (rangeI C) → left ≠ [] → countB l C lot f left rs ts = ([x], rs', ts') → x ∈ left
  | 0, left, rs, ts, x, rs', ts', _, _, h => by simp [countB] at h
  | f + 1, left, rs, ts, x, rs', ts', hsub, hne, h => by
    cases hw : winS left (hadL (inL left) l C) with
    | some z =>
      rw [countB_some hw] at h
      obtain rfl : z = x := by injection h with h _; simpa using h
      exact List.mem_of_find?_eq_some hw
    | none =>
      rw [countB_none hw] at h
      have hm := (most_sub l C left).subset (most_last (l := l) hsub hne hlot)
      have hln := length_outS ((nodup_rangeI C).sublist hsub) hm
      have hn1 : left.length ≠ 1 := fun e => win_of_one e hw
      have hp := List.length_pos_iff.2 hne
      exact (outS_sub _ _).subset (countB_in hlot f _ _ _ x rs' ts' ((outS_sub _ _).trans hsub) (List.length_pos_iff.1 (by omega)) h)
/-- The ballots whose last mark is c. -/
def tailS (l : List Row) (c : Int) : Int := wsum (fun ms => decide (ms.getLast? = some c)) l
theorem find_head {φ : Int → Bool} {ms : List Int} {a : Int} (h : ms.head? = some a) (ha : φ a = true) : ms.find? φ = some a := by
  cases ms with
  | nil => cases h
  | cons b r => simp at h; subst h; rw [List.find?_cons, ha]
theorem last_lost {l : List Row} {C : Nat} {lot : List Int} (hr : RankOK l C) (hnd : ∀ r ∈ l, r.1.Nodup) (hlot : lotS lot C = true) (hf : ∀ r ∈ l, r.1.length = C) (h2 : 2 ≤ C) {c : Int} (hc : 0 ≤ c ∧ c < C) (h : totS l < 2 * tailS l c) {x : Int} {rs : List Rnd} {ts : List Row} (hx : countB l C lot C (rangeI C) [] [] = ([x], rs, ts)) : x ≠ c := by
  rintro rfl
  have hne : rangeI C ≠ [] := fun e => by have := congrArg List.length e; rw [length_rangeI] at this; simp at this; omega
  obtain ⟨f, hfe⟩ : ∃ f, C = f + 1 := ⟨C - 1, by omega⟩
  have hrow : ∀ r ∈ l, ∃ a, r.1.head? = some a ∧ ∃ z, r.1.getLast? = some z ∧ a ≠ z ∧ inL (rangeI C) a = true ∧ inL (rangeI C) z = true ∧ r.1.reverse.head? = some z := fun r hr' => by
    have hl := hf r hr'
    have hn := hnd r hr'
    have hm := hr.marks r hr'
    generalize r.1 = ms at *
    obtain ⟨a, t, rfl⟩ : ∃ a t, ms = a :: t := by
      cases ms with
      | nil => simp at hl; omega
      | cons a t => exact ⟨a, t, rfl⟩
    have ht : t ≠ [] := fun e => by subst e; simp at hl; omega
    refine ⟨a, rfl, (t.getLast ht), ?_, ?_, inL_iff.2 (mem_rangeI.2 (hm a (by simp))), inL_iff.2 (mem_rangeI.2 (hm _ (List.mem_cons_of_mem _ (List.getLast_mem ht)))), ?_⟩
    · rw [List.getLast?_cons, List.getLast?_eq_some_getLast ht]; rfl
    · intro e
      exact (List.nodup_cons.1 hn).1 (e ▸ List.getLast_mem ht)
    · rw [List.head?_reverse, List.getLast?_cons, List.getLast?_eq_some_getLast ht]; rfl
  have hlost : lostS (inL (rangeI C)) l = 0 := wsum_zero fun r hr' => by
    obtain ⟨a, ha, z, _, _, hai, _⟩ := hrow r hr'
    rw [find_head ha hai]; simp
  have hbad : ∀ y, badS (rangeI C) l y = tailS l y := fun y => wsum_congr fun r hr' => by
    obtain ⟨a, _, z, hz, _, _, hzi, hzr⟩ := hrow r hr'
    unfold agB
    rw [if_pos (allFull (hnd r hr') (hr.marks r hr') (hf r hr') (List.Sublist.refl _)), find_head hzr hzi, hz]
  have htwo : ∀ y, y ≠ x → tailS l y + tailS l x ≤ totS l := fun y hy => by
    have h3 := wsum3 (p := fun ms => decide (ms.getLast? = some y)) (q := fun ms => decide (ms.getLast? = some x)) (r := fun _ => false) hr.pos (fun r _ => by
      refine ⟨fun hp => ⟨?_, rfl⟩, fun _ => rfl⟩
      simp only [decide_eq_true_eq] at hp
      rw [hp]; simp; exact hy)
    have h4 : wsum (fun _ => false) l = 0 := wsum_zero fun _ _ => rfl
    unfold tailS
    omega
  have hmost : ∀ y ∈ mostS l C (rangeI C), y = x := fun y hy => by
    obtain ⟨hyr, hym⟩ := mem_bestS.1 hy
    have hyr := mem_rangeI.1 hyr
    have h1 := hym x (mem_rangeI.2 hc)
    have eg : ∀ z : Int, 0 ≤ z ∧ z < C → getI (badL (rangeI C) l C) z = tailS l z := fun z hz => by
      obtain ⟨Z, rfl⟩ : ∃ Z : Nat, z = Z := ⟨z.toNat, by omega⟩
      rw [← hbad]
      exact getI_of (get_badL _ _ (by omega))
    rw [eg x hc, eg y hyr] at h1
    refine Decidable.byContradiction fun hne => ?_
    have := htwo y hne
    omega
  have hhad : hadS (inL (rangeI C)) l x + tailS l x ≤ totS l := by
    have h3 := wsum3 (p := fun ms => decide (ms.find? (inL (rangeI C)) = some x)) (q := fun ms => decide (ms.getLast? = some x)) (r := fun _ => false) hr.pos (fun r hr' => by
      refine ⟨fun hp => ⟨?_, rfl⟩, fun _ => rfl⟩
      simp only [decide_eq_true_eq] at hp
      obtain ⟨a, ha, z, hz, haz, hai, _⟩ := hrow r hr'
      rw [find_head ha hai] at hp
      rw [hz]
      simp at hp ⊢
      rw [← hp]; exact fun e => haz e.symm)
    have h4 : wsum (fun _ => false) l = 0 := wsum_zero fun _ _ => rfl
    have e1 : wsum (fun ms => decide (ms.find? (inL (rangeI C)) = some x)) l = hadS (inL (rangeI C)) l x := rfl
    unfold tailS
    omega
  have hsum := had_sum (φ := inL (rangeI C)) hr
  rw [hlost] at hsum
  rw [show countB l C lot C (rangeI C) [] [] = countB l C lot (f + 1) (rangeI C) [] [] by rw [← hfe]] at hx
  cases hw : winS (rangeI C) (hadL (inL (rangeI C)) l C) with
  | some z =>
    rw [countB_some hw] at hx
    obtain rfl : z = x := by injection hx with h _; simpa using h
    have hb := List.find?_some hw
    have h1 : (rangeI C).length ≠ 1 := by rw [length_rangeI]; omega
    simp [h1] at hb
    rw [getI_had hc] at hb
    omega
  | none =>
    rw [countB_none hw] at hx
    have hm0 := most_last (l := l) (List.Sublist.refl _) hne hlot
    have hz := hmost _ hm0
    rw [hz] at hx
    have hln := length_outS (nodup_rangeI C) (mem_rangeI.2 hc)
    rw [length_rangeI] at hln
    have := countB_in hlot f _ _ _ x rs ts (outS_sub _ _) (List.length_pos_iff.1 (by omega)) hx
    unfold outS at this
    rw [List.mem_filter] at this
    simp at this

/-! The ballots, turned round. -/
def revR (l : List Row) : List Row := l.map fun r => (r.1.reverse, r.2)
theorem tot_rev (l : List Row) : totS (revR l) = totS l := by unfold totS revR; rw [List.map_map]; rfl
theorem at_rev {l : List Row} {t : Nat} {ms : List Int} {y : Int} (h : l[t]? = some (ms, y)) : (revR l)[t]? = some (ms.reverse, y) := by unfold revR; rw [List.getElem?_map, h]; rfl
theorem rev_ok {l : List Row} {C : Nat} (h : RankOK l C) : RankOK (revR l) C where
  len := by unfold revR; rw [List.length_map]; exact h.len
  c1 := h.c1
  c10 := h.c10
  tot := by rw [tot_rev]; exact h.tot
  pos := fun x hx => by obtain ⟨r, hr, rfl⟩ := List.mem_map.1 hx; exact h.pos r hr
  marks := fun r hr x hx => by obtain ⟨r', hr', rfl⟩ := List.mem_map.1 hr; exact h.marks r' hr' x (List.mem_reverse.1 hx)
theorem had_rev (l : List Row) (x : Int) : hadS (fun _ => true) (revR l) x = tailS l x := by
  unfold hadS tailS wsum revR
  rw [List.map_map]
  congr 1
  refine List.map_congr_left fun r _ => ?_
  have : r.1.reverse.find? (fun _ => true) = r.1.getLast? := by rw [← List.head?_reverse]; cases r.1.reverse <;> simp
  simp only [Function.comp, this]
theorem Own.far {w : World} {B n c g g' j : Nat} {x : Value} {xs : List Int} (h : Own w B (.slice (some ⟨g, 0, none⟩) n c) xs) (hne : g ≠ g') : Own (w.setCell ⟨g', j, none⟩ x) B (.slice (some ⟨g, 0, none⟩) n c) xs :=
  h.frame ((Frame'.refl (fun b => b = g') w).setCell (p := ⟨g', j, none⟩) (.inl rfl) x) (fun b hb => by cases hb; exact hne)

set_option maxRecDepth 100000 in
set_option maxHeartbeats 4000000 in
theorem coombsMajority_any (c k : Int) (A : Option Addr) (n cp : Nat) (l : List Row) (At : Option Addr) (nt ct : Nat) (lot : List Int) (w : World) (h : RRows w A n cp l) (hl : RInts w At nt ct lot) :
    Calls Tryz.prog 9 #[.agg #[.int .i64 c, .int .u8 k, .slice A n cp], .slice At nt ct] w fun e w' => e = .returned (.bool true) ∧ Below w.heap.size w w' := by
  have hb : Below w.heap.size w (w.alloc (.cells #[.int .i64 c, .int .u8 k, .slice A n cp] 24)) := below_allocN
  have hP := Has.new w 24 #[.int .i64 c, .int .u8 k, .slice A n cp]
  generalize hW : World.alloc w _ = W0 at hb hP
  have p0 := hP.cell 0
  have p1 := hP.cell 1
  have p2 := hP.cell 2
  go_enter Tryz.func9, Tryz.ntmps9
  go_wp2_with fail
  try simp only [hW]
  clear hW
  refine (mayCm_any c k A n cp l At nt ct lot W0 (h.below hb) (hl.below hb)).mono ?_
  rintro e z0 ⟨rfl, hbz0⟩
  have hbw0 := Below_trans' hb hb.size hbz0
  replace hP := hP.below hbz0 hP.lt
  clear p0 p1 p2
  by_cases hE : mayS c k l 1 1 1 lot = 0
  · have e1 : (mayS c k l 1 1 1 lot == 0) = true := by simp [hE]
    obtain ⟨hc0, hk0, _, _, _, hlot⟩ := may_zero hE
    subst hk0
    have hcs := check_ok hc0
    obtain ⟨C, rfl⟩ : ∃ C : Nat, c = (C : Int) := ⟨c.toNat, by omega⟩
    have Rk := hide (rank_ok hc0)
    have Rv := hide (rev_ok (rank_ok hc0))
    have Hnd := hide (marks_once hc0 rfl)
    have Hlot := hide hlot
    have hro := hide (runB_ok hE)
    have hE0 := hide hE
    have hc00 := hide hc0
    have hC10 := (rank_ok hc0).c10
    have hC1 := (rank_ok hc0).c1
    have hnt : nt ≤ 10 := by have h1 := lot_len hlot; have h2 := hl.len; omega
    have hbok := countB_ok (l := l) hlot hC1
    obtain ⟨el, rs, ts, hcx⟩ : ∃ el rs ts, countB l C lot C (rangeI C) [] [] = (el, rs, ts) := ⟨_, _, _, rfl⟩
    rw [hcx] at hbok
    obtain ⟨xe, hxe, hx0, hx1, _⟩ := hbok.el
    dsimp only at hxe
    subst hxe
    have hrl : rs.length ≤ 10 := by have := hbok.len; dsimp only at this; omega
    have Hcx := hide hcx
    have hout : Hid (runB C 1 l 1 lot = ([xe], rs, ts)) := by unfold Hid; rw [hro.out, Int.toNat_natCast]; exact hcx
    clear hcs hE hc0 hlot hcx hbok
    have p0 := hP.cell 0
    have p1 := hP.cell 1
    have p2 := hP.cell 2
    go_wp2_with fail
    refine (pcountB_any C 1 A n cp l 1 At nt ct lot z0 (h.below hbw0) (hl.below hbw0) (by omega)).mono ?_
    rintro e z1 ⟨Ae, ne, ce, Ar, nr, cr, Av, nv, cv, rfl, hO, hbz1⟩
    rw [hout.out] at hO
    rw [hE0.out]
    have hnr : nr = rs.length := hO.2.1.len.symm
    subst hnr
    have hne : ne = 1 := hO.1.len.symm
    subst hne
    clear p0 p1 p2
    go_upto_region 4 with fail
    have hbz2 : Below z1.heap.size z1 (z1.alloc (.cells #[.slice Ae 1 ce, .slice Ar rs.length cr, .slice Av nv cv] 33)) := below_allocN
    have hX := Has.new z1 33 #[.slice Ae 1 ce, .slice Ar rs.length cr, .slice Av nv cv]
    generalize World.alloc z1 _ = z2 at hbz2 hX ⊢
    have hb02 := Below_trans' hbz1 hbz1.size hbz2
    have hbw2 := Below_trans' hbw0 hbw0.size hb02
    have hP2 := hP.below hb02 hP.lt
    have p0 := hP2.cell 0
    have p1 := hP2.cell 1
    have p2 := hP2.cell 2
    go_wp2_with fail
    refine (many_any C 1 A n cp l z2 (h.below hbw2)).mono ?_
    rintro e z3 ⟨rfl, hbz3⟩
    rw [cntV_tot hc00.out, hc00.out]
    have hX3 := hX.below hbz3 hX.lt
    have hP3 := hP2.below hbz3 hP2.lt
    have hbw3 := Below_trans' hbw2 hbw2.size hbz3
    have hEl := (hO.1.below hbz2).below hbz3
    clear p0 p1 p2 hO hX hP2 hP hbz1 hbz2
    have q0 := hX3.cell 0
    have p0 := hP3.cell 0
    go_upto_region 8 with fail
    clear q0
    have hmk := run_make_row' (P := Tryz.prog) 25 3 (.int .i64 0) 8 Tryz.underlying25 info3 rfl .i64 .i64 C (by omega) (by omega)
    go_cut [10, 11] from 43 to 48 (fun u v wx => ∃ g1 g2 : Nat, u = .slice (some ⟨g1, 0, none⟩) C C ∧ v = .slice (some ⟨g2, 0, none⟩) C C ∧ g1 ≠ g2 ∧ z3.heap.size ≤ g1 ∧ z3.heap.size ≤ g2 ∧ Own wx z3.heap.size (.slice (some ⟨g1, 0, none⟩) C C) (List.replicate C 0) ∧ Own wx z3.heap.size (.slice (some ⟨g2, 0, none⟩) C C) (List.replicate C 0) ∧ Below z3.heap.size z3 wx)
    case first =>
      refine wp_region_flowz [0, 1, 3, 4] [0, 1, 3, 4, 6, 7] (fun w' => ∃ q, w' = More z3 q) (by kernel_rfl) (by kernel_rfl) (below_more ((Below.refl z3.heap.size z3).drew)) ?_
      simp only [pickOps, List.getElem?_cons_zero, List.getElem?_cons_succ]
      repeat (go_big_quiet_step (fail))
      refine wpQuiet_nil ?_
      have hdr : Below z3.heap.size z3 z3.drew := (Below.refl _ _).drew
      clear p0
      refine flow_two 2 5 (by kernel_rfl) rfl rfl ?_ ?_
      · have hM : Own (z3.alloc (.cells (madeCells #[.int .i64 0] C) 3)).drew z3.heap.size (.slice (some ⟨z3.heap.size, 0, none⟩) C C) (List.replicate C 0) := Own.made z3.drew z3.heap.size C (Nat.le_refl _) (by omega)
        have hbM : Below z3.heap.size z3 (z3.alloc (.cells (madeCells #[.int .i64 0] C) 3)).drew := hdr.alloc (Nat.le_refl _) _
        have hgM : z3.heap.size < (z3.alloc (.cells (madeCells #[.int .i64 0] C) 3)).drew.heap.size := by simp [World.drew]
        go_wp2
        generalize (World.alloc z3 _).drew = wa at hM hbM hgM ⊢
        refine FlowPost.mk ⟨below_more hbM, ?_⟩
        refine flow_pure [6] (by kernel_rfl) (below_more hbM) ?_
        simp only [pickOps, List.getElem?_cons_zero, List.getElem?_cons_succ]
        repeat (go_big_quiet_step (fail))
        refine wpQuiet_nil ?_
        refine flow_one 5 (by kernel_rfl) rfl ?_
        have hM2 := Own.made wa z3.heap.size C (by omega) (by omega)
        have hbN : Below wa.heap.size wa (wa.alloc (.cells (madeCells #[.int .i64 0] C) 3)) := below_allocN
        have hM1 := hM.below hbN
        have hb8 := Below_trans' hbM hbM.size hbN
        go_wp2
        generalize World.alloc wa _ = wb at hM2 hb8 hM1 ⊢
        refine FlowPost.mk ⟨below_more hb8, ?_⟩
        refine flow_pure [7] (by kernel_rfl) (below_more hb8) ?_
        simp only [pickOps, List.getElem?_cons_zero, List.getElem?_cons_succ]
        repeat (go_big_quiet_step (fail))
        refine wpQuiet_nil ?_
        refine flow_rest [] (by kernel_rfl) ?_
        simp only [pickOps]
        go_wp2
        go_meet
        exact ⟨z3.heap.size, wa.heap.size, rfl, rfl, by omega, by omega, by omega, hM1, hM2, hb8⟩
      · have hM : Own (z3.alloc (.cells (madeCells #[.int .i64 0] C) 3)).drew z3.heap.size (.slice (some ⟨z3.heap.size, 0, none⟩) C C) (List.replicate C 0) := Own.made z3.drew z3.heap.size C (Nat.le_refl _) (by omega)
        have hbM : Below z3.heap.size z3 (z3.alloc (.cells (madeCells #[.int .i64 0] C) 3)).drew := hdr.alloc (Nat.le_refl _) _
        have hgM : z3.heap.size < (z3.alloc (.cells (madeCells #[.int .i64 0] C) 3)).drew.heap.size := by simp [World.drew]
        go_wp2
        generalize (World.alloc z3 _).drew = wa at hM hbM hgM ⊢
        refine FlowPost.mk ⟨below_more hbM, ?_⟩
        refine flow_one 2 (by kernel_rfl) rfl ?_
        have hM2 := Own.made wa z3.heap.size C (by omega) (by omega)
        have hbN : Below wa.heap.size wa (wa.alloc (.cells (madeCells #[.int .i64 0] C) 3)) := below_allocN
        have hM1 := hM.below hbN
        have hb8 := Below_trans' hbM hbM.size hbN
        go_wp2
        generalize World.alloc wa _ = wb at hM2 hb8 hM1 ⊢
        refine FlowPost.mk ⟨below_more hb8, ?_⟩
        refine flow_pure [6, 7] (by kernel_rfl) (below_more hb8) ?_
        simp only [pickOps, List.getElem?_cons_zero, List.getElem?_cons_succ]
        repeat (go_big_quiet_step (fail))
        refine wpQuiet_nil ?_
        refine flow_rest [] (by kernel_rfl) ?_
        simp only [pickOps]
        go_wp2
        go_meet
        exact ⟨wa.heap.size, z3.heap.size, rfl, rfl, by omega, by omega, by omega, hM2, hM1, hb8⟩
    case rest =>
      obtain ⟨g1, g2, rfl, rfl, hg, hgl1, hgl2, hO1, hO2, hbz⟩ := hcut
      clear hmk p0
      have hPz := hP3
      have hXz := hX3
      have hEz := hEl
      have hbwz := hbw3
      have hz := h.below hbw3
      have hn := hide h.len
      have hnle := h.le
      clear hP3 hX3 hEl hbw3
      go_wp2
      go_loopw [9, 12] (fun f i wr => ∃ t : Nat, t ≤ n ∧ i = .int .i64 t ∧ f = .bool (fullM l C t) ∧ Own wr z3.heap.size (.slice (some ⟨g1, 0, none⟩) C C) (hadL (fun _ => true) (l.take t) C) ∧ Own wr z3.heap.size (.slice (some ⟨g2, 0, none⟩) C C) (hadL (fun _ => true) ((revR l).take t) C) ∧ Below z3.heap.size z3 wr) (fun f i _ => n - (intOf i).toNat)
      case atStart => exact ⟨0, Nat.zero_le _, rfl, rfl, by rw [List.take_zero, hadL_zero]; exact hO1, by rw [List.take_zero, hadL_zero]; exact hO2, hbz⟩
      case round =>
        clear hO1 hO2 hbz
        obtain ⟨t, ht, rfl, rfl, hO1, hO2, hb⟩ := hrel
        have hPr := hPz.below hb hPz.lt
        have p0 := hPr.cell 0
        have p2 := hPr.cell 2
        by_cases hlt : t < n
        · obtain ⟨b, off, Am, nm, cm, ms, y, rfl, hc0z, hRmz, hc1z, _, hat, hy0, hy1⟩ := hz.step hlt
          have hc0 := keep_cell hb hc0z
          have hc1 := keep_cell hb hc1z
          have hRm := hRmz.below hb
          have hroom := hide (Rk.out.room hat.out (fun _ => true))
          have hroom2 := hide (Rv.out.room (at_rev hat.out) (fun _ => true))
          have hmr := hide (Rk.out.marks _ (List.mem_of_getElem? hat.out))
          have hyb : 0 < y ∧ y ≤ 1000000 := by have := hroom.out 0; omega
          have Hat := hide hat.out
          have hml := hide hRm.len
          have hmle := hRm.le
          have hlen1 : (hadL (fun _ => true) (l.take t) C).length = C := length_hadL _ _ _
          have hlen2 : (hadL (fun _ => true) ((revR l).take t) C).length = C := length_hadL _ _ _
          have hfs := fullM_succ (C := C) hat.out
          rw [hml.out] at hfs
          clear hat
          by_cases hn0 : 0 < nm
          · obtain ⟨m, rfl⟩ : ∃ m, nm = m + 1 := ⟨nm - 1, by omega⟩
            obtain ⟨b2, off2, v0, rfl, hcvz, _, hatv, _⟩ := hRmz.step (show 0 < m + 1 by omega)
            obtain ⟨b3, off3, vl, e3, hclz, _, hatl, _⟩ := hRmz.step (show m < m + 1 by omega)
            cases e3
            simp only [Nat.add_zero] at hcvz
            have hcv := keep_cell hb hcvz
            obtain ⟨hv0, hv1⟩ := hmr.out v0 (List.mem_of_getElem? hatv.out)
            obtain ⟨hl0, hl1⟩ := hmr.out vl (List.mem_of_getElem? hatl.out)
            obtain ⟨X, rfl⟩ : ∃ X : Nat, v0 = X := ⟨v0.toNat, by omega⟩
            obtain ⟨Y, rfl⟩ : ∃ Y : Nat, vl = Y := ⟨vl.toNat, by omega⟩
            have hf : ms.find? (fun _ => true) = some (X : Int) := by
              cases ms with
              | nil => have := hatv.out; simp at this
              | cons a r => have := hatv.out; simp at this; rw [List.find?_cons]; simp [this]
            have hf2 : ms.reverse.find? (fun _ => true) = some (Y : Int) := find_rev hatl.out rfl fun j u hj hu => by
              have := (List.getElem?_eq_some_iff.1 hu).1
              have := hml.out
              omega
            have hhm := hide (hadL_hit (n := C) Hat.out hf)
            have hhm2 := hide (hadL_hit (n := C) (at_rev Hat.out) hf2)
            have hro := hroom.out (X : Int)
            have hro2 := hroom2.out (Y : Int)
            have hXg := hide (get_hadL (fun _ => true) (l.take t) (show X < C by omega))
            have hYg := hide (get_hadL (fun _ => true) ((revR l).take t) (show Y < C by omega))
            obtain ⟨u, hu, hcu, hfu⟩ := hO1.at hlen1 (show X < C by omega)
            obtain rfl : hadS (fun _ => true) (l.take t) (X : Int) = u := by have e := hu.out; rw [hXg.out] at e; exact Option.some.inj e
            have d0 : (0 : Int) < ((m + 1 : Nat) : Int) := by omega
            have d1 : ((m + 1 : Nat) : Int) - 1 = (m : Int) := by omega
            clear hf hf2 hu hatv hatl hroom hroom2
            cases hfl : fullM l C t with
            | true =>
              have hfn : Hid ((((m + 1 : Nat) : Int) == (C : Int)) = fullM l C (t + 1)) := by
                unfold Hid; rw [hfs, hfl, Bool.true_and, Bool.eq_iff_iff]; simp only [beq_iff_eq, decide_eq_true_eq]; omega
              clear hfl hfs
              go_upto_region 15 with fail
              refine wp_region_more_tail 17 (by kernel_rfl) (by kernel_rfl) ?_
              simp only [List.take]
              repeat (go_big_quiet_step (fail))
              refine wpQuiet_nil ?_
              rintro w7 ⟨qq, hw7⟩
              have hb7 := below_of_eq hw7
              clear hw7 qq
              have hO1' := hO1.below hb7
              have hO2' := hO2.below hb7
              obtain ⟨u2, hu2, hcu2, hfu2⟩ := hO1'.at hlen1 (show X < C by omega)
              have hbf := Below_trans' hb hb.size hb7
              clear hcu hfu hu2 p0 p2 hc0 hc1 hcv hPr
              go_upto_region 16 with fail
              have hO8 := hO1'.set hlen1 X (hadS (fun _ => true) (l.take t) (X : Int) + y)
              have hQ8 := hO2'.far (x := .int .i64 (hadS (fun _ => true) (l.take t) (X : Int) + y)) (j := X) (fun e => hg e.symm)
              have hb8 : Below z3.heap.size z3 (w7.setCell ⟨g1, X, none⟩ (.int .i64 (hadS (fun _ => true) (l.take t) (X : Int) + y))) := hbf.setCell (p := ⟨g1, X, none⟩) (by omega) _
              rw [← hhm.out] at hO8
              clear hcu2 hfu2 hO1' hO2' hO1 hO2 hb7 hbf hlen1 hb
              generalize World.setCell w7 _ _ = w8 at hO8 hQ8 hb8 ⊢
              have hPb := hPz.below hb8 hPz.lt
              have p2 := hPb.cell 2
              have hc0 := keep_cell hb8 hc0z
              have hc1 := keep_cell hb8 hc1z
              have hcl := keep_cell hb8 hclz
              obtain ⟨u3, hu3, hcu3, hfu3⟩ := hQ8.at hlen2 (show Y < C by omega)
              obtain rfl : hadS (fun _ => true) ((revR l).take t) (Y : Int) = u3 := by have e := hu3.out; rw [hYg.out] at e; exact Option.some.inj e
              clear hu3
              refine wp_region_more_tail 23 (by kernel_rfl) (by kernel_rfl) ?_
              simp only [List.take]
              repeat (go_big_quiet_step (fail))
              refine wpQuiet_nil ?_
              rintro w9 ⟨qq, hw9⟩
              have hb9 := below_of_eq hw9
              clear hw9 qq
              have hO9 := hO8.below hb9
              have hQ9 := hQ8.below hb9
              obtain ⟨u4, hu4, hcu4, hfu4⟩ := hQ9.at hlen2 (show Y < C by omega)
              have hbf := Below_trans' hb8 hb8.size hb9
              clear hcu3 hfu3 hu4 p2 hc0 hc1 hcl hPb
              go_upto_region 11 with fail
              have hQT := hQ9.set hlen2 Y (hadS (fun _ => true) ((revR l).take t) (Y : Int) + y)
              have hOT := hO9.far (x := .int .i64 (hadS (fun _ => true) ((revR l).take t) (Y : Int) + y)) (j := Y) hg
              have hbT : Below z3.heap.size z3 (w9.setCell ⟨g2, Y, none⟩ (.int .i64 (hadS (fun _ => true) ((revR l).take t) (Y : Int) + y))) := hbf.setCell (p := ⟨g2, Y, none⟩) (by omega) _
              rw [← hhm2.out] at hQT
              clear hcu4 hfu4 hO9 hQ9 hO8 hQ8 hb8 hb9 hbf hlen2
              generalize World.setCell w9 _ _ = wT at hQT hOT hbT ⊢
              go_wp2
              go_roundw
              case rel => exact ⟨t + 1, by omega, by go_num, congrArg Value.bool hfn.out, hOT, hQT, hbT⟩
              case measure => simp [intOf] <;> omega
            | false =>
              have hfn : Hid (false = fullM l C (t + 1)) := by unfold Hid; rw [hfs, hfl]; rfl
              clear hfl hfs
              go_upto_region 15 with fail
              refine wp_region_more_tail 17 (by kernel_rfl) (by kernel_rfl) ?_
              simp only [List.take]
              repeat (go_big_quiet_step (fail))
              refine wpQuiet_nil ?_
              rintro w7 ⟨qq, hw7⟩
              have hb7 := below_of_eq hw7
              clear hw7 qq
              have hO1' := hO1.below hb7
              have hO2' := hO2.below hb7
              obtain ⟨u2, hu2, hcu2, hfu2⟩ := hO1'.at hlen1 (show X < C by omega)
              have hbf := Below_trans' hb hb.size hb7
              clear hcu hfu hu2 p0 p2 hc0 hc1 hcv hPr
              go_upto_region 16 with fail
              have hO8 := hO1'.set hlen1 X (hadS (fun _ => true) (l.take t) (X : Int) + y)
              have hQ8 := hO2'.far (x := .int .i64 (hadS (fun _ => true) (l.take t) (X : Int) + y)) (j := X) (fun e => hg e.symm)
              have hb8 : Below z3.heap.size z3 (w7.setCell ⟨g1, X, none⟩ (.int .i64 (hadS (fun _ => true) (l.take t) (X : Int) + y))) := hbf.setCell (p := ⟨g1, X, none⟩) (by omega) _
              rw [← hhm.out] at hO8
              clear hcu2 hfu2 hO1' hO2' hO1 hO2 hb7 hbf hlen1 hb
              generalize World.setCell w7 _ _ = w8 at hO8 hQ8 hb8 ⊢
              have hPb := hPz.below hb8 hPz.lt
              have p2 := hPb.cell 2
              have hc0 := keep_cell hb8 hc0z
              have hc1 := keep_cell hb8 hc1z
              have hcl := keep_cell hb8 hclz
              obtain ⟨u3, hu3, hcu3, hfu3⟩ := hQ8.at hlen2 (show Y < C by omega)
              obtain rfl : hadS (fun _ => true) ((revR l).take t) (Y : Int) = u3 := by have e := hu3.out; rw [hYg.out] at e; exact Option.some.inj e
              clear hu3
              refine wp_region_more_tail 23 (by kernel_rfl) (by kernel_rfl) ?_
              simp only [List.take]
              repeat (go_big_quiet_step (fail))
              refine wpQuiet_nil ?_
              rintro w9 ⟨qq, hw9⟩
              have hb9 := below_of_eq hw9
              clear hw9 qq
              have hO9 := hO8.below hb9
              have hQ9 := hQ8.below hb9
              obtain ⟨u4, hu4, hcu4, hfu4⟩ := hQ9.at hlen2 (show Y < C by omega)
              have hbf := Below_trans' hb8 hb8.size hb9
              clear hcu3 hfu3 hu4 p2 hc0 hc1 hcl hPb
              go_upto_region 11 with fail
              have hQT := hQ9.set hlen2 Y (hadS (fun _ => true) ((revR l).take t) (Y : Int) + y)
              have hOT := hO9.far (x := .int .i64 (hadS (fun _ => true) ((revR l).take t) (Y : Int) + y)) (j := Y) hg
              have hbT : Below z3.heap.size z3 (w9.setCell ⟨g2, Y, none⟩ (.int .i64 (hadS (fun _ => true) ((revR l).take t) (Y : Int) + y))) := hbf.setCell (p := ⟨g2, Y, none⟩) (by omega) _
              rw [← hhm2.out] at hQT
              clear hcu4 hfu4 hO9 hQ9 hO8 hQ8 hb8 hb9 hbf hlen2
              generalize World.setCell w9 _ _ = wT at hQT hOT hbT ⊢
              go_wp2
              go_roundw
              case rel => exact ⟨t + 1, by omega, by go_num, congrArg Value.bool hfn.out, hOT, hQT, hbT⟩
              case measure => simp [intOf] <;> omega
          · obtain rfl : nm = 0 := by omega
            have hms : ms = [] := List.length_eq_zero_iff.1 hml.out
            have hhm := hide (hadL_miss (φ := fun _ => true) (n := C) Hat.out (by rw [hms]; rfl))
            have hhm2 := hide (hadL_miss (φ := fun _ => true) (n := C) (at_rev Hat.out) (by rw [hms]; rfl))
            have hC0 : ¬ C = 0 := by omega
            have d0 := hC0
            rw [← hhm.out] at hO1
            rw [← hhm2.out] at hO2
            clear hms hlen1 hlen2
            cases hfl : fullM l C t with
            | true =>
              have hfn : Hid (((0 : Int) == (C : Int)) = fullM l C (t + 1)) := by
                unfold Hid; rw [hfs, hfl, Bool.true_and, Bool.eq_iff_iff]; simp only [beq_iff_eq, decide_eq_true_eq]; omega
              clear hfl hfs hC0 d0
              go_wp2
              go_roundw
              case rel => exact ⟨t + 1, by omega, by go_num, congrArg Value.bool hfn.out, hO1, hO2, hb⟩
              case measure => simp [intOf] <;> omega
            | false =>
              have hfn : Hid (false = fullM l C (t + 1)) := by unfold Hid; rw [hfs, hfl]; rfl
              clear hfl hfs hC0 d0
              go_wp2
              go_roundw
              case rel => exact ⟨t + 1, by omega, by go_num, congrArg Value.bool hfn.out, hO1, hO2, hb⟩
              case measure => simp [intOf] <;> omega
        · have htl : l.take t = l := List.take_of_length_le (by rw [hn.out]; omega)
          have htr : (revR l).take t = revR l := List.take_of_length_le (by unfold revR; rw [List.length_map, hn.out]; omega)
          have hfa : Hid (fullM l C t = true → ∀ r ∈ l, r.1.length = C) := fun hf r hr => by
            unfold fullM at hf; rw [htl] at hf
            exact of_decide_eq_true (List.all_eq_true.1 hf r hr)
          rw [htl] at hO1
          rw [htr] at hO2
          generalize fullM l C t = full at hfa ⊢
          have hFr := hO1.ints (fun y hy => by have := Rk.out.hads (fun _ => true) y hy; omega)
          have hGr := hO2.ints (fun y hy => by have := Rv.out.hads (fun _ => true) y hy; omega)
          have hget := hide (fun i (hi : i < C) => get_hadL (fun _ => true) l hi)
          have hget2 := hide (fun i (hi : i < C) => get_hadL (fun _ => true) (revR l) hi)
          have hXf := hXz.below hb hXz.lt
          have hEf := hEz.below hb
          have hbwf := Below_trans' hbwz hbwz.size hb
          have q0 := hXf.cell 0
          have q1 := hXf.cell 1
          obtain ⟨be, oe, x, ee, hcx, _, hatx, _⟩ := hEf.step (show 0 < 1 by omega)
          cases ee
          obtain rfl : xe = x := by simpa using hatx.out
          simp only [Nat.add_zero] at hcx
          have htt := Rk.out.tot
          clear htl htr hO1 hO2 hatx hXz hEz
          obtain ⟨wf, rfl⟩ : ∃ wf : World, wf = wr := ⟨_, rfl⟩
          go_wp2
          clear p2 hlt
          go_loop [14] (fun i => ∃ j : Nat, j ≤ C ∧ i = .int .i64 j) (fun i => C - (intOf i).toNat)
          case atStart => exact ⟨0, Nat.zero_le _, rfl⟩
          case round =>
            obtain ⟨j, hj, rfl⟩ := hrel
            by_cases hjc : j < C
            · obtain ⟨b6, off6, v6, e6, hc6, _, hat6, _⟩ := hFr.step hjc
              cases e6
              obtain rfl : v6 = hadS (fun _ => true) l j := by have e := hget.out j hjc; rw [hat6.out] at e; exact Option.some.inj e
              obtain ⟨b7, off7, v7, e7, hc7, _, hat7, _⟩ := hGr.step hjc
              cases e7
              obtain rfl : v7 = hadS (fun _ => true) (revR l) j := by have e := hget2.out j hjc; rw [hat7.out] at e; exact Option.some.inj e
              have hvb := Rk.out.had (fun _ => true) j
              have hvb2 := Rv.out.had (fun _ => true) j
              simp only [Nat.zero_add] at hc6 hc7
              clear hat6 hat7
              have hlast : full = true → 2 ≤ C → totS l < 2 * hadS (fun _ => true) (revR l) j → xe ≠ (j : Int) := fun hf h2 hm =>
                last_lost Rk.out Hnd.out Hlot.out (hfa.out hf) h2 ⟨by omega, by omega⟩ (by rw [← had_rev]; exact hm) Hcx.out
              have hfirst : totS l < 2 * hadS (fun _ => true) l j → xe = (j : Int) ∧ rs.length = 1 := fun hm => by
                have hfw := first_wonB (lot := lot) Rk.out (c := (j : Int)) ⟨by omega, by omega⟩ hm
                rw [Hcx.out] at hfw
                injection hfw with h1 h2
                injection h2 with h3 h4
                exact ⟨by injection h1, by rw [h3]; rfl⟩
              generalize hadS (fun _ => true) (revR l) j = G at hc7 hvb2 hlast
              generalize hadS (fun _ => true) l j = F at hc6 hvb hfirst
              generalize rs.length = nr at *
              by_cases hmj : totS l < 2 * F
              · obtain ⟨hx1, hr1⟩ := hfirst hmj
                have f1 : (xe != (j : Int)) = false := by simp [hx1]
                have f2 : ((nr : Int) != 1) = false := by simp [hr1]
                clear hfirst hr1
                by_cases h5 : full = true ∧ 2 ≤ C
                · obtain ⟨rfl, h2⟩ := h5
                  have hng : ¬ totS l < 2 * G := fun hm => hlast rfl h2 hm hx1
                  have hC2 : (1 : Int) < (C : Int) := by omega
                  clear hlast hx1
                  go_wp2
                  go_round
                  case rel => exact ⟨j + 1, by omega, by go_num⟩
                  case measure => simp [intOf] <;> omega
                · by_cases hfu : full = true
                  · subst hfu
                    have hC2 : ¬ (1 : Int) < (C : Int) := by have : ¬ 2 ≤ C := fun h2 => h5 ⟨rfl, h2⟩; omega
                    clear hlast hx1 h5
                    go_wp2
                    go_round
                    case rel => exact ⟨j + 1, by omega, by go_num⟩
                    case measure => simp [intOf] <;> omega
                  · obtain rfl : full = false := by simpa using hfu
                    clear hlast hx1 h5 hfu
                    go_wp2
                    go_round
                    case rel => exact ⟨j + 1, by omega, by go_num⟩
                    case measure => simp [intOf] <;> omega
              · clear hfirst
                by_cases h5 : full = true ∧ 2 ≤ C
                · obtain ⟨rfl, h2⟩ := h5
                  have hC2 : (1 : Int) < (C : Int) := by omega
                  by_cases hng : totS l < 2 * G
                  · have f3 : (xe == (j : Int)) = false := by simpa using hlast rfl h2 hng
                    clear hlast
                    go_wp2
                    go_round
                    case rel => exact ⟨j + 1, by omega, by go_num⟩
                    case measure => simp [intOf] <;> omega
                  · clear hlast
                    go_wp2
                    go_round
                    case rel => exact ⟨j + 1, by omega, by go_num⟩
                    case measure => simp [intOf] <;> omega
                · by_cases hfu : full = true
                  · subst hfu
                    have hC2 : ¬ (1 : Int) < (C : Int) := by have : ¬ 2 ≤ C := fun h2 => h5 ⟨rfl, h2⟩; omega
                    clear hlast h5
                    go_wp2
                    go_round
                    case rel => exact ⟨j + 1, by omega, by go_num⟩
                    case measure => simp [intOf] <;> omega
                  · obtain rfl : full = false := by simpa using hfu
                    clear hlast h5 hfu
                    go_wp2
                    go_round
                    case rel => exact ⟨j + 1, by omega, by go_num⟩
                    case measure => simp [intOf] <;> omega
            · go_wp2_with fail
              refine (wakes16_any _).mono ?_
              rintro e w9 ⟨rfl, hb9⟩
              go_wp2
              go_ret
              exact ⟨rfl, Below_trans' hbwf (hbwf).size hb9⟩
  · have e1 : (mayS c k l 1 1 1 lot == 0) = false := by simp [hE]
    clear hE
    go_wp2_with fail
    refine (wakes16_any _).mono ?_
    rintro e w9 ⟨rfl, hb9⟩
    go_wp2
    go_ret
    exact ⟨rfl, Below_trans' hbw0 (hbw0).size hb9⟩
end Go.Proofs.YtcmoekkaakkpjaaGreat
