/-
  The law ListsScale.
-/
import Derived.Test.YtiebfalodelclaaW20e
import Derived.Test.YtiebfalodelclaaW9u
namespace Go.Proofs.Ytiebfalodelclaa
open Go.RowKit Go.Proofs Go.Shelf
attribute [local go_sem] cell?_more cell?_alloc_some cell?_setCell_far frozen?_alloc_some frozen?_more
/-- The first t counts times f. -/
def sclT (f : Int) (t : Nat) (l : List Row) : List Row := (l.take t).map (fun r => (r.1, r.2 * f)) ++ l.drop t
theorem sclT_zero (f : Int) (l : List Row) : sclT f 0 l = l := rfl
theorem length_sclT (f : Int) (t : Nat) (l : List Row) : (sclT f t l).length = l.length := by unfold sclT; simp; omega
theorem sclT_end {f : Int} {l : List Row} {t : Nat} (h : l.length ≤ t) : sclT f t l = l.map fun r => (r.1, r.2 * f) := by
  unfold sclT; rw [List.take_of_length_le h, List.drop_eq_nil_of_le h, List.append_nil]
theorem get_sclT {f : Int} {l : List Row} {t i : Nat} (h : i < l.length) : (sclT f t l)[i]? = some (if i < t then (l[i].1, l[i].2 * f) else l[i]) := by
  unfold sclT
  by_cases hi : i < t
  · rw [List.getElem?_append_left (by simp; omega), List.getElem?_map, List.getElem?_take, if_pos hi, List.getElem?_eq_getElem h, if_pos hi]; rfl
  · rw [List.getElem?_append_right (by simp; omega), List.length_map, List.length_take, List.getElem?_drop, if_neg hi, Nat.min_eq_left (by omega), show t + (i - t) = i by omega, List.getElem?_eq_getElem h]
theorem sclT_at {f : Int} {l : List Row} {t : Nat} {m : List Int} {z : Int} (h : l[t]? = some (m, z)) : (sclT f t l)[t]? = some (m, z) := by
  obtain ⟨hl, e⟩ := List.getElem?_eq_some_iff.1 h
  rw [get_sclT hl, if_neg (by omega), e]
theorem sclT_set {f : Int} {l : List Row} {t : Nat} {m : List Int} {z : Int} (h : l[t]? = some (m, z)) : sclT f (t + 1) l = (sclT f t l).set t (m, z * f) := by
  obtain ⟨hl, e⟩ := List.getElem?_eq_some_iff.1 h
  refine List.ext_getElem? fun i => ?_
  by_cases hi : i < l.length
  · rw [get_sclT hi, List.getElem?_set]
    by_cases ei : t = i
    · subst ei
      rw [if_pos (show t < t + 1 by omega), if_pos rfl, if_pos (by rw [length_sclT]; exact hl), e]
    · rw [if_neg ei, get_sclT hi]
      by_cases h2 : i < t
      · rw [if_pos h2, if_pos (by omega)]
      · rw [if_neg h2, if_neg (by omega)]
  · rw [List.getElem?_eq_none (by rw [length_sclT]; omega), List.getElem?_eq_none (by rw [List.length_set, length_sclT]; omega)]
theorem listO_scale (rule : Int) (l : List Row) (C : Nat) (lot : List Int) (n : Nat) {f : Int} (hf : 0 < f) :
    (listO rule (l.map fun r => (r.1, r.2 * f)) C lot n).1 = (listO rule l C lot n).1 ∧ (listO rule (l.map fun r => (r.1, r.2 * f)) C lot n).2.2 = (listO rule l C lot n).2.2 := by
  unfold listO
  rw [seatS_scale (vot_scale l C hf)]
  exact ⟨rfl, rfl⟩

set_option maxRecDepth 100000 in
set_option maxHeartbeats 4000000 in
theorem listsScale_any (rule c k : Int) (A : Option Addr) (n cp : Nat) (l : List Row) (nn : Int) (At : Option Addr) (nt ct : Nat) (lot : List Int) (F : Int) (w : World) (h : RRows w A n cp l) (h' : RInts w At nt ct lot) :
    Calls Try.prog 7 #[.int .i64 rule, .agg #[.int .i64 c, .int .u8 k, .slice A n cp], .int .i64 nn, .slice At nt ct, .int .i64 F] w fun e w' => e = .returned (.bool true) ∧ Below w.heap.size w w' := by
  have hb : Below w.heap.size w (w.alloc (.cells #[.int .i64 c, .int .u8 k, .slice A n cp] 24)) := below_allocN
  have hP := Has.new w 24 #[.int .i64 c, .int .u8 k, .slice A n cp]
  generalize hW : World.alloc w _ = W0 at hb hP
  have p0 := hP.cell 0
  have p1 := hP.cell 1
  have p2 := hP.cell 2
  go_enter Try.func7, Try.ntmps7
  go_wp2_with fail
  try simp only [hW]
  clear hW
  refine (valid20_any c k A n cp l nn At nt ct lot W0 (h.below hb) (h'.below hb)).mono ?_
  rintro e z0 ⟨rfl, hbz0⟩
  have hbw0 := Below_trans' hb hb.size hbz0
  replace hP := hP.below hbz0 hP.lt
  clear p0 p1 p2 hb hbz0
  by_cases hE : mayS c k l 2 nn 10 lot = 0
  · by_cases hF1 : F < 1
    · have e1 : (mayS c k l 2 nn 10 lot == 0) = true := by simp [hE]
      have d1 : decide (F < 1) = true := by simpa using hF1
      clear hE hF1
      go_wp2_with fail
      refine (wakes20_any _).mono ?_
      rintro e w9 ⟨rfl, hb9⟩
      go_wp2
      go_ret
      exact ⟨rfl, Below_trans' hbw0 (hbw0).size hb9⟩
    · by_cases hF2 : 20 < F
      · have e1 : (mayS c k l 2 nn 10 lot == 0) = true := by simp [hE]
        have d1 : decide (F < 1) = false := by simpa using hF1
        have d2 : decide (20 < F) = true := by simpa using hF2
        clear hE hF1 hF2
        go_wp2_with fail
        refine (wakes20_any _).mono ?_
        rintro e w9 ⟨rfl, hb9⟩
        go_wp2
        go_ret
        exact ⟨rfl, Below_trans' hbw0 (hbw0).size hb9⟩
      · have d1 : decide (F < 1) = false := by simpa using hF1
        have d2 : decide (20 < F) = false := by simpa using hF2
        have e1 : (mayS c k l 2 nn 10 lot == 0) = true := by simp [hE]
        obtain ⟨hc0, hk0, hs1, hs2, hs3, hlot⟩ := may_zero hE
        subst hk0
        have hmk := markOK_of hc0
        have hc1 := (check_iff.1 hc0).2.1
        obtain ⟨C, rfl⟩ : ∃ C : Nat, c = (C : Int) := ⟨c.toNat, by omega⟩
        obtain ⟨S, rfl⟩ : ∃ S : Nat, nn = (S : Int) := ⟨nn.toNat, by omega⟩
        rw [Int.toNat_natCast] at hmk
        have Hmk := hide hmk
        have hC10 := hmk.c10
        have hC1 := hmk.c1
        have hnt : nt = C := by have h1 := lot_len hlot; have h2 := h'.len; omega
        subst hnt
        have hvb := votV_bd hmk
        have Hvb := hide hvb
        have Hla := hide (LotAll.of hlot)
        have Hlot := hide hlot
        have hrun : Hid (∀ r, listR r nt 2 l S lot = listO r l nt lot S) := fun r => by rw [listR_ok hE, Int.toNat_natCast, Int.toNat_natCast]
        have hmay := hide hE
        have Hc0 := hide hc0
        clear hE hc0 hmk hvb hc1 hlot
        have hmkn := h.len
        have hl64 : n ≤ 64 := by have := Hmk.out.len; omega
        have hml : ∀ r ∈ l, r.1.length ≤ 1000 := fun r hr => by
          have hm := (row_small Hc0.out hr).1
          omega
        have p0 := hP.cell 0
        have p1 := hP.cell 1
        have p2 := hP.cell 2
        go_wp2_with fail
        refine (rtwin_any nt 2 A n cp l z0 (h.below hbw0) (by omega) hml).mono ?_
        rintro e w1 ⟨vq, rfl, hQ, hb1⟩
        have hQl : ∃ Aq cq, vq = .slice Aq n cq := by
          rcases hQ.slice with ⟨e, e2⟩ | ⟨g, cap, _, e, _⟩
          · refine ⟨none, 0, ?_⟩
            rw [e, show n = 0 by rw [← hmkn, e2]; rfl]
          · exact ⟨_, _, by rw [e, hmkn]⟩
        obtain ⟨Aq, cq, rfl⟩ := hQl
        clear p0 p1 p2
        have hqlt := hide (fun b (hb : (Value.slice Aq n cq).ownBlock = some b) => (hQ.own_lt hb).2)
        go_upto_region 4 with fail
        have hb2 : Below w1.heap.size w1 (w1.alloc (.cells #[.int .i64 nt, .int .u8 2, .slice Aq n cq] 24)) := below_allocN
        have hQP := Has.new w1 24 #[.int .i64 nt, .int .u8 2, .slice Aq n cq]
        generalize World.alloc w1 _ = w2 at hb2 hQP ⊢
        replace hQ := hQ.below hb2
        have hb02 := Below_trans' hb1 hb1.size hb2
        have hzz := hb1.size
        clear hb1 hb2
        have Hl := hide hmkn
        go_wp2
        go_loopw [12] (fun i wr => ∃ t : Nat, t ≤ n ∧ i = .int .i64 t ∧ ORows wr z0.heap.size (.slice Aq n cq) (sclT F t l) ∧ Has wr w1.heap.size 24 #[.int .i64 nt, .int .u8 2, .slice Aq n cq] ∧ Below z0.heap.size z0 wr) (fun i _ => n - (intOf i).toNat)
        case atStart => exact ⟨0, Nat.zero_le _, rfl, hQ, hQP, hb02⟩
        case round =>
          clear hQ hQP hb02
          obtain ⟨t, ht, rfl, hO, hH, hb⟩ := hrel
          obtain ⟨wo, rfl⟩ : ∃ wo : World, wo = wr := ⟨_, rfl⟩
          have q2 := hH.cell 2
          by_cases hlt : t < n
          · obtain ⟨m, z, hat⟩ : ∃ m z, l[t]? = some (m, z) := ⟨(l[t]'(by omega)).1, (l[t]'(by omega)).2, List.getElem?_eq_getElem (by omega)⟩
            have hzb : 0 < z ∧ z ≤ 1000000 := by
              have h1 := Hmk.out.pos _ (List.mem_of_getElem? hat)
              have h2 := tot_take Hmk.out.pos (t + 1)
              have h3 := totS_take_succ hat
              have h4 := tot_nn (pos_take Hmk.out.pos t)
              have h5 := Hmk.out.tot
              dsimp only at h1 h3
              omega
            have hzF : 0 ≤ z * F ∧ z * F ≤ 100000000 := ⟨Int.mul_nonneg (by omega) (by omega), Int.le_trans (Int.mul_le_mul hzb.2 (show F ≤ 20 by omega) (by omega) (by omega)) (by omega)⟩
            obtain ⟨gr, rfl, hgr⟩ : ∃ gr, Aq = some ⟨gr, 0, none⟩ ∧ z0.heap.size ≤ gr := by
              rcases hO.slice with ⟨e, e2⟩ | ⟨g', cap, cur, e, hb, _⟩
              · have := congrArg List.length e2; rw [length_sclT, hmkn] at this; simp at this; omega
              · cases e; exact ⟨g', rfl, hb⟩
            have hln : (sclT F t l).length = n := by rw [length_sclT]; exact hmkn
            have hatS := sclT_at (f := F) hat
            obtain ⟨b, off, Am, nm, cm, ms', y', eA, hc0, hm0, hc1, hd, hat', hy'⟩ := hO.rows.step (k := t) hlt
            cases eA
            have hat2 := hat'.out
            rw [hatS] at hat2
            cases hat2
            have hfr : wo.frozen? ⟨gr, t * 2 + 1, none⟩ = false := by
              obtain ⟨cs, e, h1, _⟩ := hO
              rw [hln] at h1
              exact h1.frozenAt _
            rw [Nat.zero_add] at hc1
            have hset := hide (sclT_set (f := F) hat)
            have hgw : gr < wo.heap.size := (hO.own_lt rfl).2
            have hgn : gr < w1.heap.size := hqlt.out gr rfl
            clear hat' hd hatS hc0 hm0
            go_upto_region 7 with fail
            refine wp_region_more_tail 11 (by kernel_rfl) (by kernel_rfl) ?_
            simp only [List.take]
            repeat (go_big_quiet_step (fail))
            refine wpQuiet_nil ?_
            rintro w3 ⟨qq, hw3⟩
            have hb3 := below_of_eq hw3
            clear hw3 qq
            have hc3 := keep_cell hb3 hc1
            have hfr3 : w3.frozen? ⟨gr, t * 2 + 1, none⟩ = false := by
              obtain ⟨cs, e, h1, _⟩ := hO.below hb3
              rw [hln] at h1
              exact h1.frozenAt _
            have hO3 := (hO.below hb3).setMany (y := z * F) hln (sclT_at hat) (by unfold I64; omega)
            rw [← hset.out] at hO3
            have hH3 := (hH.below hb3 hH.lt).far (p := ⟨gr, t * 2 + 1, none⟩) (by show w1.heap.size ≠ gr; omega) (.int .i64 (z * F))
            have hbf := (Below_trans' hb hb.size hb3).setCell (p := ⟨gr, t * 2 + 1, none⟩) hgr (.int .i64 (z * F))
            clear q2 hc1 hfr hat
            go_wp2
            go_roundw
            case rel => exact ⟨t + 1, by omega, by go_num, hO3, hH3, hbf⟩
            case measure => simp [intOf] <;> omega
          · obtain rfl : n = t := by omega
            have hend : Hid (sclT F n l = l.map fun r => (r.1, r.2 * F)) := sclT_end (by omega)
            rw [hend.out] at hO
            have hQR := hO.rows
            have hbw2 := Below_trans' hbw0 hbw0.size hb
            have hPo := hP.below hb hP.lt
            generalize hl2 : (l.map fun r => (r.1, r.2 * F)) = l2 at hQR
            have HL2 := hide hl2
            clear hl2
            go_upto_region 8 with fail
            have q0 := hH.cell 0
            have q1 := hH.cell 1
            go_wp2_with fail
            refine (rcheck_any nt 2 Aq n cq l2 wo hQR).mono ?_
            rintro e w4 ⟨rfl, hb4⟩
            have hbw4 := Below_trans' hbw2 hbw2.size hb4
            clear q0 q1 q2
            by_cases hc2 : checkS nt 2 l2 = 0
            · have e2 : (checkS nt 2 l2 != 0) = false := by simp [hc2]
              have hm2 : mayS nt 2 l2 2 S 10 lot = 0 := may_ok hc2 rfl (fun hh => by rcases hh with h | h | h | h; omega; omega; omega; rw [Hlot.out] at h; cases h)
              have hrun2 : Hid (listR rule nt 2 l2 S lot = listO rule l2 nt lot S) := by unfold Hid; rw [listR_ok hm2, Int.toNat_natCast, Int.toNat_natCast]
              have hsc := hide (listO_scale rule l nt lot S (f := F) (by omega))
              rw [HL2.out] at hsc
              have hmay2 := hide hm2
              clear hc2 hm2
              have hP4 := hPo.below hb4 hPo.lt
              have hH4 := hH.below hb4 hH.lt
              have hQ4 := hQR.below hb4
              -- the count of S seats at the world w4 (hbw4 : Below w .. w4; hP4 : the profile's box); names end in a; region 11 behind it
              have p0 := hP4.cell 0
              have p1 := hP4.cell 1
              have p2 := hP4.cell 2
              go_wp2_with fail
              refine (count20_any rule nt 2 A n cp l S At nt ct lot w4 (h.below hbw4) (h'.below hbw4) (by omega)).mono ?_
              rintro e ua ⟨Aea, nea, cea, Ara, nra, cra, Ava, nva, cva, rfl, hOa, hb1⟩
              rw [hrun.out] at hOa
              rw [hmay.out]
              clear p0 p1 p2
              go_upto_region 11 with fail
              have hb2 : Below ua.heap.size ua (ua.alloc (.cells #[.slice Aea nea cea, .slice Ara nra cra, .slice Ava nva cva] 31)) := below_allocN
              have hXa := Has.new ua 31 #[.slice Aea nea cea, .slice Ara nra cra, .slice Ava nva cva]
              generalize World.alloc ua _ = ya at hb2 hXa ⊢
              replace hOa := hOa.below hb2
              have hga := Below_trans' hb1 hb1.size hb2
              have hbwa := Below_trans' hbw4 (hbw4).size hga
              have hPa := hP4.below hga hP4.lt
              clear hb1 hb2
              have hHa := hH4.below hga hH4.lt
              have hQa := hQ4.below hga
              have p0 := hHa.cell 0
              have p1 := hHa.cell 1
              have p2 := hHa.cell 2
              go_wp2_with fail
              refine (count20_any rule nt 2 Aq n cq l2 S At nt ct lot ya hQa (h'.below hbwa) (by omega)).mono ?_
              rintro e ub ⟨Aeb, neb, ceb, Arb, nrb, crb, Avb, nvb, cvb, rfl, hOb, hb1⟩
              rw [hrun2.out] at hOb
              rw [hmay2.out]
              clear p0 p1 p2
              go_upto_region 12 with fail
              have hb2 : Below ub.heap.size ub (ub.alloc (.cells #[.slice Aeb neb ceb, .slice Arb nrb crb, .slice Avb nvb cvb] 31)) := below_allocN
              have hXb := Has.new ub 31 #[.slice Aeb neb ceb, .slice Arb nrb crb, .slice Avb nvb cvb]
              generalize World.alloc ub _ = yb at hb2 hXb ⊢
              replace hOb := hOb.below hb2
              have hgb := Below_trans' hb1 hb1.size hb2
              have hbwb := Below_trans' hbwa hbwa.size hgb
              obtain ⟨ha1, _, ha3⟩ := hOa.below hgb
              obtain ⟨hc1, _, hc3⟩ := hOb
              rw [hsc.out.1] at hc1
              rw [hsc.out.2] at hc3
              have hXa' := hXa.below hgb hXa.lt
              have x0 := hXa'.cell 0
              have x2 := hXa'.cell 2
              have t0 := hXb.cell 0
              have t2 := hXb.cell 2
              go_wp2_with fail
              refine (ints_eq _ _ _ _ _ _ _ yb ha1 hc1).mono ?_
              rintro e w5 ⟨rfl, hb5⟩
              clear x0 x2 t0 t2
              have hXa5 := hXa'.below hb5 hXa'.lt
              have hXb5 := hXb.below hb5 hXb.lt
              have x2 := hXa5.cell 2
              have t2 := hXb5.cell 2
              go_wp2_with fail
              refine (ties_eq _ _ _ _ _ _ _ w5 (ha3.below below_tie hb5) (hc3.below below_tie hb5)).mono ?_
              rintro e w6 ⟨rfl, hb6⟩
              clear x2 t2
              have hbw6 := Below_trans' hbwb hbwb.size (Below_trans' hb5 hb5.size hb6)
              go_wp2_with fail
              refine (wakes20_any _).mono ?_
              rintro e w9 ⟨rfl, hb9⟩
              go_wp2
              go_ret
              exact ⟨rfl, Below_trans' hbw6 (hbw6).size hb9⟩
            · have e2 : (checkS nt 2 l2 != 0) = true := by simp [hc2]
              clear hc2
              go_wp2_with fail
              refine (wakes20_any _).mono ?_
              rintro e w9 ⟨rfl, hb9⟩
              go_wp2
              go_ret
              exact ⟨rfl, Below_trans' hbw4 (hbw4).size hb9⟩
  · have e1 : (mayS c k l 2 nn 10 lot == 0) = false := by simp [hE]
    clear hE
    go_wp2_with fail
    refine (wakes20_any _).mono ?_
    rintro e w9 ⟨rfl, hb9⟩
    go_wp2
    go_ret
    exact ⟨rfl, Below_trans' hbw0 (hbw0).size hb9⟩
end Go.Proofs.Ytiebfalodelclaa
