/-
  The law RunoffTells.
-/
import Derived.Test.YtcmoekkaakkpjaaGreatW15g
import Derived.Test.YtcmoekkaakkpjaaGreatW15h
import Derived.Test.YtcmoekkaakkpjaaGreatGrt
import Derived.Test.YtcmoekkaakkpjaaGreatW9u
import Derived.Test.YtcmoekkaakkpjaaGreatW9v
namespace Go.Proofs.YtcmoekkaakkpjaaGreat
open Go.RowKit Go.Proofs Go.Shelf
attribute [local go_sem] cell?_more cell?_alloc_some cell?_setCell_far frozen?_alloc_some frozen?_more

theorem Own.lit0 (w : World) (B : Nat) (hB : B ≤ w.heap.size) : Own (w.alloc (.cells #[] 3)) B (.slice (some ⟨w.heap.size, 0, none⟩) 0 0) [] := by
  have := World.ownsRow_lit (base := B) (e := 3) (size := 1) w #[] 0 hB (by unfold maxLen; omega) (by simp)
  unfold Own
  simpa using this
theorem orows_slice {w : World} {B : Nat} {v : Value} {l : List Row} (h : ORows w B v l) : ∃ A n c, v = .slice A n c := by
  obtain ⟨cs, _, ho, _⟩ := h
  rcases ho.2 with ⟨e, _⟩ | ⟨g, cap, cur, e, _⟩
  · exact ⟨_, _, _, e⟩
  · exact ⟨_, _, _, e⟩
/-- Is a profile, or a lot, too great? -/
def great11 (l : List Row) (lot : List Int) : Bool := greatS l || decide (60 < lot.length)
theorem great11_any (c k : Int) (A : Option Addr) (n cp : Nat) (l : List Row) (At : Option Addr) (nt ct : Nat) (lot : List Int) (w : World) (h : RRows w A n cp l) (h' : RInts w At nt ct lot) :
    Calls Tryz.prog 15 #[.agg #[.int .i64 c, .int .u8 k, .slice A n cp], .slice At nt ct] w fun e w' => e = .returned (.bool (great11 l lot)) ∧ Below w.heap.size w w' := by
  have hb0 : Below w.heap.size w (w.alloc (.cells #[.int .i64 c, .int .u8 k, .slice A n cp] 24)) := below_allocN
  have hP0 := Has.new w 24 #[.int .i64 c, .int .u8 k, .slice A n cp]
  have hl := h'.len
  generalize hW : World.alloc w _ = W0 at hb0 hP0
  have p0 := hP0.cell 0
  have p1 := hP0.cell 1
  have p2 := hP0.cell 2
  go_enter Tryz.func15, Tryz.ntmps15
  go_wp2_with fail
  try simp only [hW]
  clear hW
  refine (great_any c k A n cp l W0 (h.below hb0)).mono ?_
  rintro e w1 ⟨rfl, hb1⟩
  have hb01 := Below_trans' hb0 hb0.size hb1
  cases hg : greatS l with
  | true =>
    go_wp2
    go_ret
    exact ⟨by unfold great11; rw [hg]; rfl, hb01⟩
  | false =>
    have hr : Hid (decide ((60 : Int) < (nt : Int)) = great11 l lot) := by
      unfold Hid great11
      rw [hg, hl, Bool.false_or]
      exact decide_eq_decide.2 (by omega)
    clear hg hl
    go_wp2
    go_ret
    exact ⟨ret_b hr.out, hb01⟩
theorem firsts_bd (c k : Int) (l : List Row) (bs : List Bool) : ∀ x ∈ firstsL c k l bs, -9223372036854775808 ≤ x ∧ x ≤ 9223372036854775807 := fun x hx => by
  unfold firstsL at hx
  split at hx
  · rename_i h
    have h1 : checkS c k l = 0 ∧ k = 1 := by
      unfold firstsE at h
      split at h
      · omega
      · rename_i h2; exact ⟨Decidable.byContradiction fun e => h2 (.inl e), Decidable.byContradiction fun e => h2 (.inr e)⟩
    obtain ⟨h1, rfl⟩ := h1
    have hcs := check_ok h1
    obtain ⟨C, rfl⟩ : ∃ C : Nat, c = (C : Int) := ⟨c.toNat, by omega⟩
    have := (rank_ok h1).hads (isS bs) x hx
    omega
  · simp at hx
set_option maxRecDepth 100000 in
set_option maxHeartbeats 4000000 in
theorem runoffTells_any (c k : Int) (A : Option Addr) (n cp : Nat) (l : List Row) (seats : Int) (At : Option Addr) (nt ct : Nat) (lot : List Int) (AB : Option Addr) (nB cB : Nat) (bs : List Bool) (w : World) (h : RRows w A n cp l) (hl : RInts w At nt ct lot) (hB : RBools w AB nB cB bs) :
    Calls Tryz.prog 3 #[.agg #[.int .i64 c, .int .u8 k, .slice A n cp], .int .i64 seats, .slice At nt ct, .slice AB nB cB] w fun e w' => e = .returned (.bool true) ∧ Below w.heap.size w w' := by
  have hb : Below w.heap.size w (w.alloc (.cells #[.int .i64 c, .int .u8 k, .slice A n cp] 24)) := below_allocN
  have hP := Has.new w 24 #[.int .i64 c, .int .u8 k, .slice A n cp]
  generalize hW : World.alloc w _ = W0 at hb hP
  have p0 := hP.cell 0
  have p1 := hP.cell 1
  have p2 := hP.cell 2
  go_enter Tryz.func3, Tryz.ntmps3
  go_wp2_with fail
  try simp only [hW]
  clear hW
  refine (great11_any c k A n cp l At nt ct lot W0 (h.below hb) (hl.below hb)).mono ?_
  rintro e z0 ⟨rfl, hbz0⟩
  have hbw0 := Below_trans' hb hb.size hbz0
  replace hP := hP.below hbz0 hP.lt
  clear p0 p1 p2
  cases hg : great11 l lot with
  | true =>
    clear hg
    go_wp2_with fail
    refine (wakes15_any _).mono ?_
    rintro e w9 ⟨rfl, hb9⟩
    go_wp2
    go_ret
    exact ⟨rfl, Below_trans' hbw0 (hbw0).size hb9⟩
  | false =>
    by_cases h6 : (60 : Int) < (nB : Int)
    · clear hg
      go_wp2_with fail
      refine (wakes15_any _).mono ?_
      rintro e w9 ⟨rfl, hb9⟩
      go_wp2
      go_ret
      exact ⟨rfl, Below_trans' hbw0 (hbw0).size hb9⟩
    · have hg1 : greatS l = false ∧ lot.length ≤ 60 := by
        unfold great11 at hg
        rw [Bool.or_eq_false_iff, decide_eq_false_iff_not] at hg
        exact ⟨hg.1, by omega⟩
      have G1 := great_no hg1.1
      have hn9 : n ≤ 1000 := by have := h.len; omega
      have hnt : nt ≤ 60 := by have := hl.len; omega
      have hlt := hg1.2
      have M1 := hide (show ∀ r ∈ l, r.1.length ≤ 1000 from fun r hr => by have := G1.2 r hr; omega)
      have hz := h.below hbw0
      have hlz := hl.below hbw0
      have hbz := hB.below hbw0
      have hbnd := hide (fun x (hx : x ∈ lot) => hl.bd hx)
      clear hg hg1 G1
      have cp_0 := hP.cell 0
      have cp_1 := hP.cell 1
      have cp_2 := hP.cell 2
      go_wp2_with fail
      refine (rtwin_any c k A n cp l z0 hz hn9 M1.out).mono ?_
      rintro e z1 ⟨vw, rfl, hOw, hb0⟩
      clear cp_0 cp_1 cp_2
      obtain ⟨Aw, nw, cw, rfl⟩ := orows_slice hOw
      have hba : Below z1.heap.size z1 (z1.alloc (.cells #[] 3)) := below_allocN
      obtain ⟨vo, zz, h41, h42, h43, h44⟩ := run_appInts (z1.alloc (.cells #[] 3)) 25 (Own.lit0 z1 z1.heap.size (Nat.le_refl _)) ((hlz.below hb0).below hba) (by simp; omega) hba.size
      rw [List.nil_append] at h42
      have hb1 : Below z1.heap.size z1 zz := hba.grown h43 hba.size (fun j hj => by cases hj; exact Nat.le_refl _)
      obtain ⟨Ao, co, rfl⟩ := h42.slice
      have hro := h42.ints hbnd.out
      generalize lot.length = no at h41 h42 hro ⊢
      clear h44 h42
      go_upto_region 4 with (at_builtin; refine list_app rfl rfl rfl rfl h41 ?_)
      clear h41 h43 hba
      have hb2 : Below zz.heap.size zz (zz.alloc (.cells #[.int .i64 c, .int .u8 k, .slice Aw nw cw] 24)) := below_allocN
      have hwas := Has.new zz 24 #[.int .i64 c, .int .u8 k, .slice Aw nw cw]
      generalize World.alloc zz _ = z3 at hb2 hwas ⊢
      have hB1_3 := Below_trans' hb1 hb1.size hb2
      have hB0_3 := Below_trans' hb0 hb0.size hB1_3
      have cp_0 := (hP.below hB0_3 hP.lt).cell 0
      have cp_1 := (hP.below hB0_3 hP.lt).cell 1
      have cp_2 := (hP.below hB0_3 hP.lt).cell 2
      go_wp2_with fail
      refine (pcount_any c k A n cp l seats At nt ct lot z3 (hz.below hB0_3) (hlz.below hB0_3) (by omega)).mono ?_
      rintro e z4 ⟨E1, ne1, ce1, R1, nr1, cr1, V1, nv1, cv1, rfl, hO1, hb3⟩
      clear cp_0 cp_1 cp_2
      go_upto_region 5 with fail
      have hb4 : Below z4.heap.size z4 (z4.alloc (.cells #[.slice E1 ne1 ce1, .slice R1 nr1 cr1, .slice V1 nv1 cv1] 33)) := below_allocN
      have ho1 := Has.new z4 33 #[.slice E1 ne1 ce1, .slice R1 nr1 cr1, .slice V1 nv1 cv1]
      generalize World.alloc z4 _ = z5 at hb4 ho1 ⊢
      have go1 : z4.heap.size < z5.heap.size := ho1.lt
      have hB3_5 := Below_trans' hb3 hb3.size hb4
      have hB2_5 := Below_trans' hb2 hb2.size hB3_5
      have hB1_5 := Below_trans' hb1 hb1.size hB2_5
      have hB0_5 := Below_trans' hb0 hb0.size hB1_5
      have cp_0 := (hP.below hB0_5 hP.lt).cell 0
      have cp_1 := (hP.below hB0_5 hP.lt).cell 1
      have cp_2 := (hP.below hB0_5 hP.lt).cell 2
      go_wp2_with fail
      refine (rcount_any c k A n cp l seats At nt ct lot z5 (hz.below hB0_5) (hlz.below hB0_5)).mono ?_
      rintro e z6 ⟨E2, ne2, ce2, R2, nr2, cr2, V2, nv2, cv2, rfl, hO2, hb5⟩
      clear cp_0 cp_1 cp_2
      go_upto_region 6 with fail
      have hb6 : Below z6.heap.size z6 (z6.alloc (.cells #[.slice E2 ne2 ce2, .slice R2 nr2 cr2, .slice V2 nv2 cv2] 33)) := below_allocN
      have ho2 := Has.new z6 33 #[.slice E2 ne2 ce2, .slice R2 nr2 cr2, .slice V2 nv2 cv2]
      generalize World.alloc z6 _ = z7 at hb6 ho2 ⊢
      have go2 : z6.heap.size < z7.heap.size := ho2.lt
      have hB5_7 := Below_trans' hb5 hb5.size hb6
      have hB4_7 := Below_trans' hb4 hb4.size hB5_7
      have hB3_7 := Below_trans' hb3 hb3.size hB4_7
      have hB2_7 := Below_trans' hb2 hb2.size hB3_7
      have hB1_7 := Below_trans' hb1 hb1.size hB2_7
      have hB0_7 := Below_trans' hb0 hb0.size hB1_7
      have cp_0 := (hP.below hB0_7 hP.lt).cell 0
      have cp_1 := (hP.below hB0_7 hP.lt).cell 1
      have cp_2 := (hP.below hB0_7 hP.lt).cell 2
      go_wp2_with fail
      refine (pfirsts_any c k A n cp l AB nB cB bs z7 (hz.below hB0_7) (hbz.below hB0_7)).mono ?_
      rintro e z8 ⟨v3, rfl, hF3, hb7⟩
      clear cp_0 cp_1 cp_2
      obtain ⟨F3, f3, rfl⟩ := hF3.slice
      have rF3 := hF3.ints (firsts_bd c k l bs)
      generalize (firstsL c k l bs).length = m3 at rF3 hF3 ⊢
      clear hF3
      go_upto_region 7 with fail
      have hB6_8 := Below_trans' hb6 hb6.size hb7
      have hB5_8 := Below_trans' hb5 hb5.size hB6_8
      have hB4_8 := Below_trans' hb4 hb4.size hB5_8
      have hB3_8 := Below_trans' hb3 hb3.size hB4_8
      have hB2_8 := Below_trans' hb2 hb2.size hB3_8
      have hB1_8 := Below_trans' hb1 hb1.size hB2_8
      have hB0_8 := Below_trans' hb0 hb0.size hB1_8
      have cp_0 := (hP.below hB0_8 hP.lt).cell 0
      have cp_1 := (hP.below hB0_8 hP.lt).cell 1
      have cp_2 := (hP.below hB0_8 hP.lt).cell 2
      go_wp2_with fail
      refine (rfirsts_any c k A n cp l AB nB cB bs z8 (hz.below hB0_8) (hbz.below hB0_8) (by omega)).mono ?_
      rintro e z9 ⟨v4, rfl, hF4, hb8⟩
      clear cp_0 cp_1 cp_2
      obtain ⟨F4, f4, rfl⟩ := hF4.slice
      have rF4 := hF4.ints (firsts_bd c k l bs)
      generalize (firstsL c k l bs).length = m4 at rF4 hF4 ⊢
      clear hF4
      go_upto_region 8 with fail
      have e1 : (mayS c k l 1 seats 1 lot == mayS c k l 1 seats 1 lot) = true := by simp
      have e2 : (firstsN c k l bs == firstsN c k l bs) = true := by simp
      have e3 : (firstsE c k l == firstsE c k l) = true := by simp
      have hB7_9 := Below_trans' hb7 hb7.size hb8
      have hB6_9 := Below_trans' hb6 hb6.size hB7_9
      have hB5_9 := Below_trans' hb5 hb5.size hB6_9
      have co1_0 := (ho1.below hB5_9 ho1.lt).cell 0
      have co1_1 := (ho1.below hB5_9 ho1.lt).cell 1
      have co1_2 := (ho1.below hB5_9 ho1.lt).cell 2
      have co2_0 := (ho2.below hB7_9 ho2.lt).cell 0
      have co2_1 := (ho2.below hB7_9 ho2.lt).cell 1
      have co2_2 := (ho2.below hB7_9 ho2.lt).cell 2
      go_wp2_with fail
      have hB4_9 := Below_trans' hb4 hb4.size hB5_9
      refine (same_eq _ _ _ _ _ _ _ _ _ _ _ _ _ _ _ _ _ _ _ z9 (hO1.below hB4_9) (hO2.below hB6_9)).mono ?_
      rintro e z10 ⟨rfl, hb9⟩
      clear co1_0 co1_1 co1_2 co2_0 co2_1 co2_2
      go_wp2_with fail
      have hB8_10 := Below_trans' hb8 hb8.size hb9
      refine (ints_eq _ _ _ _ _ _ _ z10 (rF3.below hB8_10) (rF4.below hb9)).mono ?_
      rintro e z11 ⟨rfl, hb10⟩
      have hB9_11 := Below_trans' hb9 hb9.size hb10
      have hB8_11 := Below_trans' hb8 hb8.size hB9_11
      have hB7_11 := Below_trans' hb7 hb7.size hB8_11
      have hB6_11 := Below_trans' hb6 hb6.size hB7_11
      have hB5_11 := Below_trans' hb5 hb5.size hB6_11
      have hB4_11 := Below_trans' hb4 hb4.size hB5_11
      have hB3_11 := Below_trans' hb3 hb3.size hB4_11
      have hB2_11 := Below_trans' hb2 hb2.size hB3_11
      have hB1_11 := Below_trans' hb1 hb1.size hB2_11
      have hB0_11 := Below_trans' hb0 hb0.size hB1_11
      have cp_0 := (hP.below hB0_11 hP.lt).cell 0
      have cp_1 := (hP.below hB0_11 hP.lt).cell 1
      have cp_2 := (hP.below hB0_11 hP.lt).cell 2
      have cwas_0 := (hwas.below hB3_11 hwas.lt).cell 0
      have cwas_1 := (hwas.below hB3_11 hwas.lt).cell 1
      have cwas_2 := (hwas.below hB3_11 hwas.lt).cell 2
      go_wp2_with fail
      refine (rsame_any c k A n cp l c k Aw nw cw l z11 (hz.below hB0_11) (hOw.rows.below hB1_11)).mono ?_
      rintro e z12 ⟨rfl, hb11⟩
      clear cp_0 cp_1 cp_2 cwas_0 cwas_1 cwas_2
      rw [sameB_self]
      go_wp2_with fail
      have hB10_12 := Below_trans' hb10 hb10.size hb11
      have hB9_12 := Below_trans' hb9 hb9.size hB10_12
      have hB8_12 := Below_trans' hb8 hb8.size hB9_12
      have hB7_12 := Below_trans' hb7 hb7.size hB8_12
      have hB6_12 := Below_trans' hb6 hb6.size hB7_12
      have hB5_12 := Below_trans' hb5 hb5.size hB6_12
      have hB4_12 := Below_trans' hb4 hb4.size hB5_12
      have hB3_12 := Below_trans' hb3 hb3.size hB4_12
      have hB2_12 := Below_trans' hb2 hb2.size hB3_12
      have hB1_12 := Below_trans' hb1 hb1.size hB2_12
      have hB0_12 := Below_trans' hb0 hb0.size hB1_12
      refine (ints_eq _ _ _ _ _ _ _ z12 (hlz.below hB0_12) (hro.below hB2_12)).mono ?_
      rintro e z13 ⟨rfl, hb12⟩
      have hB11_13 := Below_trans' hb11 hb11.size hb12
      have hB10_13 := Below_trans' hb10 hb10.size hB11_13
      have hB9_13 := Below_trans' hb9 hb9.size hB10_13
      have hB8_13 := Below_trans' hb8 hb8.size hB9_13
      have hB7_13 := Below_trans' hb7 hb7.size hB8_13
      have hB6_13 := Below_trans' hb6 hb6.size hB7_13
      have hB5_13 := Below_trans' hb5 hb5.size hB6_13
      have hB4_13 := Below_trans' hb4 hb4.size hB5_13
      have hB3_13 := Below_trans' hb3 hb3.size hB4_13
      have hB2_13 := Below_trans' hb2 hb2.size hB3_13
      have hB1_13 := Below_trans' hb1 hb1.size hB2_13
      have hB0_13 := Below_trans' hb0 hb0.size hB1_13
      have hbe := Below_trans' hbw0 hbw0.size (hB0_13)
      go_wp2_with fail
      refine (wakes15_any _).mono ?_
      rintro e w9 ⟨rfl, hb9⟩
      go_wp2
      go_ret
      exact ⟨rfl, Below_trans' hbe (hbe).size hb9⟩
end Go.Proofs.YtcmoekkaakkpjaaGreat
