/-
  The law ListsTells.
-/
import Derived.Test.YtiebfalodelclaaGreatW11t
import Derived.Test.YtiebfalodelclaaGreatW20e
import Derived.Test.YtiebfalodelclaaGreatW20t
namespace Go.Proofs.YtiebfalodelclaaGreat
open Go.RowKit Go.Proofs Go.Shelf
attribute [local go_sem] cell?_more cell?_alloc_some cell?_setCell_far frozen?_alloc_some frozen?_more
set_option maxRecDepth 100000 in
set_option maxHeartbeats 4000000 in
theorem listsTells_any (c k : Int) (A : Option Addr) (n cp : Nat) (l : List Row) (seats : Int) (At : Option Addr) (nt ct : Nat) (lot : List Int) (w : World) (h : RRows w A n cp l) (hl : RInts w At nt ct lot) :
    Calls Tryz.prog 3 #[.agg #[.int .i64 c, .int .u8 k, .slice A n cp], .int .i64 seats, .slice At nt ct] w fun e w' => e = .returned (.bool true) ∧ Below w.heap.size w w' := by
  have hb : Below w.heap.size w (w.alloc (.cells #[.int .i64 c, .int .u8 k, .slice A n cp] 24)) := below_allocN
  have hP : Has (w.alloc (.cells #[.int .i64 c, .int .u8 k, .slice A n cp] 24)) w.heap.size 24 #[.int .i64 c, .int .u8 k, .slice A n cp] := Has.new _ _ _
  go_enter Tryz.func3, Tryz.ntmps3
  go_upto_region 1 with fail
  generalize World.alloc w _ = W0 at hb hP ⊢
  have p0 := hP.cell 0
  have p1 := hP.cell 1
  have p2 := hP.cell 2
  go_wp2_with fail
  refine (great11_any c k A n cp l At nt ct lot W0 (h.below hb) (hl.below hb)).mono ?_
  rintro e z0 ⟨rfl, hbz0⟩
  have hbw0 := Below_trans' hb hb.size hbz0
  replace hP := hP.below hbz0 hP.lt
  clear p0 p1 p2
  cases hg : great11 l lot with
  | true =>
    clear hg
    go_wp2_with fail
    refine (wakes20_any _).mono ?_
    rintro e w9 ⟨rfl, hb9⟩
    go_wp2
    go_ret
    exact ⟨rfl, Below_trans' hbw0 (hbw0).size hb9⟩
  | false =>
    have hg1 : greatS l = false ∧ lot.length ≤ 60 := by
      unfold great11 at hg
      rw [Bool.or_eq_false_iff, decide_eq_false_iff_not] at hg
      exact ⟨hg.1, by omega⟩
    have G1 := great_no hg1.1
    have hn9 : n ≤ 1000 := by have := h.len; omega
    have hnt : nt ≤ 60 := by have := hl.len; omega
    have hlt := hg1.2
    have M1 := hide (show ∀ r ∈ l, r.1.length ≤ 1000 from fun r hr => by have := G1.2 r hr; omega)
    have hz := h.below hbw0
    have hlz := hl.below hbw0
    have hbnd := hide (fun x (hx : x ∈ lot) => hl.bd hx)
    clear hg hg1 G1
    have cp_0 := hP.cell 0
    have cp_1 := hP.cell 1
    have cp_2 := hP.cell 2
    go_wp2_with fail
    refine (rtwin_any c k A n cp l z0 hz hn9 M1.out).mono ?_
    rintro e z1 ⟨vw, rfl, hOw, hb0⟩
    clear cp_0 cp_1 cp_2
    obtain ⟨Aw, nw, cw, rfl⟩ := orows_slice hOw
    have hba : Below z1.heap.size z1 (z1.alloc (.cells #[] 3)) := below_allocN
    obtain ⟨vo, zz, h41, h42, h43, h44⟩ := run_appInts (z1.alloc (.cells #[] 3)) 25 (Own.lit0 z1 z1.heap.size (Nat.le_refl _)) ((hlz.below hb0).below hba) (by simp; omega) hba.size
    rw [List.nil_append] at h42
    have hb1 : Below z1.heap.size z1 zz := hba.grown h43 hba.size (fun j hj => by cases hj; exact Nat.le_refl _)
    obtain ⟨Ao, co, rfl⟩ := h42.slice
    have hro := h42.ints hbnd.out
    generalize lot.length = no at h41 h42 hro ⊢
    clear h44 h42
    go_upto_region 4 with (at_builtin; refine list_app rfl rfl rfl rfl h41 ?_)
    clear h41 h43 hba
    have hb2 : Below zz.heap.size zz (zz.alloc (.cells #[.int .i64 c, .int .u8 k, .slice Aw nw cw] 24)) := below_allocN
    have hwas := Has.new zz 24 #[.int .i64 c, .int .u8 k, .slice Aw nw cw]
    generalize World.alloc zz _ = z3 at hb2 hwas ⊢
    have hB1_3 := Below_trans' hb1 hb1.size hb2
    have hB0_3 := Below_trans' hb0 hb0.size hB1_3
    have hbw3 := Below_trans' hbw0 hbw0.size hB0_3
    have hP3 := hP.below hB0_3 hP.lt
    have hR3 := hz.below hB0_3
    have hL3 := hlz.below hB0_3
    have hW3 := hOw.rows.below hB1_3
    have hO3 := hro.below hb2
    clear hP hz hlz hOw hro hb0 hb1 hb2 hB1_3 hB0_3 hbz0 hbw0 hb
    go_wp2
    go_loopw [9] (fun i wr => ∃ r : Nat, r ≤ 3 ∧ i = .int .i64 r ∧ Below z3.heap.size z3 wr) (fun i _ => 3 - (intOf i).toNat)
    case atStart => exact ⟨0, by omega, rfl, Below.refl _ _⟩
    case round =>
      obtain ⟨r, hr, rfl, hb⟩ := hrel
      obtain ⟨wo, rfl⟩ : ∃ wo : World, wo = wr := ⟨_, rfl⟩
      by_cases hlt : r < 3
      · have b1 : (r : Int) < 3 := by omega
        have hPo := hP3.below hb hP3.lt
        have p0 := hPo.cell 0
        have p1 := hPo.cell 1
        have p2 := hPo.cell 2
        go_wp2_with fail
        refine (count20_any r c k A n cp l seats At nt ct lot wo (hR3.below hb) (hL3.below hb) (by omega)).mono ?_
        rintro e w1 ⟨E1, ne1, ce1, R1, nr1, cr1, V1, nv1, cv1, rfl, hO1, hb1⟩
        clear p0 p1 p2
        go_upto_region 8 with fail
        have hb2 : Below w1.heap.size w1 (w1.alloc (.cells #[.slice E1 ne1 ce1, .slice R1 nr1 cr1, .slice V1 nv1 cv1] 32)) := below_allocN
        have hX1 := Has.new w1 32 #[.slice E1 ne1 ce1, .slice R1 nr1 cr1, .slice V1 nv1 cv1]
        generalize World.alloc w1 _ = w2 at hb2 hX1 ⊢
        replace hO1 := hO1.below hb2
        have hb02 := Below_trans' hb (hb.size) (Below_trans' hb1 hb1.size hb2)
        have hP2 := hP3.below hb02 hP3.lt
        have p0 := hP2.cell 0
        have p1 := hP2.cell 1
        have p2 := hP2.cell 2
        go_wp2_with fail
        refine (rcount20_any r (by omega) c k A n cp l seats At nt ct lot w2 (hR3.below hb02) (hL3.below hb02)).mono ?_
        rintro e w3 ⟨E2, ne2, ce2, R2, nr2, cr2, V2, nv2, cv2, rfl, hO2, hb3⟩
        clear p0 p1 p2
        go_upto_region 9 with fail
        have hb4 : Below w3.heap.size w3 (w3.alloc (.cells #[.slice E2 ne2 ce2, .slice R2 nr2 cr2, .slice V2 nv2 cv2] 32)) := below_allocN
        have hX2 := Has.new w3 32 #[.slice E2 ne2 ce2, .slice R2 nr2 cr2, .slice V2 nv2 cv2]
        generalize World.alloc w3 _ = w4 at hb4 hX2 ⊢
        replace hO2 := hO2.below hb4
        have hb24 := Below_trans' hb3 hb3.size hb4
        have hb04 := Below_trans' hb02 hb02.size hb24
        replace hO1 := hO1.below hb24
        have hX1' := hX1.below hb24 hX1.lt
        have x0 := hX1'.cell 0
        have x1 := hX1'.cell 1
        have x2 := hX1'.cell 2
        have y0 := hX2.cell 0
        have y1 := hX2.cell 1
        have y2 := hX2.cell 2
        have f1 : (mayS c k l 2 seats 10 lot != mayS c k l 2 seats 10 lot) = false := by simp
        generalize listR (r : Int) c k l seats lot = o at hO1 hO2
        go_wp2_with fail
        refine (same_eq E1 ne1 ce1 R1 nr1 cr1 V1 nv1 cv1 E2 ne2 ce2 R2 nr2 cr2 V2 nv2 cv2 o w4 hO1 hO2).mono ?_
        rintro e w5 ⟨rfl, hb5⟩
        clear x0 x1 x2 y0 y1 y2
        have hb05 := Below_trans' hb04 hb04.size hb5
        go_wp2
        go_roundw
        case rel => exact ⟨r + 1, by omega, by go_num, hb05⟩
        case measure => simp [intOf] <;> omega
      · obtain rfl : r = 3 := by omega
        have hPo := hP3.below hb hP3.lt
        have hWo := hwas.below hb hwas.lt
        have x0 := hPo.cell 0
        have x1 := hPo.cell 1
        have x2 := hPo.cell 2
        have y0 := hWo.cell 0
        have y1 := hWo.cell 1
        have y2 := hWo.cell 2
        have hsame := rsame_any c k A n cp l c k Aw nw cw l wo (hR3.below hb) (hW3.below hb)
        rw [sameB_self] at hsame
        go_wp2_with fail
        refine hsame.mono ?_
        rintro e w5 ⟨rfl, hb5⟩
        clear x0 x1 x2 y0 y1 y2 hsame
        have hb05 := Below_trans' hb hb.size hb5
        go_wp2_with fail
        refine (ints_eq _ _ _ _ _ _ _ w5 (hL3.below hb05) (hO3.below hb05)).mono ?_
        rintro e w6 ⟨rfl, hb6⟩
        have hb06 := Below_trans' hbw3 hbw3.size (Below_trans' hb05 hb05.size hb6)
        go_wp2_with fail
        refine (wakes20_any _).mono ?_
        rintro e w9 ⟨rfl, hb9⟩
        go_wp2
        go_ret
        exact ⟨rfl, Below_trans' hb06 (hb06).size hb9⟩
end Go.Proofs.YtiebfalodelclaaGreat
