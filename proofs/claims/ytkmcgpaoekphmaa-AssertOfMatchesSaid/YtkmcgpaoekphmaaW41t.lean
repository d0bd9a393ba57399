/-
  The reference of assertions: runoff.
-/
import Derived.Test.YtkmcgpaoekphmaaW41s
namespace Go.Proofs.Ytkmcgpaoekphmaa
open Go.RowKit Go.Proofs Go.Shelf
attribute [local go_sem] cell?_more cell?_alloc_some cell?_setCell_far frozen?_alloc_some frozen?_more
/-- What the reference's runoff leaves. -/
def RRunPost (w : World) (l : Option (List Asn)) (e : Ending) (w' : World) : Prop :=
  (∃ v, e = .returned (.tuple #[v, .bool l.isSome]) ∧ ∀ x, l = some x → ∃ fp, OAgg EAsn 24 4 fp w' w.heap.size v x) ∧ Below w.heap.size w w'
theorem rret_none {l : Option (List Asn)} {w w' : World} {v : Value} (hl : l = none) (hb : Below w.heap.size w w') : RRunPost w l (.returned (.tuple #[v, .bool false])) w' := by
  subst hl; exact ⟨⟨_, rfl, fun x h => by cases h⟩, hb⟩
theorem inL_others {gone : List Int} {C : Nat} {x : Int} : inL (othersL gone C) x = (inR 0 C x && !inL gone x) := by
  rw [Bool.eq_iff_iff, inL_iff, mem_othersL, Bool.and_eq_true, inR_iff]
  simp [← inL_iff]
theorem goneRO_nil : goneRO [] = [] := rfl

set_option maxRecDepth 100000 in
set_option maxHeartbeats 8000000 in
theorem rrunoff_any (Ae : Option Addr) (ne ce : Nat) (el : List Int) (Ar : Option Addr) (nr cr : Nat) (outs : List (List Int)) (vt : Option Addr) (nt ct : Nat) (C : Nat) (hC : C ≤ 10) (hne : 0 < ne) (hnr : nr ≤ 40) (w : World) (he : RInts w Ae ne ce el) (hr : RAgg ERo 6 w Ar nr cr outs) :
    Calls Try.prog 33 #[.agg #[.slice Ae ne ce, .slice Ar nr cr, .slice vt nt ct], .int .i64 (C : Int)] w (RRunPost w (runoffL el outs C)) := by
  have hol := hide hr.len
  have hb : Below w.heap.size w (w.alloc (.cells #[.slice Ae ne ce, .slice Ar nr cr, .slice vt nt ct] 41)) := below_allocN
  have hP := Has.new w 41 #[.slice Ae ne ce, .slice Ar nr cr, .slice vt nt ct]
  go_enter Try.func33, Try.ntmps33
  go_upto_region 1 with fail
  generalize World.alloc w _ = W0 at hb hP ⊢
  have p0 := hP.cell 0
  have p1 := hP.cell 1
  have he0 := he.below hb
  have hr0 := hr.below below_ro hb
  obtain ⟨be, oe, e0, rfl, hce, _, hate, he64⟩ := he0.step (k := 0) hne
  simp only [Nat.add_zero] at hce
  have hel : Hid (el.getD 0 0 = e0) := by unfold Hid; simp [List.getD, hate.out]
  have hW0 := hide (show w.heap.size ≤ W0.heap.size from hb.size)
  have hR0 := hide (RunAt.start w W0 W0.heap.size hb)
  go_wp2
  go_loopw [6, 7, 8] (fun v g i wr => ∃ X : Nat, X ≤ nr - 1 ∧ i = .int .i64 X ∧ Hid (okRO el C (outs.take X) [] = true) ∧ Hid (RunAt w W0.heap.size (asnRO C (outs.take X) []) (goneRO (outs.take X)) v g wr) ∧ Below W0.heap.size W0 wr) (fun _ _ i _ => nr - (intOf i).toNat)
  case atStart => exact ⟨0, Nat.zero_le _, rfl, rfl, hR0, Below.refl _ _⟩
  case round =>
    obtain ⟨X, hX, rfl, hok, hR, hbr⟩ := hrel
    obtain ⟨wo, rfl⟩ : ∃ wo : World, wo = wr := ⟨_, rfl⟩
    have hPo := hP.below hbr hP.lt
    clear p0 p1
    have p0 := hPo.cell 0
    have p1 := hPo.cell 1
    have hb0r := Below_trans' hb hb.size hbr
    have hgl := goneRO_len outs X (by rw [hol.out]; omega)
    obtain ⟨Ag, cg, rfl⟩ : ∃ Ag cg, u7 = .slice Ag X cg := by
      obtain ⟨A, c, e⟩ := hR.out.own.slice
      exact ⟨A, c, by rw [e, hgl]⟩
    have hrg := hide (ok_range hok.out)
    have hG0 := hR.out.own.ints (fun x hx => by have := hrg.out x hx; omega)
    have hG : RInts wo Ag X cg (goneRO (outs.take X)) := hgl ▸ hG0
    have Hgl := hide hgl
    clear hgl hG0
    generalize hgd : goneRO (outs.take X) = gone at *
    have Hgd := hide hgd
    clear hgd
    have hal := hide (asnRO_len C (outs.take X) [])
    have htl := hide (show (outs.take X).length ≤ X by rw [List.length_take]; omega)
    by_cases hlt : X + 1 < nr
    · have bX : (X : Int) + 1 < (nr : Int) := by omega
      obtain ⟨m, rfl⟩ : ∃ m, nr = m + 1 := ⟨nr - 1, by omega⟩
      have hXm : X < m := by omega
      obtain ⟨br, or_, vs, o, rfl, _, hcell, ⟨A1, n1, c1, b1, A2, n2, c2, A3, n3, c3, A4, n4, c4, Ao, no, co, rfl, hO⟩, _, hat⟩ := hr0.step (k := X) (by omega)
      have r5 := keep_cell hbr (hcell 5 _ rfl)
      clear hcell
      go_wp2_with fail
      refine (left41_any Ag X cg gone C hC wo hG).mono ?_
      rintro e w3 ⟨v3, rfl, hL3, hb3⟩
      have hb1 := Below_trans' hbr hbr.size hb3
      have hb03 := Below_trans' hb hb.size hb1
      have hR3 := hide (hR.out.later hb3)
      obtain ⟨A4l, c4l, rfl⟩ := hL3.slice
      have hnl := others_le gone C
      have hLr := hL3.ints (fun q hq => by have h2 := (mem_othersL.1 hq).1; omega)
      have hap3 : Hid (∀ b, u6.ownBlock = some b → (Value.slice A4l (othersL gone C).length c4l).ownBlock ≠ some b) := fun b hb1 hb2 => by
        obtain ⟨⟨fp, ho, _⟩, _⟩ := hR.out
        have := (ho.lt hb1).2; have := (hL3.own_lt hb2).1; omega
      have hO3 := hO.below hb1
      have hce3 := keep_cell hb1 hce
      have hP3 := hPo.below hb3 hPo.lt
      clear p0 p1 r5 hce
      have p0 := hP3.cell 0
      obtain ⟨lf, hlf⟩ : ∃ lf, lf = othersL gone C := ⟨_, rfl⟩
      rw [← hlf] at hL3 hnl hLr hap3 ⊢
      have Hlf := hide hlf
      clear hlf
      obtain ⟨nl, hnl2⟩ : ∃ nl, nl = lf.length := ⟨_, rfl⟩
      have hlen : Hid (lf.length = nl) := hnl2.symm
      rw [← hnl2] at hL3 hnl hLr hap3 ⊢
      clear hnl2
      by_cases hno : no = 1
      · subst hno
        obtain ⟨bx, ox, x, rfl, hcx0, _, hatx, hx64⟩ := hO.step (k := 0) (by omega)
        simp only [Nat.add_zero] at hcx0
        have hcx := keep_cell hb1 hcx0
        have hol1 : Hid (o.length = 1) := hO3.len
        have hx0 : Hid (o.getD 0 0 = x) := by unfold Hid; simp [List.getD, hatx.out]
        have hoK : Hid (outOK el gone C o = (inL lf x && !decide (x = e0))) := by unfold Hid outOK; rw [hx0.out, hol1.out, hel.out, Hlf.out, inL_others]; simp
        cases hin : inL lf x with
        | false =>
          have hbad : Hid (runoffL el outs C = none) := run_bad hol.out hXm hat.out (by rw [Hgd.out, hoK.out, hin]; rfl)
          have hIn : ∀ q, Calls Try.prog 34 #[.slice A4l nl c4l, .int .i64 x] (More w3 q) fun e w' => e = .returned (.bool false) ∧ More w3 q = w' := fun q => in41_val _ _ _ _ _ _ (hLr.more q) hin
          clear hin
          go_upto_region 8 with fail
          refine wp_region_more (by kernel_rfl) (by kernel_rfl) ?_
          repeat (go_big_quiet_step ((go_at_call 34; with_reducible exact more_same (hIn _))))
          refine wpQuiet_nil ?_
          rintro w2 ⟨qw2, hww2⟩
          have hbw2 := below_of_eq hww2
          clear hww2 qw2
          go_wp2
          go_ret2
          exact rret_none hbad.out (Below_trans' hb03 hb03.size hbw2)
        | true =>
          have hIn : ∀ q, Calls Try.prog 34 #[.slice A4l nl c4l, .int .i64 x] (More w3 q) fun e w' => e = .returned (.bool true) ∧ More w3 q = w' := fun q => in41_val _ _ _ _ _ _ (hLr.more q) hin
          have Hin := hide hin
          clear hin
          by_cases hxe : x = e0
          · have hbad : Hid (runoffL el outs C = none) := run_bad hol.out hXm hat.out (by rw [Hgd.out, hoK.out, hxe]; simp)
            have bxe : (x == e0) = true := by simp [hxe]
            clear hxe
            go_upto_region 8 with fail
            refine wp_region_more (by kernel_rfl) (by kernel_rfl) ?_
            repeat (go_big_quiet_step ((go_at_call 34; with_reducible exact more_same (hIn _))))
            refine wpQuiet_nil ?_
            rintro w2 ⟨qw2, hww2⟩
            have hbw2 := below_of_eq hww2
            clear hww2 qw2
            go_wp2
            go_ret2
            exact rret_none hbad.out (Below_trans' hb03 hb03.size hbw2)
          · have hgood : Hid (outOK el gone C o = true) := by unfold Hid; rw [hoK.out, Hin.out]; simp [hxe]
            have bxe : (x == e0) = false := by simp [hxe]
            clear hxe
            go_upto_region 8 with fail
            refine wp_region_more (by kernel_rfl) (by kernel_rfl) ?_
            repeat (go_big_quiet_step ((go_at_call 34; with_reducible exact more_same (hIn _))))
            refine wpQuiet_nil ?_
            rintro w2 ⟨qw2, hww2⟩
            have hbw2 := below_of_eq hww2
            clear hww2 qw2
            have hb2 := Below_trans' hb1 hb1.size hbw2
            have hR2 := hide (hR3.out.later hbw2)
            have hL2 := hL3.below hbw2
            have hr3 := hide (fun (q : Int) (hq : q ∈ lf) => by rw [Hlf.out] at hq; have h2 := (mem_othersL.1 hq).1; exact (show -9223372036854775808 ≤ q ∧ q ≤ 9223372036854775807 by omega))
            have hm40 : X * C ≤ 40 * 10 := Nat.mul_le_mul (by omega) hC
            clear hcx hIn bxe p0 hce3 hL3 hLr hbw2
            go_wp2
            go_loopw [6, 11] (fun v i wr => ∃ Y : Nat, Y ≤ nl ∧ i = .int .i64 Y ∧ Hid (RunAt w W0.heap.size (asnRO C (outs.take X) [] ++ outT gone C x Y) gone v (.slice Ag X cg) wr) ∧ Own wr wo.heap.size (.slice A4l nl c4l) lf ∧ Hid (∀ b, v.ownBlock = some b → (Value.slice A4l nl c4l).ownBlock ≠ some b) ∧ Below W0.heap.size W0 wr) (fun _ i _ => nl - (intOf i).toNat)
            case atStart => exact ⟨0, Nat.zero_le _, rfl, by unfold Hid; rw [outT_zero, List.append_nil]; exact hR2.out, hL2, hap3, hb2⟩
            case round =>
              obtain ⟨Y, hY, rfl, hRi, hLi, hapi, hbi⟩ := hrel
              obtain ⟨wi, rfl⟩ : ∃ wi : World, wi = wr := ⟨_, rfl⟩
              have hcx := keep_cell hbi hcx0
              by_cases hYn : Y < nl
              · have hLr := hLi.ints hr3.out
                have hLr' : RInts wi A4l nl c4l lf := hlen.out ▸ hLr
                obtain ⟨bl, ol, y, e1, hcy, _, haty, hy64⟩ := hLr'.step hYn
                have haty' : Hid ((othersL gone C)[Y]? = some y) := by unfold Hid; rw [← Hlf.out]; exact haty.out
                subst e1
                cases hyx : (y != x) with
                | true =>
                  have hnx := hide (outT_succ_ne haty'.out hyx)
                  go_upto_region 13 with fail
                  refine wp_region_more (by kernel_rfl) (by kernel_rfl) ?_
                  repeat (go_big_quiet_step (fail))
                  refine wpQuiet_nil ?_
                  rintro w6 ⟨qw6, hww6⟩
                  have hbw6 := below_of_eq hww6
                  clear hww6 qw6
                  have hcx6 := keep_cell hbw6 hcx
                  have hcy6 := keep_cell hbw6 hcy
                  have hb6 := Below_trans' hbi hbi.size hbw6
                  have hR6 := hRi.out.later hbw6
                  have hL6 := hLi.below hbw6
                  have hG6 := hR6.own.ints (fun q hq => by have := hrg.out q hq; omega)
                  have hG6' : RInts w6 Ag X cg gone := Hgl.out ▸ hG6
                  clear hcx hcy hLr hLr' hG6
                  go_upto_region 14 with fail
                  refine wp_region_flowz [0, 1, 2, 3, 4, 5, 6, 7, 8, 9] [0, 1, 2, 3, 4, 5, 6, 7, 8, 9, 11] (fun w' => ∃ q, w' = More w6 q) (by kernel_rfl) (by kernel_rfl) (below_more ((Below.refl w6.heap.size w6).drew)) ?_
                  simp only [pickOps, List.getElem?_cons_zero, List.getElem?_cons_succ]
                  repeat (go_big_quiet_step (fail))
                  refine wpQuiet_nil ?_
                  clear hcx6 hcy6
                  have hdr : Below w6.heap.size w6 w6.drew := (Below.refl _ _).drew
                  refine flow_one 10 (by kernel_rfl) rfl ?_
                  go_wp2_with fail
                  refine (left41_any Ag X cg gone C hC w6.drew (hG6'.below hdr)).mono ?_
                  rintro e w5 ⟨v5, rfl, hL5, hb5⟩
                  have hb65 : Below w6.heap.size w6 w5 := Below_trans' hdr (Nat.le_refl _) hb5
                  have hb05 := Below_trans' hb6 hb6.size hb65
                  obtain ⟨A5, c5, rfl⟩ := hL5.slice
                  rw [← Hlf.out] at hL5 ⊢
                  go_wp2
                  refine FlowPost.mk ⟨below_more hb65, ?_⟩
                  refine flow_pure [11] (by kernel_rfl) (below_more hb65) ?_
                  simp only [pickOps, List.getElem?_cons_zero, List.getElem?_cons_succ]
                  repeat (go_big_quiet_step (fail))
                  refine wpQuiet_nil ?_
                  refine flow_one 12 (by kernel_rfl) rfl ?_
                  go_wp2
                  refine FlowPost.mk ⟨below_more (hb65.alloc hb65.size _), ?_⟩
                  refine flow_rest [13, 14] (by kernel_rfl) ?_
                  simp only [pickOps, List.getElem?_cons_zero, List.getElem?_cons_succ]
                  have hR5 := hR6.later hb65
                  have hL65 := hL6.below hb65
                  have hL5r := hL5.ints hr3.out
                  have hvl : ∀ b, u6.ownBlock = some b → b < w6.heap.size := fun b hb => by obtain ⟨⟨fp, ho, _⟩, _⟩ := hR6; exact (ho.lt hb).2
                  have hgl : ∀ b, (Value.slice Ag X cg).ownBlock = some b → b < w6.heap.size := fun b hb => (hR6.own.own_lt hb).2
                  have hds : w6.drew.heap.size = w6.heap.size := rfl
                  obtain ⟨v', W', hrun, hR', hF, hnew⟩ := hR5.app (k := 4) (x := y) (y := x) hL5r
                    (fun b hb hf => by have := (hL5.own_lt (own_fpS hL5 hf)).1; have := hvl b hb; omega)
                    (fun b hb hf => by have := (hL5.own_lt (own_fpS hL5 hf)).1; have := hgl b hb; omega)
                    (by rw [List.length_append]; have h1 := hal.out; have h2 := htl.out; have h3 := outT_len gone C x Y; have h4 : (outs.take X).length * C ≤ X * C := Nat.mul_le_mul_right _ h2; omega)
                    hb05.size hW0.out 35
                  have hL' := hL65.frame hF (fun b hlb hvb => hapi.out b hvb hlb)
                  have hap' : Hid (∀ b, v'.ownBlock = some b → (Value.slice (some ⟨bl, ol, none⟩) nl c4l).ownBlock ≠ some b) := fun b hb hlb => by
                    rcases hnew b hb with h1 | h1
                    · exact hapi.out b h1 hlb
                    · have := (hL65.own_lt hlb).2; omega
                  have hb' : Below W0.heap.size W0 W' := Frame'.below hb05 hF (fun b hvb => by obtain ⟨⟨fp, ho, _⟩, _⟩ := hR6; exact (ho.lt hvb).1) hb05.size
                  have HR' := hide hR'
                  clear hR' hR5 hL5r hL5 hvl hgl hF hnew hL65 hR6 hL6
                  rw [hlen.out] at hrun ⊢
                  go_wp2_with (at_builtin; refine list_app rfl rfl rfl rfl hrun ?_)
                  go_roundw
                  case rel => exact ⟨Y + 1, by omega, by go_num, by unfold Hid; rw [hnx.out, ← List.append_assoc, ← Hlf.out]; exact HR'.out, hL', hap', hb'⟩
                  case measure => simp [intOf] <;> omega
                | false =>
                  have hnx := hide (outT_succ_eq haty'.out hyx)
                  go_upto_region 13 with fail
                  refine wp_region_more (by kernel_rfl) (by kernel_rfl) ?_
                  repeat (go_big_quiet_step (fail))
                  refine wpQuiet_nil ?_
                  rintro w6 ⟨qw6, hww6⟩
                  have hbw6 := below_of_eq hww6
                  clear hww6 qw6
                  have hb6 := Below_trans' hbi hbi.size hbw6
                  have hR6 := hide (hRi.out.later hbw6)
                  have hL6 := hLi.below hbw6
                  clear hLr hLr'
                  go_wp2
                  go_roundw
                  case rel => exact ⟨Y + 1, by omega, by go_num, by unfold Hid; rw [hnx.out]; exact hR6.out, hL6, hapi, hb6⟩
                  case measure => simp [intOf] <;> omega
              · obtain rfl : nl = Y := by omega
                have hall := hide (outT_all (x := x) (show (othersL gone C).length ≤ nl by rw [← Hlf.out, hlen.out]; exact Nat.le_refl _))
                have hx6 : I64 x := hx64
                obtain ⟨g', W', hrun, hR', hF⟩ := hRi.out.gone x hx6 (by have := Hgl.out; omega) hbi.size hW0.out 22
                have hb' : Below W0.heap.size W0 W' := Frame'.below hbi hF (fun b hgb => (hRi.out.own.own_lt hgb).1) hbi.size
                have HR' := hide hR'
                have hok' : Hid (okRO el C (outs.take (X + 1)) [] = true) := by
                  unfold Hid
                  rw [List.take_add_one, hat.out]
                  show okRO el C (outs.take X ++ [o]) [] = true
                  rw [okRO_snoc, hok.out, List.nil_append, Hgd.out, hgood.out]; rfl
                have has' : Hid (asnRO C (outs.take (X + 1)) [] = asnRO C (outs.take X) [] ++ outT gone C x C) := by
                  unfold Hid
                  rw [List.take_add_one, hat.out]
                  show asnRO C (outs.take X ++ [o]) [] = _
                  rw [asnRO_snoc, List.nil_append, Hgd.out, hx0.out]
                have hgs' : Hid (goneRO (outs.take (X + 1)) = gone ++ [x]) := by
                  unfold Hid
                  rw [List.take_add_one, hat.out]
                  show goneRO (outs.take X ++ [o]) = _
                  rw [goneRO_snoc, Hgd.out, hx0.out]
                clear hR' hF hRi hLi hapi
                go_wp2_with (at_builtin; refine list_app rfl rfl rfl rfl hrun ?_)
                go_roundw
                case rel => exact ⟨X + 1, by omega, by go_num, hok', by unfold Hid; rw [has'.out, hgs'.out, ← hall.out]; exact HR'.out, hb'⟩
                case measure => simp [intOf] <;> omega
      · have hno1 : ((no : Int) != 1) = true := by simp; omega
        have hbad : Hid (runoffL el outs C = none) := run_bad hol.out hXm hat.out (by rw [Hgd.out]; unfold outOK; rw [hO3.len]; simp [hno])
        clear hno
        go_upto_region 8 with fail
        refine wp_region_more (by kernel_rfl) (by kernel_rfl) ?_
        repeat (go_big_quiet_step (fail))
        refine wpQuiet_nil ?_
        rintro w2 ⟨qw2, hww2⟩
        have hbw2 := below_of_eq hww2
        clear hww2 qw2
        go_wp2
        go_ret2
        exact rret_none hbad.out (Below_trans' hb03 hb03.size hbw2)
    · have bX : ¬ (X : Int) + 1 < (nr : Int) := by omega
      have hval : Hid (runoffL el outs C = if nr = 0 then none else some (asnRO C (outs.take X) [] ++ if 1 < (othersL gone C).length then [(5, e0, 0, othersL gone C)] else [])) := by
        unfold Hid runoffL
        by_cases h0 : nr = 0
        · rw [if_pos h0, if_pos (.inl (List.eq_nil_of_length_eq_zero (by rw [hol.out]; exact h0)))]
        · have hm : outs.dropLast = outs.take X := by rw [List.dropLast_eq_take, hol.out]; congr 1; omega
          have hne' : outs ≠ [] := fun e => by have := hol.out; rw [e] at this; simp at this; omega
          rw [if_neg h0, hm, hel.out, Hgd.out, if_neg (fun h => h.elim hne' (fun h => by rw [hok.out] at h; cases h))]
      go_wp2_with fail
      refine (left41_any Ag X cg gone C hC wo hG).mono ?_
      rintro e w4 ⟨v4, rfl, hL4, hb4⟩
      have hR4 := hide (hR.out.later hb4)
      obtain ⟨A4l, c4l, rfl⟩ := hL4.slice
      have hap4 : Hid (∀ b, u6.ownBlock = some b → ¬ fpS A4l (othersL gone C).length b) := fun b hb1 hf => by
        obtain ⟨⟨fp, ho, _⟩, _⟩ := hR.out
        have := (ho.lt hb1).2; have := (hL4.own_lt (own_fpS hL4 hf)).1; omega
      have hgp4 : Hid (∀ b, (Value.slice Ag X cg).ownBlock = some b → ¬ fpS A4l (othersL gone C).length b) := fun b hb1 hf => by
        have := (hR.out.own.own_lt hb1).2; have := (hL4.own_lt (own_fpS hL4 hf)).1; omega
      have hLr := hL4.ints (fun q hq => by have h2 := (mem_othersL.1 hq).1; omega)
      have hfin := hR4.out.below
      have hb14 := Below_trans' hbr hbr.size hb4
      have hP4 := hPo.below hb4 hPo.lt
      have hc1 := keep_cell hb14 hce
      clear p0 p1 hL4
      have p0 := hP4.cell 0
      have p1 := hP4.cell 1
      have hbool : Hid ((runoffL el outs C).isSome = decide (0 < nr)) := by
        unfold Hid; rw [hval.out]
        by_cases h0 : nr = 0
        · rw [if_pos h0]; simp [h0]
        · rw [if_neg h0]; simp; omega
      by_cases h1 : 1 < (othersL gone C).length
      · have hv1 : Hid (∀ x, runoffL el outs C = some x → x = asnRO C (outs.take X) [] ++ [(5, e0, 0, othersL gone C)]) := fun x hx => by
          rw [hval.out, if_pos h1] at hx
          split at hx
          · cases hx
          · exact (Option.some.inj hx).symm
        obtain ⟨v', W', hrun, hR', hF, hnew⟩ := hR4.out.app (k := 5) (x := e0) (y := 0) hLr hap4.out hgp4.out
          (by have h1 := hal.out; have h2 := htl.out; have h4 : (outs.take X).length * C ≤ X * C := Nat.mul_le_mul_right _ h2; have h5 : X * C ≤ 40 * 10 := Nat.mul_le_mul (by omega) hC; omega)
          hb14.size hW0.out 35
        have hPW : Has W' w.heap.size 41 #[.slice (some ⟨be, oe, none⟩) ne ce, .slice Ar nr cr, .slice vt nt ct] := hF.has hP4 (fun e => by
          obtain ⟨⟨fp, ho, _⟩, _⟩ := hR4.out
          have := (ho.lt e).1; have := hP.lt; omega)
        have HR' := hide hR'
        clear hR' hF hnew hLr hval
        generalize hnl : (othersL gone C).length = nl at *
        have h1' : (2 : Int) ≤ (nl : Int) := by omega
        have p1' := hPW.cell 1
        go_upto_region 19 with (at_builtin; refine list_app rfl rfl rfl rfl hrun ?_)
        clear p0 p1
        refine wp_region_more (by kernel_rfl) (by kernel_rfl) ?_
        repeat (go_big_quiet_step (fail))
        refine wpQuiet_nil ?_
        rintro w9 ⟨qw9, hww9⟩
        have hbw9 := below_of_eq hww9
        clear hww9 qw9
        go_wp2
        refine bodyPost_end (results_tmp2 rfl _ _ _) rfl ?_
        obtain ⟨⟨fp, ho, _⟩, _, _, hbW⟩ := HR'.out
        exact ⟨⟨v', by rw [hbool.out]; rfl, fun x hx => ⟨fp, by rw [hv1.out x hx]; exact (ho.below hbw9).mono hW0.out⟩⟩, Below_trans' hbW hbW.size hbw9⟩
      · have hv1 : Hid (∀ x, runoffL el outs C = some x → x = asnRO C (outs.take X) []) := fun x hx => by
          rw [hval.out, if_neg h1, List.append_nil] at hx
          split at hx
          · cases hx
          · exact (Option.some.inj hx).symm
        clear hLr hval
        generalize hnl : (othersL gone C).length = nl at *
        have h1' : ¬ (2 : Int) ≤ (nl : Int) := by omega
        go_upto_region 19 with fail
        refine wp_region_more (by kernel_rfl) (by kernel_rfl) ?_
        repeat (go_big_quiet_step (fail))
        refine wpQuiet_nil ?_
        rintro w9 ⟨qw9, hww9⟩
        have hbw9 := below_of_eq hww9
        clear hww9 qw9
        go_wp2
        refine bodyPost_end (results_tmp2 rfl _ _ _) rfl ?_
        obtain ⟨⟨fp, ho, _⟩, _, _, hbW⟩ := hR4.out
        exact ⟨⟨_, by rw [hbool.out]; rfl, fun x hx => ⟨fp, by rw [hv1.out x hx]; exact (ho.below hbw9).mono hW0.out⟩⟩, Below_trans' hbW hbW.size hbw9⟩
end Go.Proofs.Ytkmcgpaoekphmaa
