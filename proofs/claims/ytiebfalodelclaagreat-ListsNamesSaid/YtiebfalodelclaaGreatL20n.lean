/-
  The law ListsNames.
-/
import Derived.Test.YtiebfalodelclaaGreatW11r
import Derived.Test.YtiebfalodelclaaGreatW9o
import Derived.Test.YtiebfalodelclaaGreatW20e
import Derived.Deep.CutRange
namespace Go.Proofs.YtiebfalodelclaaGreat
open Go.RowKit Go.Proofs Go.Shelf
attribute [local go_sem] cell?_more cell?_alloc_some cell?_setCell_far frozen?_alloc_some frozen?_more
theorem listO_ok {l : List Row} {C : Nat} {lot : List Int} {rule : Int} (hm : MarkOK l C) (hlot : lotS lot C = true) {n : Nat} (hn : n ≤ 100) : OkO C (listO rule l C lot n) := by
  have hl := LotAll.of hlot
  have hr := seatS_rng (had := votV l C) hm.c1 hl rule n
  have hln := seatS_len hm.c1 hl (hadOK_vot C hm.pos) rule n
  have hts := seatS_ties (votV l C) C lot rule n
  have hto := seatS_tieOK (had := votV l C) hm.c1 hl rule n
  unfold listO
  refine ⟨hr, by dsimp only; omega, fun r hr' => ?_, by simp, fun t ht => ?_, by dsimp only; omega⟩
  · rw [List.mem_singleton.1 hr']
    exact ⟨by simp [rndS, length_votV], hr, by simp only [rndS]; omega, fun y hy => by simp [rndS] at hy, by simp [rndS]⟩
  · have := hto t ht
    exact ⟨this.1, by have := hm.c10; omega, this.2.2⟩

set_option maxRecDepth 100000 in
set_option maxHeartbeats 4000000 in
theorem listsNames_any (rule c k : Int) (A : Option Addr) (n cp : Nat) (l : List Row) (nn : Int) (At : Option Addr) (nt ct : Nat) (lot : List Int) (Ap : Option Addr) (np cpp : Nat) (perm : List Int) (w : World) (h : RRows w A n cp l) (h' : RInts w At nt ct lot) (hp : RInts w Ap np cpp perm) :
    Calls Tryz.prog 5 #[.int .i64 rule, .agg #[.int .i64 c, .int .u8 k, .slice A n cp], .int .i64 nn, .slice At nt ct, .slice Ap np cpp] w fun e w' => e = .returned (.bool true) ∧ Below w.heap.size w w' := by
  have hb : Below w.heap.size w (w.alloc (.cells #[.int .i64 c, .int .u8 k, .slice A n cp] 24)) := below_allocN
  have hP := Has.new w 24 #[.int .i64 c, .int .u8 k, .slice A n cp]
  generalize hW : World.alloc w _ = W0 at hb hP
  have p0 := hP.cell 0
  have p1 := hP.cell 1
  have p2 := hP.cell 2
  go_enter Tryz.func5, Tryz.ntmps5
  go_wp2_with fail
  try simp only [hW]
  clear hW
  refine (valid20_any c k A n cp l nn At nt ct lot W0 (h.below hb) (h'.below hb)).mono ?_
  rintro e z0 ⟨rfl, hbz0⟩
  have hbw0 := Below_trans' hb hb.size hbz0
  replace hP := hP.below hbz0 hP.lt
  clear p0 p1 p2 hb hbz0
  by_cases hE : mayS c k l 2 nn 10 lot = 0
  · have e1 : (mayS c k l 2 nn 10 lot == 0) = true := by simp [hE]
    obtain ⟨hc0, hk0, hs1, hs2, hs3, hlot⟩ := may_zero hE
    subst hk0
    have hmk := markOK_of hc0
    have hc1 := (check_iff.1 hc0).2.1
    obtain ⟨C, rfl⟩ : ∃ C : Nat, c = (C : Int) := ⟨c.toNat, by omega⟩
    obtain ⟨S, rfl⟩ : ∃ S : Nat, nn = (S : Int) := ⟨nn.toNat, by omega⟩
    rw [Int.toNat_natCast] at hmk
    have Hmk := hide hmk
    have hC10 := hmk.c10
    have hC1 := hmk.c1
    have hnt : nt = C := by have h1 := lot_len hlot; have h2 := h'.len; omega
    subst hnt
    have hvb := votV_bd hmk
    have Hvb := hide hvb
    have Hla := hide (LotAll.of hlot)
    have Hlot := hide hlot
    have hrun : Hid (∀ r, listR r nt 2 l S lot = listO r l nt lot S) := fun r => by rw [listR_ok hE, Int.toNat_natCast, Int.toNat_natCast]
    have hmay := hide hE
    have Hc0 := hide hc0
    clear hE hc0 hmk hvb hc1 hlot
    have p0 := hP.cell 0
    go_wp2_with fail
    refine (rlot_any Ap np cpp perm nt z0 (hp.below hbw0)).mono ?_
    rintro e w' ⟨rfl, rfl⟩
    clear p0
    cases hpl : lotS perm nt with
    | false =>
      go_wp2_with fail
      refine (wakes20_any _).mono ?_
      rintro e w9 ⟨rfl, hb9⟩
      go_wp2
      go_ret
      exact ⟨rfl, Below_trans' hbw0 (hbw0).size hb9⟩
    | true =>
      have hnpl := lot_len hpl
      have hnp : np = nt := by have := hp.len; omega
      subst hnp
      have htp : turnedS perm = true := by unfold lotS at hpl; rw [Bool.and_eq_true] at hpl; exact hpl.2
      have HN := hide (names_of htp hnpl)
      have Htp := hide htp
      have hlen := h'.len
      have Hll := hide hlen
      have Hlr := hide (lot_in_range Hlot.out)
      have hc2 : checkS np 2 (renK perm l) = 0 := ren_check HN.out Hc0.out
      have hlot2 := lot_ren HN.out Hlot.out
      have hm2 : mayS np 2 (renK perm l) 2 S 10 (lot.map (nameS perm)) = 0 := may_ok hc2 rfl (fun hh => by rcases hh with h | h | h | h; omega; omega; omega; rw [hlot2] at h; cases h)
      obtain ⟨o, ho⟩ : ∃ o, o = listO rule l np lot S := ⟨_, rfl⟩
      obtain ⟨o2, ho2⟩ : ∃ o2, o2 = listO rule (renK perm l) np (lot.map (nameS perm)) S := ⟨_, rfl⟩
      have hrun1 : Hid (listR rule np 2 l S lot = o) := by unfold Hid; rw [hrun.out, ho]
      have hrun2 : Hid (listR rule np 2 (renK perm l) S (lot.map (nameS perm)) = o2) := by unfold Hid; rw [listR_ok hm2, Int.toNat_natCast, Int.toNat_natCast, ho2]
      have hmay2 := hide hm2
      have hck : Hid (OkO np o) := by unfold Hid; rw [ho]; exact listO_ok Hmk.out Hlot.out (by omega)
      have hmk2 : MarkOK (renK perm l) np := by have := markOK_of hc2; rwa [Int.toNat_natCast] at this
      have hck2 : Hid (OkO np o2) := by unfold Hid; rw [ho2]; exact listO_ok hmk2 hlot2 (by omega)
      have hRen : Hid (rule = 0 ∨ rule = 1 → o2 = renO perm o) := fun hr => by rw [ho, ho2]; exact listO_names hr HN.out Hc0.out Hlot.out S
      have hRem : Hid (rule ≠ 0 → rule ≠ 1 → gotV o2.1 np = gotV (renO perm o).1 np ∧ o2.2.2 = (renO perm o).2.2) := fun h0 h1 => by rw [ho, ho2]; exact listO_rem h0 h1 HN.out Hc0.out Hlot.out S
      clear ho ho2 hpl hnpl htp hlen hc2 hlot2 hm2 hmk2 hrun
      have p0 := hP.cell 0
      have p1 := hP.cell 1
      have p2 := hP.cell 2
      go_wp2_with fail
      refine (prename_any np 2 A n cp l Ap np cpp perm z0 (h.below hbw0) (hp.below hbw0) Hc0.out Htp.out rfl).mono ?_
      rintro e z1 ⟨Aq, nq, cq, rfl, hQ, hbz1⟩
      have hQr := hQ.rows
      dsimp only at hQr ⊢
      clear p0 p1 p2 hQ
      go_upto_region 4 with fail
      have hbz2 : Below z1.heap.size z1 (z1.alloc (.cells #[.int .i64 np, .int .u8 2, .slice Aq nq cq] 24)) := below_allocN
      have hX := Has.new z1 24 #[.int .i64 np, .int .u8 2, .slice Aq nq cq]
      generalize World.alloc z1 _ = z2 at hbz2 hX ⊢
      have hb02 := Below_trans' hbz1 hbz1.size hbz2
      have hbw2 := Below_trans' hbw0 hbw0.size hb02
      have hP2 := hP.below hb02 hP.lt
      replace hQr := hQr.below hbz2
      have p0 := hP2.cell 0
      have p1 := hP2.cell 1
      have p2 := hP2.cell 2
      go_wp2_with fail
      refine (count20_any rule np 2 A n cp l S At np ct lot z2 (h.below hbw2) (h'.below hbw2) (by omega)).mono ?_
      rintro e z3 ⟨Ae, ne, ce, Ar, nr, cr, Av, nv, cv, rfl, hO, hbz3⟩
      rw [hrun1.out] at hO
      rw [hmay.out]
      clear p0 p1 p2
      go_upto_region 5 with fail
      have hbz4 : Below z3.heap.size z3 (z3.alloc (.cells #[.slice Ae ne ce, .slice Ar nr cr, .slice Av nv cv] 32)) := below_allocN
      have hY := Has.new z3 32 #[.slice Ae ne ce, .slice Ar nr cr, .slice Av nv cv]
      generalize World.alloc z3 _ = wr at hbz4 hY ⊢
      have hb24 := Below_trans' hbz3 hbz3.size hbz4
      have hbwr := Below_trans' hbw2 hbw2.size hb24
      have hOr := hO.below hbz4
      have hXr := hX.below hb24 hX.lt
      have hLr := h'.below hbwr
      have hPr := hp.below hbwr
      replace hQr := hQr.below hb24
      have x0 := hXr.cell 0
      have x1 := hXr.cell 1
      have x2 := hXr.cell 2
      have hP2r := hP2.below hb24 hP2.lt
      clear hO hX hP hP2
      go_cut [15, 16] from 45 to 54 (fun u v wx => ∃ (g : Nat) (Be : Option Addr) (me de : Nat) (Br : Option Addr) (mr dr : Nat) (Bv : Option Addr) (mv dv : Nat), u = .pointer (some ⟨g, 0, none⟩) ∧ v = .int .i64 0 ∧ Has wx g 32 #[.slice Be me de, .slice Br mr dr, .slice Bv mv dv] ∧ ROut wx Be me de Br mr dr Bv mv dv o2 ∧ Below wr.heap.size wr wx)
      case first =>
        refine wp_region_flowz [0, 1, 2, 3, 4] [0, 1, 2, 3, 4, 7, 8, 9] (fun w' => ∃ q, w' = More wr q) (by kernel_rfl) (by kernel_rfl) (below_more ((Below.refl wr.heap.size wr).drew)) ?_
        simp only [pickOps, List.getElem?_cons_zero, List.getElem?_cons_succ]
        repeat (go_big_quiet_step (fail))
        refine wpQuiet_nil ?_
        have hdr : Below wr.heap.size wr wr.drew := (Below.refl _ _).drew
        clear x0 x1 x2
        refine flow_two 5 10 (by kernel_rfl) rfl rfl ?_ ?_
        · go_wp2_with fail
          refine (pnames_any At np ct lot Ap np cpp perm _ (hLr.below hdr) (hPr.below hdr) Hlr.out (by omega)).mono ?_
          rintro e wa ⟨va, rfl, hOa, hba⟩
          have hbra : Below wr.heap.size wr wa := Below_trans' hdr (hdr).size hba
          obtain ⟨Aa, ca, rfl⟩ := hOa.slice
          have hRa := hOa.ints (fun x hx => by obtain ⟨y, hy, rfl⟩ := List.mem_map.1 hx; have := HN.out.name_in (Hlr.out y hy); omega)
          have hna : (lot.map (nameS perm)).length = np := by rw [List.length_map]; exact Hll.out
          rw [hna] at hRa ⊢
          clear hna hOa
          go_wp2
          refine FlowPost.mk ⟨below_more hbra, ?_⟩
          refine flow_two 6 10 (by kernel_rfl) rfl rfl ?_ ?_
          · go_wp2_with fail
            refine (count20_any rule np 2 Aq nq cq (renK perm l) S Aa np ca (lot.map (nameS perm)) _ (hQr.below hbra) (hRa.below (Below.refl _ _)) (by omega)).mono ?_
            rintro e wc ⟨Be, me, de, Br, mr, dr, Bv, mv, dv, rfl, hO, hbc⟩
            rw [hrun2.out] at hO
            rw [hmay2.out]
            have hbrc : Below wr.heap.size wr wc := Below_trans' hbra (hbra).size hbc
            go_wp2
            refine FlowPost.mk ⟨below_more hbrc, ?_⟩
            refine flow_pure [7, 8, 9] (by kernel_rfl) (below_more hbrc) ?_
            simp only [pickOps, List.getElem?_cons_zero, List.getElem?_cons_succ]
            repeat (go_big_quiet_step (fail))
            refine wpQuiet_nil ?_
            refine flow_one 10 (by kernel_rfl) rfl ?_
            go_wp2
            refine FlowPost.mk ⟨below_more (hbrc.alloc hbrc.size _), ?_⟩
            refine flow_one 11 (by kernel_rfl) rfl ?_
            have hbN : Below wc.heap.size wc (wc.alloc (.cells #[.slice Be me de, .slice Br mr dr, .slice Bv mv dv] 32)) := below_allocN
            have hN := Has.new wc 32 #[.slice Be me de, .slice Br mr dr, .slice Bv mv dv]
            have hON := hO.below hbN
            have hb8 := Below_trans' hbrc hbrc.size hbN
            go_wp2
            generalize World.alloc wc _ = w8 at hN hON hb8 ⊢
            refine FlowPost.mk ⟨below_more hb8, ?_⟩
            refine flow_one 12 (by kernel_rfl) rfl ?_
            go_wp2
            refine FlowPost.mk ⟨below_more hb8, ?_⟩
            refine flow_rest [] (by kernel_rfl) ?_
            simp only [pickOps]
            go_wp2
            go_meet
            exact ⟨wc.heap.size, Be, me, de, Br, mr, dr, Bv, mv, dv, rfl, rfl, hN, hON, hb8⟩
          · have hbz : Below wa.heap.size wa (wa.alloc (.cells #[.slice none 0 0, .slice none 0 0, .slice none 0 0] 32)) := below_allocN
            have hNz := Has.new wa 32 #[.slice none 0 0, .slice none 0 0, .slice none 0 0]
            have hgr := hbra.size
            go_wp2
            generalize World.alloc wa _ = wz at hbz hNz ⊢
            have hbrz := Below_trans' hbra hbra.size hbz
            refine FlowPost.mk ⟨below_more hbrz, ?_⟩
            refine flow_one 6 (by kernel_rfl) rfl ?_
            go_wp2_with fail
            refine (count20_any rule np 2 Aq nq cq (renK perm l) S Aa np ca (lot.map (nameS perm)) _ (hQr.below hbrz) (hRa.below hbz) (by omega)).mono ?_
            rintro e wc ⟨Be, me, de, Br, mr, dr, Bv, mv, dv, rfl, hO, hbc⟩
            rw [hrun2.out] at hO
            rw [hmay2.out]
            have hbrc : Below wr.heap.size wr wc := Below_trans' hbrz (hbrz).size hbc
            go_wp2
            refine FlowPost.mk ⟨below_more hbrc, ?_⟩
            refine flow_pure [7, 8, 9] (by kernel_rfl) (below_more hbrc) ?_
            simp only [pickOps, List.getElem?_cons_zero, List.getElem?_cons_succ]
            repeat (go_big_quiet_step (fail))
            refine wpQuiet_nil ?_
            have hNc := hNz.below hbc hNz.lt
            refine flow_one 11 (by kernel_rfl) rfl ?_
            have t0 := hNc.cell 0
            have t1 := hNc.cell 1
            have t2 := hNc.cell 2
            have f0 := hNc.free 0
            have f1 := hNc.free 1
            have f2 := hNc.free 2
            have hN := put3 (x' := .slice Be me de) (y' := .slice Br mr dr) (z' := .slice Bv mv dv) hNc
            have hF := frame3 wc wa.heap.size (.slice Be me de) (.slice Br mr dr) (.slice Bv mv dv)
            have hON := hO.far hNc (fun b hb hne => hF.block b hb hne)
            have hb8 := Frame'.below hbrc hF (fun b e => by have e : b = wa.heap.size := e; omega) hbrc.size
            go_wp2
            generalize World.setCell (World.setCell (World.setCell wc _ _) _ _) _ _ = w8 at hN hON hb8 ⊢
            refine FlowPost.mk ⟨below_more hb8, ?_⟩
            refine flow_one 12 (by kernel_rfl) rfl ?_
            go_wp2
            refine FlowPost.mk ⟨below_more hb8, ?_⟩
            refine flow_rest [] (by kernel_rfl) ?_
            simp only [pickOps]
            go_wp2
            go_meet
            exact ⟨wa.heap.size, Be, me, de, Br, mr, dr, Bv, mv, dv, rfl, rfl, hN, hON, hb8⟩
        · have hbz : Below wr.heap.size wr (wr.alloc (.cells #[.slice none 0 0, .slice none 0 0, .slice none 0 0] 32)).drew := ((Below.refl _ _).alloc (Nat.le_refl _) _).drew
          have hNz : Has (wr.alloc (.cells #[.slice none 0 0, .slice none 0 0, .slice none 0 0] 32)).drew wr.heap.size 32 #[.slice none 0 0, .slice none 0 0, .slice none 0 0] := (Has.new wr 32 #[.slice none 0 0, .slice none 0 0, .slice none 0 0]).drew
          go_wp2
          generalize World.drew _ = wz at hbz hNz ⊢
          refine FlowPost.mk ⟨below_more hbz, ?_⟩
          have hgr := Nat.le_refl wr.heap.size
          refine flow_one 5 (by kernel_rfl) rfl ?_
          go_wp2_with fail
          refine (pnames_any At np ct lot Ap np cpp perm _ (hLr.below hbz) (hPr.below hbz) Hlr.out (by omega)).mono ?_
          rintro e wa ⟨va, rfl, hOa, hba⟩
          have hbra : Below wr.heap.size wr wa := Below_trans' hbz (hbz).size hba
          obtain ⟨Aa, ca, rfl⟩ := hOa.slice
          have hRa := hOa.ints (fun x hx => by obtain ⟨y, hy, rfl⟩ := List.mem_map.1 hx; have := HN.out.name_in (Hlr.out y hy); omega)
          have hna : (lot.map (nameS perm)).length = np := by rw [List.length_map]; exact Hll.out
          rw [hna] at hRa ⊢
          clear hna hOa
          go_wp2
          refine FlowPost.mk ⟨below_more hbra, ?_⟩
          have hNa := hNz.below hba hNz.lt
          refine flow_one 6 (by kernel_rfl) rfl ?_
          go_wp2_with fail
          refine (count20_any rule np 2 Aq nq cq (renK perm l) S Aa np ca (lot.map (nameS perm)) _ (hQr.below hbra) (hRa.below (Below.refl _ _)) (by omega)).mono ?_
          rintro e wc ⟨Be, me, de, Br, mr, dr, Bv, mv, dv, rfl, hO, hbc⟩
          rw [hrun2.out] at hO
          rw [hmay2.out]
          have hbrc : Below wr.heap.size wr wc := Below_trans' hbra (hbra).size hbc
          go_wp2
          refine FlowPost.mk ⟨below_more hbrc, ?_⟩
          refine flow_pure [7, 8, 9] (by kernel_rfl) (below_more hbrc) ?_
          simp only [pickOps, List.getElem?_cons_zero, List.getElem?_cons_succ]
          repeat (go_big_quiet_step (fail))
          refine wpQuiet_nil ?_
          have hNc := hNa.below hbc hNa.lt
          refine flow_one 11 (by kernel_rfl) rfl ?_
          have t0 := hNc.cell 0
          have t1 := hNc.cell 1
          have t2 := hNc.cell 2
          have f0 := hNc.free 0
          have f1 := hNc.free 1
          have f2 := hNc.free 2
          have hN := put3 (x' := .slice Be me de) (y' := .slice Br mr dr) (z' := .slice Bv mv dv) hNc
          have hF := frame3 wc wr.heap.size (.slice Be me de) (.slice Br mr dr) (.slice Bv mv dv)
          have hON := hO.far hNc (fun b hb hne => hF.block b hb hne)
          have hb8 := Frame'.below hbrc hF (fun b e => by have e : b = wr.heap.size := e; omega) hbrc.size
          go_wp2
          generalize World.setCell (World.setCell (World.setCell wc _ _) _ _) _ _ = w8 at hN hON hb8 ⊢
          refine FlowPost.mk ⟨below_more hb8, ?_⟩
          refine flow_one 12 (by kernel_rfl) rfl ?_
          go_wp2
          refine FlowPost.mk ⟨below_more hb8, ?_⟩
          refine flow_rest [] (by kernel_rfl) ?_
          simp only [pickOps]
          go_wp2
          go_meet
          exact ⟨wr.heap.size, Be, me, de, Br, mr, dr, Bv, mv, dv, rfl, rfl, hN, hON, hb8⟩
      case rest =>
        obtain ⟨g, Be, me, de, Br, mr, dr, Bv, mv, dv, rfl, rfl, hN, hO2, hbrc⟩ := hcut
        have hYc := hY.below hbrc hY.lt
        have hOc := hOr.below hbrc
        have hPb := hP2r.below hbrc hP2r.lt
        have hPc := hPr.below hbrc
        have hbwc := Below_trans' hbwr hbwr.size hbrc
        clear x0 x1 x2 hY hOr hP2r hXr hQr hPr hLr
        have y0 := hYc.cell 0
        have y1 := hYc.cell 1
        have y2 := hYc.cell 2
        go_upto_region 8 with fail
        go_wp2_with fail
        refine (renamed_any Ae ne ce Ar nr cr Av nv cv o _ np cpp perm wc hOc hPc HN.out hck.out).mono ?_
        rintro e wd ⟨Ce, ke, le, Cr, kr, lr, Cv, kv, lv, rfl, hO3, hbd⟩
        clear y0 y1 y2
        go_upto_region 9 with fail
        have hbe : Below wd.heap.size wd (wd.alloc (.cells #[.slice Ce ke le, .slice Cr kr lr, .slice Cv kv lv] 32)) := below_allocN
        have hZ := Has.new wd 32 #[.slice Ce ke le, .slice Cr kr lr, .slice Cv kv lv]
        generalize World.alloc wd _ = we at hbe hZ ⊢
        replace hO3 := hO3.below hbe
        have hbce := Below_trans' hbd hbd.size hbe
        have hbwe := Below_trans' hbwc hbwc.size hbce
        replace hO2 := hO2.below hbce
        have hNe := hN.below hbce hN.lt
        have hPe := hPb.below hbce hPb.lt
        have x0 := hNe.cell 0
        have x1 := hNe.cell 1
        have x2 := hNe.cell 2
        have y0 := hZ.cell 0
        have y1 := hZ.cell 1
        have y2 := hZ.cell 2
        clear hYc hOc hPb hPc hN hbe hbd hbce hbrc hbwr
        by_cases h0 : rule = 0
        · subst h0
          have hr9 := hRen.out (by omega)
          rw [hr9] at hO2
          go_wp2_with fail
          refine (same_eq Be me de Br mr dr Bv mv dv Ce ke le Cr kr lr Cv kv lv (renO perm o) we hO2 hO3).mono ?_
          rintro e wf ⟨rfl, hbf⟩
          have hbwf := Below_trans' hbwe hbwe.size hbf
          clear x0 x1 x2 y0 y1 y2
          go_wp2_with fail
          refine (wakes20_any _).mono ?_
          rintro e w9 ⟨rfl, hb9⟩
          go_wp2
          go_ret
          exact ⟨rfl, Below_trans' hbwf (hbwf).size hb9⟩
        · by_cases h1 : rule = 1
          · subst h1
            have hr9 := hRen.out (by omega)
            rw [hr9] at hO2
            go_wp2_with fail
            refine (same_eq Be me de Br mr dr Bv mv dv Ce ke le Cr kr lr Cv kv lv (renO perm o) we hO2 hO3).mono ?_
            rintro e wf ⟨rfl, hbf⟩
            have hbwf := Below_trans' hbwe hbwe.size hbf
            clear x0 x1 x2 y0 y1 y2
            go_wp2_with fail
            refine (wakes20_any _).mono ?_
            rintro e w9 ⟨rfl, hb9⟩
            go_wp2
            go_ret
            exact ⟨rfl, Below_trans' hbwf (hbwf).size hb9⟩
          · have e0 : (rule == 0) = false := by rw [beq_eq_false_iff_ne]; exact h0
            have e1 : (rule == 1) = false := by rw [beq_eq_false_iff_ne]; exact h1
            have hrm := hRem.out h0 h1
            have Hrm := hide hrm
            clear hrm h0 h1
            have hel2 := hide hck2.out.el
            have hel3 : Hid (InR np (renO perm o).1) := fun x hx => by
              obtain ⟨y, hy, rfl⟩ := List.mem_map.1 hx
              exact HN.out.name_in (hck.out.el y hy)
            have hme : Hid (me ≤ 1000) := by unfold Hid; have h1 := hO2.1.len; have h2 := hck2.out.eln; omega
            have hke : Hid (ke ≤ 1000) := by unfold Hid; have h1 := hO3.1.len; have h2 := hck.out.eln; have h3 : (renO perm o).1.length = o.1.length := List.length_map _; omega
            have p0 := hPe.cell 0
            go_upto_region 11 with fail
            refine wp_region_flowz [0, 1, 2, 4, 5, 6] [0, 1, 2, 4, 5, 6, 9, 10, 11, 12, 13, 15, 16] (fun w' => ∃ q, w' = More we q) (by kernel_rfl) (by kernel_rfl) (below_more ((Below.refl we.heap.size we).drew)) ?_
            simp only [pickOps, List.getElem?_cons_zero, List.getElem?_cons_succ]
            repeat (go_big_quiet_step (fail))
            refine wpQuiet_nil ?_
            have hdr : Below we.heap.size we we.drew := (Below.refl _ _).drew
            refine flow_one 3 (by kernel_rfl) rfl ?_
            go_wp2_with fail
            refine (seats20_any Be me de Br mr dr Bv mv dv o2.1 np _ (hO2.1.below hdr) hel2.out (by omega) hme.out).mono ?_
            rintro e w3 ⟨va, rfl, hSa, hb3⟩
            obtain ⟨Asa, csa, rfl⟩ := hSa.slice
            rw [length_gotV] at hSa ⊢
            have hb13 : Below we.heap.size we w3 := Below_trans' hdr hdr.size hb3
            go_wp2
            refine FlowPost.mk ⟨below_more hb13, ?_⟩
            refine flow_one 7 (by kernel_rfl) rfl ?_
            go_wp2_with fail
            refine (seats20_any Ce ke le Cr kr lr Cv kv lv (renO perm o).1 np w3 (hO3.1.below hb13) hel3.out (by omega) hke.out).mono ?_
            rintro e w4 ⟨vb, rfl, hSb, hb4⟩
            obtain ⟨Asb, csb, rfl⟩ := hSb.slice
            rw [length_gotV] at hSb ⊢
            have hb14 := Below_trans' hb13 hb13.size hb4
            go_wp2
            refine FlowPost.mk ⟨below_more hb14, ?_⟩
            refine flow_one 8 (by kernel_rfl) rfl ?_
            have hgi : ∀ (el : List Int), el.length ≤ 1000 → ∀ y ∈ gotV el np, -9223372036854775808 ≤ y ∧ y ≤ 9223372036854775807 := fun el hl y hy => by
              obtain ⟨i, _, rfl⟩ := List.mem_map.1 hy
              have := List.count_le_length (a := (i : Int)) (l := el)
              omega
            have hIa := (hSa.below hb4).ints (hgi _ hck2.out.eln)
            rw [Hrm.out.1] at hIa
            have hIb := hSb.ints (hgi _ (by have h3 : (renO perm o).1.length = o.1.length := List.length_map _; have := hck.out.eln; omega))
            go_wp2_with fail
            refine (ints_eq _ _ _ _ _ _ _ w4 hIa hIb).mono ?_
            rintro e w5 ⟨rfl, hb5⟩
            have hb15 := Below_trans' hb14 hb14.size hb5
            go_wp2
            refine FlowPost.mk ⟨below_more hb15, ?_⟩
            refine flow_pure [9, 10, 11, 12, 13] (by kernel_rfl) (below_more hb15) ?_
            simp only [pickOps, List.getElem?_cons_zero, List.getElem?_cons_succ]
            repeat (go_big_quiet_step (fail))
            refine wpQuiet_nil ?_
            refine flow_one 14 (by kernel_rfl) rfl ?_
            have hT2 := hO2.2.2
            rw [Hrm.out.2] at hT2
            go_wp2_with fail
            refine (ties_eq _ _ _ _ _ _ _ w5 (hT2.below below_tie hb15) (hO3.2.2.below below_tie hb15)).mono ?_
            rintro e w6 ⟨rfl, hb6⟩
            have hb16 := Below_trans' hb15 hb15.size hb6
            go_wp2
            refine FlowPost.mk ⟨below_more hb16, ?_⟩
            refine flow_pure [15, 16] (by kernel_rfl) (below_more hb16) ?_
            simp only [pickOps, List.getElem?_cons_zero, List.getElem?_cons_succ]
            repeat (go_big_quiet_step (fail))
            refine wpQuiet_nil ?_
            refine flow_one 17 (by kernel_rfl) rfl ?_
            go_wp2_with fail
            refine (wakes20_any _).mono ?_
            rintro e w7 ⟨rfl, hb7⟩
            have hb17 := Below_trans' hb16 hb16.size hb7
            go_wp2
            refine FlowPost.mk ⟨below_more hb17, ?_⟩
            refine flow_rest [18, 19] (by kernel_rfl) ?_
            simp only [pickOps, List.getElem?_cons_zero, List.getElem?_cons_succ]
            go_wp2
            go_ret
            exact ⟨rfl, Below_trans' hbwe hbwe.size hb17⟩
  · have e1 : (mayS c k l 2 nn 10 lot == 0) = false := by simp [hE]
    clear hE
    go_wp2_with fail
    refine (wakes20_any _).mono ?_
    rintro e w9 ⟨rfl, hb9⟩
    go_wp2
    go_ret
    exact ⟨rfl, Below_trans' hbw0 (hbw0).size hb9⟩
end Go.Proofs.YtiebfalodelclaaGreat
