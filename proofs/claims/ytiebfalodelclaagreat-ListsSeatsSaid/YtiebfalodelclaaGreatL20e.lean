/-
  The law ListsSeats.
-/
import Derived.Test.YtiebfalodelclaaGreatW3e
import Derived.Test.YtiebfalodelclaaGreatW9e
import Derived.Test.YtiebfalodelclaaGreatW20e
import Derived.Deep.CutRange
namespace Go.Proofs.YtiebfalodelclaaGreat
open Go.RowKit Go.Proofs Go.Shelf
attribute [local go_sem] cell?_more cell?_alloc_some cell?_setCell_far frozen?_alloc_some frozen?_more
theorem cntP_tot20 : ∀ l : List Row, cntP anyRow l = totS l
  | [] => rfl
  | a :: r => by
    have := cntP_tot20 r
    unfold cntP totS at *
    simp only [anyRow, if_pos, List.map_cons, List.sum_cons] at *
    try omega
theorem wrds_apart20 {w : World} {g : Nat} {t : TypeId} {x : Bool} {B B' : Option Addr} {m d m' d' : Nat} (hg : Has w g t #[.bool x, .slice B m d, .slice B' m' d']) {A : Option Addr} {n c : Nat} {xs : List Int} (h : RWrds w A n c xs) : ∀ b, fpS A n b → ¬ b = g := by
  rintro b ⟨hn, off, e⟩ rfl
  obtain ⟨b', off', v, e', hc, _⟩ := h.step (k := 0) hn
  rw [e] at e'
  cases e'
  rw [hg.cell] at hc
  match off, hc with
  | 0, hc => simp at hc
  | 1, hc => simp at hc
  | 2, hc => simp at hc
  | (k + 3), hc => simp at hc
set_option maxRecDepth 100000 in
set_option maxHeartbeats 4000000 in
theorem listsSeats_any (rule c k : Int) (A : Option Addr) (n cp : Nat) (l : List Row) (nn : Int) (At : Option Addr) (nt ct : Nat) (lot : List Int) (w : World) (h : RRows w A n cp l) (h' : RInts w At nt ct lot) :
    Calls Tryz.prog 4 #[.int .i64 rule, .agg #[.int .i64 c, .int .u8 k, .slice A n cp], .int .i64 nn, .slice At nt ct] w fun e w' => e = .returned (.bool true) ∧ Below w.heap.size w w' := by
  have hb : Below w.heap.size w (w.alloc (.cells #[.int .i64 c, .int .u8 k, .slice A n cp] 24)) := below_allocN
  have hP := Has.new w 24 #[.int .i64 c, .int .u8 k, .slice A n cp]
  generalize hW : World.alloc w _ = W0 at hb hP
  have p0 := hP.cell 0
  have p1 := hP.cell 1
  have p2 := hP.cell 2
  go_enter Tryz.func4, Tryz.ntmps4
  go_wp2_with fail
  try simp only [hW]
  clear hW
  refine (valid20_any c k A n cp l nn At nt ct lot W0 (h.below hb) (h'.below hb)).mono ?_
  rintro e z0 ⟨rfl, hbz0⟩
  have hbw0 := Below_trans' hb hb.size hbz0
  replace hP := hP.below hbz0 hP.lt
  clear p0 p1 p2 hb hbz0
  by_cases hE : mayS c k l 2 nn 10 lot = 0
  · have e1 : (mayS c k l 2 nn 10 lot == 0) = true := by simp [hE]
    obtain ⟨hc0, hk0, hs1, hs2, hs3, hlot⟩ := may_zero hE
    subst hk0
    have hmk := markOK_of hc0
    have hc1 := (check_iff.1 hc0).2.1
    obtain ⟨C, rfl⟩ : ∃ C : Nat, c = (C : Int) := ⟨c.toNat, by omega⟩
    obtain ⟨S, rfl⟩ : ∃ S : Nat, nn = (S : Int) := ⟨nn.toNat, by omega⟩
    rw [Int.toNat_natCast] at hmk
    have Hmk := hide hmk
    have hC10 := hmk.c10
    have hC1 := hmk.c1
    have hnt : nt = C := by have h1 := lot_len hlot; have h2 := h'.len; omega
    subst hnt
    have hvb := votV_bd hmk
    have Hvb := hide hvb
    have Hla := hide (LotAll.of hlot)
    have Hlot := hide hlot
    have hrun : Hid (∀ r, listR r nt 2 l S lot = listO r l nt lot S) := fun r => by rw [listR_ok hE, Int.toNat_natCast, Int.toNat_natCast]
    have hmay := hide hE
    have Hc0 := hide hc0
    clear hE hc0 hmk hvb hc1 hlot
    -- the count count20_any rule at the world z0, region 4 behind it; leaves w2, hO, hX (the outcome's box), hbw2, hb02
    have p0 := hP.cell 0
    have p1 := hP.cell 1
    have p2 := hP.cell 2
    go_wp2_with fail
    refine (count20_any rule nt 2 A n cp l S At nt ct lot z0 (h.below hbw0) (h'.below hbw0) (by omega)).mono ?_
    rintro e w1 ⟨Ae, ne, ce, Ar, nr, cr, Av, nv, cv, rfl, hO, hb1⟩
    rw [hrun.out] at hO
    rw [hmay.out]
    clear p0 p1 p2
    go_upto_region 4 with fail
    have hb2 : Below w1.heap.size w1 (w1.alloc (.cells #[.slice Ae ne ce, .slice Ar nr cr, .slice Av nv cv] 32)) := below_allocN
    have hX := Has.new w1 32 #[.slice Ae ne ce, .slice Ar nr cr, .slice Av nv cv]
    generalize World.alloc w1 _ = w2 at hb2 hX ⊢
    replace hO := hO.below hb2
    have hb02 := Below_trans' hb1 hb1.size hb2
    have hbw2 := Below_trans' hbw0 hbw0.size hb02
    have hP2 := hP.below hb02 hP.lt
    clear hb1 hb2
    have hel : Hid (InR nt (listO rule l nt lot S).1) := seatS_rng (had := votV l nt) hC1 Hla.out rule S
    have heln : (listO rule l nt lot S).1.length = S := seatS_len (had := votV l nt) hC1 Hla.out (hadOK_vot nt Hmk.out.pos) rule S
    have htsn : (listO rule l nt lot S).2.2.length ≤ S := seatS_ties (votV l nt) nt lot rule S
    obtain rfl : S = ne := by have h1 := hO.1.len; omega
    obtain rfl : 1 = nr := hO.2.1.len
    have hnv := hO.2.2.len
    obtain ⟨bR, oR, vsR, xR, eR, _, hcR, hER, _, hatR⟩ := hO.2.1.step (show 0 < 1 by omega)
    cases eR
    obtain rfl : rndS (votV l nt) (losV l) (listO rule l nt lot S).1 [] = xR := by
      have := hatR.out
      simpa [listO] using this
    obtain ⟨A1, n1, c1, a1, a2, a3, A2, n2, c2, A3, n3, c3, rfl, h5, hL, h7, h9⟩ := hER
    obtain ⟨C1, k1, d1, C2, k2, d2, eq1, g1, g2⟩ := hL
    cases eq1
    dsimp only [rndS, wholeS] at h5 g1 g2 h7 h9
    obtain rfl : nt = n1 := by have := h5.len; rw [List.length_map, length_votV] at this; exact this
    obtain rfl : 0 = n3 := h9.len
    have hOI := hO.1
    have hOT := hO.2.2
    generalize (listO rule l nt lot S).1 = el at hOI h7 hel heln
    have p0 := hP2.cell 0
    have p1 := hP2.cell 1
    have p2 := hP2.cell 2
    have hmany := many_any nt 2 A n cp l w2 (h.below hbw2)
    unfold cntV at hmany
    rw [Hc0.out, if_pos rfl, cntP_tot20] at hmany
    have Heln := hide heln
    clear heln hatR hO
    go_wp2_with fail
    refine hmany.mono ?_
    rintro e w3 ⟨rfl, hb3⟩
    clear hmany p0 p1 p2
    have hbw3 := Below_trans' hbw2 hbw2.size hb3
    have hX3 := hX.below hb3 hX.lt
    have hP3 := hP2.below hb3 hP2.lt
    have x0 := hX3.cell 0
    have x1 := hX3.cell 1
    have x2 := hX3.cell 2
    have p0 := hP3.cell 0
    -- the round's cells at the world w3 (hb3: Below w2 .. w3)
    have r0 := keep_cell hb3 (hcR 0 _ rfl)
    have r1 := keep_cell hb3 (hcR 1 _ rfl)
    have r2 := keep_cell hb3 (hcR 2 _ rfl)
    have r3 := keep_cell hb3 (hcR 3 _ rfl)
    have r4 := keep_cell hb3 (hcR 4 _ rfl)
    have r5 := keep_cell hb3 (hcR 5 _ rfl)
    simp only [Nat.zero_mul, Nat.add_zero] at r0 r1 r2 r3 r4 r5
    dsimp only [rndS, wholeS] at r1
    have d1' : decide ((S : Int) < (nv : Int)) = false := by simp; omega
    have d2' : decide (S < nv) = false := by simp; omega
    have q1 : ∀ q, Calls Tryz.prog 13 #[.slice A2 n2 c2, .slice Ae S ce] (More w3 q) fun e w'' => e = .returned (.bool true) ∧ ∃ q', w'' = More w3 q' := fun q => more_of (ints_eq _ _ _ _ _ _ _ _ ((h7.below hb3).more q) ((hOI.below hb3).more q))
    go_upto_region 5 with fail
    refine wp_region_more (by kernel_rfl) (by kernel_rfl) ?_
    try simp only [List.append]
    repeat (go_big_quiet_step (with_reducible exact q1 _))
    refine wpQuiet_nil ?_
    rintro w5 ⟨q5, hw5⟩
    have hb5 := below_of_eq hw5
    clear hw5 q5 q1 x0 x1 x2 p0 r0 r1 r2 r3 r4 r5
    have hb25 := Below_trans' hb3 hb3.size hb5
    have hbw5 := Below_trans' hbw3 hbw3.size hb5
    have hX5 := hX3.below hb5 hX3.lt
    have hP5 := hP3.below hb5 hP3.lt
    have x1 := hX5.cell 1
    -- the round's cells at the world w5 (hb25: Below w2 .. w5)
    have r0 := keep_cell hb25 (hcR 0 _ rfl)
    have r1 := keep_cell hb25 (hcR 1 _ rfl)
    have r2 := keep_cell hb25 (hcR 2 _ rfl)
    have r3 := keep_cell hb25 (hcR 3 _ rfl)
    have r4 := keep_cell hb25 (hcR 4 _ rfl)
    have r5 := keep_cell hb25 (hcR 5 _ rfl)
    simp only [Nat.zero_mul, Nat.add_zero] at r0 r1 r2 r3 r4 r5
    dsimp only [rndS, wholeS] at r1
    go_upto_region 8 with fail
    have hb6 : Below w5.heap.size w5 (w5.alloc (.cells #[.bool false, .slice C1 k1 d1, .slice C2 k2 d2] 45)) := below_allocN
    have hS6 := Has.new w5 45 #[.bool false, .slice C1 k1 d1, .slice C2 k2 d2]
    generalize World.alloc w5 _ = w6 at hb6 hS6 ⊢
    have hgs : w5.heap.size < w6.heap.size := hS6.lt
    have hG1 := (g1.below hb25).below hb6
    have hG2 := (g2.below hb25).below hb6
    clear x1 r0 r1 r2 r3 r4 r5
    have hsumT := hide (vot_all Hmk.out.one)
    have htot := Hmk.out.tot
    have hall0 := Hvb.out.2.2.2
    have Hbv := hide (fun (k : Nat) => sum_take20 (fun y hy => (Hvb.out.1 y hy).1) k (l := votV l nt))
    obtain ⟨L, hLd⟩ : ∃ L, L = losV l := ⟨_, rfl⟩
    rw [← hLd] at hG1 hall0 hsumT
    have HLd := hide hLd
    clear hLd
    have hX2 := hX
    clear hX hX3 hX5 hP2 hP3 hb3 hb5 hbw2 hbw3 d1' d2' g1 g2 htsn hnv hP hbw0 hb02
    go_wp2
    go_loopw [14] (fun i wr => ∃ (X : Nat) (As : Option Addr) (ns cs : Nat) (Ad : Option Addr) (nd cd : Nat), X ≤ nt ∧ i = .int .i64 X ∧ Has wr w5.heap.size 45 #[.bool false, .slice As ns cs, .slice Ad nd cd] ∧ RWrds wr As ns cs (lm (L + ((votV l nt).take X).sum)) ∧ RWrds wr Ad nd cd [1] ∧ Below w5.heap.size w5 wr) (fun i _ => nt - (intOf i).toNat)
    case atStart => exact ⟨0, C1, k1, d1, C2, k2, d2, Nat.zero_le _, rfl, hS6, by simpa using hG1, hG2, hb6⟩
    case round =>
      clear hS6 hG1 hG2 hb6
      obtain ⟨X, As, ns, cs, Ad, nd, cd, hX, rfl, hS, hs1', hs2', hb⟩ := hrel
      obtain ⟨wo, rfl⟩ : ∃ wo : World, wo = wr := ⟨_, rfl⟩
      have hPo := hP5.below hb hP5.lt
      have p0 := hPo.cell 0
      have hb2o := Below_trans' hb25 hb25.size hb
      have hbwo := Below_trans' hbw5 hbw5.size hb
      have hgo : w5.heap.size < wo.heap.size := hS.lt
      by_cases hXC : X < nt
      · obtain ⟨bH, oH, vsH, xH, eH, _, hcH, hEH, _, hatH⟩ := h5.step hXC
        obtain rfl : xH = wholeS (votX l (X : Int)) := by
          have e := hatH.out
          rw [List.getElem?_map, get_votV l hXC] at e
          exact (Option.some.inj e).symm
        obtain ⟨Aw, nw, cw, Av', nv', cv', rfl, gw1, gw2⟩ := hEH
        dsimp only [wholeS] at gw1 gw2
        have hvx := vot_room Hmk.out l.length (X : Int)
        rw [List.take_length] at hvx
        have hsum := hide (sum_step20 (get_votV l hXC))
        have hsb := Hbv.out X
        have hsb2 := Hbv.out (X + 1)
        have hvs := Hvb.out.2.2.1
        rw [hsum.out] at hsb2
        cases eH
        clear hatH
        have p2 := hPo.cell 2
        have hXo := hX2.below hb2o hX2.lt
        have x1 := hXo.cell 1
        -- the round's cells at the world wo (hb2o: Below w2 .. wo)
        have r0 := keep_cell hb2o (hcR 0 _ rfl)
        have r1 := keep_cell hb2o (hcR 1 _ rfl)
        have r2 := keep_cell hb2o (hcR 2 _ rfl)
        have r3 := keep_cell hb2o (hcR 3 _ rfl)
        have r4 := keep_cell hb2o (hcR 4 _ rfl)
        have r5 := keep_cell hb2o (hcR 5 _ rfl)
        simp only [Nat.zero_mul, Nat.add_zero] at r0 r1 r2 r3 r4 r5
        dsimp only [rndS, wholeS] at r1
        have e0 := keep_cell hb2o (hcH 0 _ rfl)
        have e1 := keep_cell hb2o (hcH 1 _ rfl)
        have e2 := keep_cell hb2o (hcH 2 _ rfl)
        simp only [Nat.add_zero] at e0
        dsimp only [wholeS] at e0
        go_upto_region 11 with fail
        refine wp_region_flow [0, 1, 2, 3, 4, 5, 6, 7, 8, 9, 10] (fun w' => ∃ q, w' = More wo q) (by kernel_rfl) (by kernel_rfl) (below_more ((Below.refl wo.heap.size wo).drew)) ?_
        simp only [pickOps, List.getElem?_cons_zero, List.getElem?_cons_succ]
        repeat (go_big_quiet_step (fail))
        refine wpQuiet_nil ?_
        refine flow_one 11 (by kernel_rfl) rfl ?_
        have hI4 : RInts (wo.alloc (.cells #[.int .i64 (X : Int)] 3)).drew (some ⟨wo.heap.size, 0, none⟩) 1 1 [(X : Int)] := lit_ints (Has.new wo 3 #[.int .i64 (X : Int)]).drew (by unfold I64; omega)
        have hZ4 : Below wo.heap.size wo (wo.alloc (.cells #[.int .i64 (X : Int)] 3)).drew := ((Below.refl _ _).alloc (Nat.le_refl _) _).drew
        go_wp2
        generalize World.drew _ = z4 at hI4 hZ4 ⊢
        refine FlowPost.mk ⟨below_more hZ4, ?_⟩
        refine flow_one 12 (by kernel_rfl) rfl ?_
        go_wp2_with fail
        refine (rof_any A n cp l _ 1 1 [(X : Int)] z4 ((h.below hbwo).below hZ4) hI4).mono ?_
        rintro e z5 ⟨rfl, hbJ⟩
        rw [cnt_vot Hmk.out.asc]
        have hZ5 := Below_trans' hZ4 hZ4.size hbJ
        go_wp2
        refine FlowPost.mk ⟨below_more hZ5, ?_⟩
        refine flow_one 13 (by kernel_rfl) rfl ?_
        go_wp2_with fail
        refine (rwhole_any (votX l (X : Int)) z5 (by omega) (by omega)).mono ?_
        rintro e z6 ⟨An, nn', cn, Ac, nc, cc, rfl, hn6, hd6, hbK, _⟩
        have hZ6 := Below_trans' hZ5 hZ5.size hbK
        go_wp2
        refine FlowPost.mk ⟨below_more hZ6, ?_⟩
        refine flow_one 14 (by kernel_rfl) rfl ?_
        go_wp2_with fail
        refine (rsame4_eq false Aw Av' An Ac nw cw nv' cv' nn' cn nc cc _ _ z6 ((gw1.below hb2o).below hZ6) ((gw2.below hb2o).below hZ6) hn6 hd6).mono ?_
        rintro e z7 ⟨rfl, hbL⟩
        have hZ7 := Below_trans' hZ6 hZ6.size hbL
        go_wp2
        refine FlowPost.mk ⟨below_more hZ7, ?_⟩
        refine flow_rest [15] (by kernel_rfl) ?_
        simp only [pickOps, List.getElem?_cons_zero, List.getElem?_cons_succ]
        clear x1 r0 r1 r2 r3 r4 r5 e0 e1 e2 p2 hI4 hn6 hd6 hbJ hbK hbL hZ4 hZ5 hZ6
        have hS7 := hS.below hZ7 hS.lt
        have hs71 := hs1'.below hZ7
        have hs72 := hs2'.below hZ7
        have hb57 := Below_trans' hb hb.size hZ7
        have hb27 := Below_trans' hb25 hb25.size hb57
        have hX7 := hX2.below hb27 hX2.lt
        have s0 := hS7.cell 0
        have s1 := hS7.cell 1
        have s2 := hS7.cell 2
        have x1 := hX7.cell 1
        -- the round's cells at the world z7 (hb27: Below w2 .. z7)
        have r0 := keep_cell hb27 (hcR 0 _ rfl)
        have r1 := keep_cell hb27 (hcR 1 _ rfl)
        have r2 := keep_cell hb27 (hcR 2 _ rfl)
        have r3 := keep_cell hb27 (hcR 3 _ rfl)
        have r4 := keep_cell hb27 (hcR 4 _ rfl)
        have r5 := keep_cell hb27 (hcR 5 _ rfl)
        simp only [Nat.zero_mul, Nat.add_zero] at r0 r1 r2 r3 r4 r5
        dsimp only [rndS, wholeS] at r1
        have e0 := keep_cell hb27 (hcH 0 _ rfl)
        have e1 := keep_cell hb27 (hcH 1 _ rfl)
        have e2 := keep_cell hb27 (hcH 2 _ rfl)
        simp only [Nat.add_zero] at e0
        dsimp only [wholeS] at e0
        have gr1 := gw1.below hb27
        have gr2 := gw2.below hb27
        have hg7 : w5.heap.size < z7.heap.size := hS7.lt
        clear hS hs1' hs2' hPo hXo hb2o hbwo hb
        go_upto_region 13 with fail
        clear p0
        go_cut [15, 16] from 123 to 135 (fun u v wx => ∃ (g14 : Nat) (A6 : Option Addr) (n6 c6 : Nat) (A7 : Option Addr) (n7 c7 : Nat), u = .pointer (some ⟨g14, 0, none⟩) ∧ v = .int .i64 0 ∧ Has wx g14 45 #[.bool false, .slice A6 n6 c6, .slice A7 n7 c7] ∧ RWrds wx A6 n6 c6 (lm (L + ((votV l nt).take X).sum + votX l (X : Int))) ∧ RWrds wx A7 n7 c7 [1] ∧ Below z7.heap.size z7 wx)
        case first =>
          refine wp_region_flowz [0, 1, 2, 3, 4, 5, 6, 7, 8] [0, 1, 2, 3, 4, 5, 6, 7, 8, 10, 11, 12] (fun w' => ∃ q, w' = More z7 q) (by kernel_rfl) (by kernel_rfl) (below_more ((Below.refl z7.heap.size z7).drew)) ?_
          simp only [pickOps, List.getElem?_cons_zero, List.getElem?_cons_succ]
          repeat (go_big_quiet_step (fail))
          refine wpQuiet_nil ?_
          have hdr : Below z7.heap.size z7 z7.drew := (Below.refl _ _).drew
          refine flow_two 9 13 (by kernel_rfl) rfl rfl ?_ ?_
          · go_wp2_with fail
            refine (radd4 As Ad Aw Av' ns cs nd cd nw cw nv' cv' (L + ((votV l nt).take X).sum) (votX l (X : Int)) _ (hs71.below hdr) (hs72.below hdr) (gr1.below hdr) (gr2.below hdr) (by omega) (by omega) (by omega)).mono ?_
            rintro e wa ⟨A6, n6, c6, A7, n7, c7, rfl, hA6, hA7, hba⟩
            have hbw : Below z7.heap.size z7 wa := Below_trans' hdr (Nat.le_refl _) hba
            clear hdr e0 e1 e2 s0 s1 s2 x1 r0 r1 r2 r3 r4 r5
            go_wp2
            refine FlowPost.mk ⟨below_more hbw, ?_⟩
            refine flow_pure [10, 11, 12] (by kernel_rfl) (below_more hbw) ?_
            simp only [pickOps, List.getElem?_cons_zero, List.getElem?_cons_succ]
            repeat (go_big_quiet_step (fail))
            refine wpQuiet_nil ?_
            refine flow_one 13 (by kernel_rfl) rfl ?_
            go_wp2
            refine FlowPost.mk ⟨below_more (hbw.alloc hbw.size _), ?_⟩
            refine flow_one 14 (by kernel_rfl) rfl ?_
            have hN := Has.new wa 45 #[.bool false, .slice A6 n6 c6, .slice A7 n7 c7]
            have hbN : Below wa.heap.size wa (wa.alloc (.cells #[.bool false, .slice A6 n6 c6, .slice A7 n7 c7] 45)) := below_allocN
            have hb8 := Below_trans' hbw hbw.size hbN
            have hA6' := hA6.below hbN
            have hA7' := hA7.below hbN
            go_wp2
            generalize World.alloc wa _ = w8 at hN hb8 hA6' hA7' ⊢
            refine FlowPost.mk ⟨below_more hb8, ?_⟩
            refine flow_one 15 (by kernel_rfl) rfl ?_
            go_wp2
            refine FlowPost.mk ⟨below_more hb8, ?_⟩
            refine flow_rest [] (by kernel_rfl) ?_
            simp only [pickOps]
            go_wp2
            go_meet
            exact ⟨wa.heap.size, A6, n6, c6, A7, n7, c7, rfl, rfl, hN, hA6', hA7', hb8⟩
          · go_wp2
            have hbz : Below z7.heap.size z7 (z7.alloc (.cells #[.bool false, .slice none 0 0, .slice none 0 0] 45)).drew := ((Below.refl _ _).alloc (Nat.le_refl _) _).drew
            have hNz : Has (z7.alloc (.cells #[.bool false, .slice none 0 0, .slice none 0 0] 45)).drew z7.heap.size 45 #[.bool false, .slice none 0 0, .slice none 0 0] := (Has.new z7 45 #[.bool false, .slice none 0 0, .slice none 0 0]).drew
            generalize World.drew _ = wz at hbz hNz ⊢
            refine FlowPost.mk ⟨below_more hbz, ?_⟩
            refine flow_one 9 (by kernel_rfl) rfl ?_
            go_wp2_with fail
            refine (radd4 As Ad Aw Av' ns cs nd cd nw cw nv' cv' (L + ((votV l nt).take X).sum) (votX l (X : Int)) _ (hs71.below hbz) (hs72.below hbz) (gr1.below hbz) (gr2.below hbz) (by omega) (by omega) (by omega)).mono ?_
            rintro e wa ⟨A6, n6, c6, A7, n7, c7, rfl, hA6, hA7, hba⟩
            have hbw : Below z7.heap.size z7 wa := Below_trans' hbz hbz.size hba
            have hNa := hNz.below hba hNz.lt
            clear hdr e0 e1 e2 s0 s1 s2 x1 r0 r1 r2 r3 r4 r5
            go_wp2
            refine FlowPost.mk ⟨below_more hbw, ?_⟩
            refine flow_pure [10, 11, 12] (by kernel_rfl) (below_more hbw) ?_
            simp only [pickOps, List.getElem?_cons_zero, List.getElem?_cons_succ]
            repeat (go_big_quiet_step (fail))
            refine wpQuiet_nil ?_
            refine flow_one 14 (by kernel_rfl) rfl ?_
            have t0 := hNa.cell 0
            have t1 := hNa.cell 1
            have t2 := hNa.cell 2
            have f0 := hNa.free 0
            have f1 := hNa.free 1
            have f2 := hNa.free 2
            have hN := put3 (x' := .bool false) (y' := .slice A6 n6 c6) (z' := .slice A7 n7 c7) hNa
            have hF := frame3 wa z7.heap.size (.bool false) (.slice A6 n6 c6) (.slice A7 n7 c7)
            have hA6' := hA6.frame hF (wrds_apart20 hNa hA6)
            have hA7' := hA7.frame hF (wrds_apart20 hNa hA7)
            have hb8 := Frame'.below hbw hF (fun b e => by have e : b = z7.heap.size := e; omega) hbw.size
            go_wp2
            generalize World.setCell (World.setCell (World.setCell wa _ _) _ _) _ _ = w8 at hN hb8 hA6' hA7' ⊢
            refine FlowPost.mk ⟨below_more hb8, ?_⟩
            refine flow_one 15 (by kernel_rfl) rfl ?_
            go_wp2
            refine FlowPost.mk ⟨below_more hb8, ?_⟩
            refine flow_rest [] (by kernel_rfl) ?_
            simp only [pickOps]
            go_wp2
            go_meet
            exact ⟨z7.heap.size, A6, n6, c6, A7, n7, c7, rfl, rfl, hN, hA6', hA7', hb8⟩
        case rest =>
          obtain ⟨g14, A6, n6, c6, A7, n7, c7, rfl, rfl, hN, hn6, hn7, hbc⟩ := hcut
          clear e0 e1 e2 s0 s1 s2 x1 r0 r1 r2 r3 r4 r5
          have hSc := hS7.below hbc hS7.lt
          have n0 := hN.cell 0
          have n1' := hN.cell 1
          have n2' := hN.cell 2
          have s0 := hSc.free 0
          have s1 := hSc.free 1
          have s2 := hSc.free 2
          have z0' := hSc.cell 0
          have z1' := hSc.cell 1
          have z2' := hSc.cell 2
          have hb5c := Below_trans' hb57 hb57.size hbc
          have hS8 := put3 (x' := .bool false) (y' := .slice A6 n6 c6) (z' := .slice A7 n7 c7) hSc
          have hF8 := frame3 wc w5.heap.size (.bool false) (.slice A6 n6 c6) (.slice A7 n7 c7)
          have hn6' := hn6.frame hF8 (wrds_apart20 hSc hn6)
          have hn7' := hn7.frame hF8 (wrds_apart20 hSc hn7)
          have hb8 : Below w5.heap.size w5 _ := Frame'.below hb5c hF8 (fun b e => by have e : b = w5.heap.size := e; omega) hb5c.size
          go_wp2
          go_roundw
          case rel => exact ⟨X + 1, A6, n6, c6, A7, n7, c7, by omega, by go_num, hS8, by rw [hsum.out, ← Int.add_assoc]; exact hn6', hn7', hb8⟩
          case measure => simp [intOf] <;> omega
      · obtain rfl : nt = X := by omega
        have hse : Hid (L + ((votV l nt).take nt).sum = totS l) := by unfold Hid; rw [List.take_of_length_le (by rw [length_votV]; exact Nat.le_refl _)]; have := hsumT.out; omega
        rw [hse.out] at hs1'
        have hXo := hX2.below hb2o hX2.lt
        have x0 := hXo.cell 0
        have x1 := hXo.cell 1
        have x2 := hXo.cell 2
        go_upto_region 18 with fail
        go_wp2_with fail
        refine (seats20_any Ae S ce (some ⟨bR, oR, none⟩) 1 cr Av nv cv el nt wo (hOI.below hb2o) hel.out (by omega) (by omega)).mono ?_
        rintro e w7 ⟨vs, rfl, hSv, hb7⟩
        obtain ⟨Asv, csv, rfl⟩ := hSv.slice
        rw [length_gotV] at hSv ⊢
        clear x0 x1 x2 p0
        have hGv := hSv.ints (fun y hy => by
          obtain ⟨i, _, rfl⟩ := List.mem_map.1 hy
          have := List.count_le_length (a := (i : Int)) (l := el)
          have h2 : el.length = S := Heln.out
          omega)
        have hbw7 := Below_trans' hbwo hbwo.size hb7
        have hS7 := hS.below hb7 hS.lt
        have hs71 := hs1'.below hb7
        have hs72 := hs2'.below hb7
        have hP7 := hPo.below hb7 hPo.lt
        have Hgs := hide (fun k => sum_take20 (l := gotV el nt) (fun y hy => by obtain ⟨i, _, rfl⟩ := List.mem_map.1 hy; omega) k)
        have hgsum : Hid ((gotV el nt).sum = S) := by
          unfold Hid gotV
          rw [sum_count hel.out, Heln.out]
        clear hS hs1' hs2' hPo hXo hb hb2o hbwo hb7
        go_wp2
        go_loopw [17, 19] (fun s i wr => ∃ Y : Nat, Y ≤ nt ∧ i = .int .i64 Y ∧ s = .int .i64 (((gotV el nt).take Y).sum) ∧ wr = w7) (fun s i _ => nt - (intOf i).toNat)
        case atStart => exact ⟨0, Nat.zero_le _, rfl, rfl, rfl⟩
        case round =>
          obtain ⟨Y, hY, rfl, rfl, rfl⟩ := hrel
          have p0 := hP7.cell 0
          by_cases hYC : Y < nt
          · obtain ⟨b, off, v, rfl, hc, _, hat, _⟩ := hGv.step hYC
            have hv := hide (sum_step20 hat.out)
            have hb1 := Hgs.out Y
            have hb2 := Hgs.out (Y + 1)
            have hb3 := hgsum.out
            rw [hv.out] at hb2
            clear hat
            go_wp2
            go_roundw
            case rel => exact ⟨Y + 1, by omega, by go_num, by rw [hv.out], by first | rfl | trivial⟩
            case measure => simp [intOf] <;> omega
          · obtain rfl : nt = Y := by omega
            have e3 : Hid (((gotV el nt).take nt).sum = S) := by unfold Hid; rw [List.take_of_length_le (by rw [length_gotV]; exact Nat.le_refl _)]; exact hgsum.out
            rw [e3.out]
            have s0 := hS7.cell 0
            have s1 := hS7.cell 1
            have s2 := hS7.cell 2
            have f1 : ((S : Int) == (S : Int)) = true := by simp
            go_upto_region 23 with fail
            clear p0
            refine wp_region_flowz [0, 1, 2, 3, 4, 5] [0, 1, 2, 3, 4, 5, 8, 9] (fun w' => ∃ q, w' = More wr q) (by kernel_rfl) (by kernel_rfl) (below_more ((Below.refl wr.heap.size wr).drew)) ?_
            simp only [pickOps, List.getElem?_cons_zero, List.getElem?_cons_succ]
            repeat (go_big_quiet_step (fail))
            refine wpQuiet_nil ?_
            have hdr : Below wr.heap.size wr wr.drew := (Below.refl _ _).drew
            clear s0 s1 s2
            have ht0 := tot_nn Hmk.out.pos
            refine flow_one 6 (by kernel_rfl) rfl ?_
            go_wp2_with fail
            refine (rwhole_any (totS l) _ (by omega) (by omega)).mono ?_
            rintro e z6 ⟨An, nn', cn, Ac, nc, cc, rfl, hn6, hd6, hbK, _⟩
            have hZ6 : Below wr.heap.size wr z6 := Below_trans' hdr hdr.size hbK
            go_wp2
            refine FlowPost.mk ⟨below_more hZ6, ?_⟩
            refine flow_one 7 (by kernel_rfl) rfl ?_
            go_wp2_with fail
            refine (rsame4_eq false As Ad An Ac ns cs nd cd nn' cn nc cc _ _ z6 (hs71.below hZ6) (hs72.below hZ6) hn6 hd6).mono ?_
            rintro e z7 ⟨rfl, hbL⟩
            have hZ7 := Below_trans' hZ6 hZ6.size hbL
            go_wp2
            refine FlowPost.mk ⟨below_more hZ7, ?_⟩
            refine flow_pure [8, 9] (by kernel_rfl) (below_more hZ7) ?_
            simp only [pickOps, List.getElem?_cons_zero, List.getElem?_cons_succ]
            repeat (go_big_quiet_step (fail))
            refine wpQuiet_nil ?_
            refine flow_one 10 (by kernel_rfl) rfl ?_
            go_wp2_with fail
            refine (wakes20_any _).mono ?_
            rintro e z8 ⟨rfl, hbM⟩
            have hZ8 := Below_trans' hZ7 hZ7.size hbM
            go_wp2
            refine FlowPost.mk ⟨below_more hZ8, ?_⟩
            refine flow_rest [11, 12] (by kernel_rfl) ?_
            simp only [pickOps, List.getElem?_cons_zero, List.getElem?_cons_succ]
            go_wp2
            go_ret
            exact ⟨rfl, Below_trans' hbw7 hbw7.size hZ8⟩
  · have e1 : (mayS c k l 2 nn 10 lot == 0) = false := by simp [hE]
    clear hE
    go_wp2_with fail
    refine (wakes20_any _).mono ?_
    rintro e w9 ⟨rfl, hb9⟩
    go_wp2
    go_ret
    exact ⟨rfl, Below_trans' hbw0 (hbw0).size hb9⟩
end Go.Proofs.YtiebfalodelclaaGreat
