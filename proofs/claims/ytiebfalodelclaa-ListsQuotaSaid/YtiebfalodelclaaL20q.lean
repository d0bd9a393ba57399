/-
  The law ListsQuota.
-/
import Derived.Test.YtiebfalodelclaaW20e
namespace Go.Proofs.Ytiebfalodelclaa
open Go.RowKit Go.Proofs Go.Shelf
attribute [local go_sem] cell?_more cell?_alloc_some cell?_setCell_far frozen?_alloc_some frozen?_more
set_option maxRecDepth 100000 in
set_option maxHeartbeats 4000000 in
theorem listsQuota_any (c k : Int) (A : Option Addr) (n cp : Nat) (l : List Row) (nn : Int) (At : Option Addr) (nt ct : Nat) (lot : List Int) (w : World) (h : RRows w A n cp l) (h' : RInts w At nt ct lot) :
    Calls Try.prog 5 #[.agg #[.int .i64 c, .int .u8 k, .slice A n cp], .int .i64 nn, .slice At nt ct] w fun e w' => e = .returned (.bool true) ∧ Below w.heap.size w w' := by
  have hb : Below w.heap.size w (w.alloc (.cells #[.int .i64 c, .int .u8 k, .slice A n cp] 24)) := below_allocN
  have hP := Has.new w 24 #[.int .i64 c, .int .u8 k, .slice A n cp]
  generalize hW : World.alloc w _ = W0 at hb hP
  have p0 := hP.cell 0
  have p1 := hP.cell 1
  have p2 := hP.cell 2
  go_enter Try.func5, Try.ntmps5
  go_wp2_with fail
  try simp only [hW]
  clear hW
  refine (valid20_any c k A n cp l nn At nt ct lot W0 (h.below hb) (h'.below hb)).mono ?_
  rintro e z0 ⟨rfl, hbz0⟩
  have hbw0 := Below_trans' hb hb.size hbz0
  replace hP := hP.below hbz0 hP.lt
  clear p0 p1 p2 hb hbz0
  by_cases hE : mayS c k l 2 nn 10 lot = 0
  · have e1 : (mayS c k l 2 nn 10 lot == 0) = true := by simp [hE]
    obtain ⟨hc0, hk0, hs1, hs2, hs3, hlot⟩ := may_zero hE
    subst hk0
    have hmk := markOK_of hc0
    have hc1 := (check_iff.1 hc0).2.1
    obtain ⟨C, rfl⟩ : ∃ C : Nat, c = (C : Int) := ⟨c.toNat, by omega⟩
    obtain ⟨S, rfl⟩ : ∃ S : Nat, nn = (S : Int) := ⟨nn.toNat, by omega⟩
    rw [Int.toNat_natCast] at hmk
    have Hmk := hide hmk
    have hC10 := hmk.c10
    have hC1 := hmk.c1
    have hnt : nt = C := by have h1 := lot_len hlot; have h2 := h'.len; omega
    subst hnt
    have hvb := votV_bd hmk
    have Hvb := hide hvb
    have Hla := hide (LotAll.of hlot)
    have Hlot := hide hlot
    have hrun : Hid (∀ r, listR r nt 2 l S lot = listO r l nt lot S) := fun r => by rw [listR_ok hE, Int.toNat_natCast, Int.toNat_natCast]
    have hmay := hide hE
    have Hc0 := hide hc0
    clear hE hc0 hmk hvb hc1 hlot
    have Hbv := hide (fun (k : Nat) => sum_take20 (fun y hy => (Hvb.out.1 y hy).1) k (l := votV l nt))
    go_wp2
    go_loopw [7, 8] (fun s i wr => ∃ X : Nat, X ≤ nt ∧ i = .int .i64 X ∧ s = .int .i64 (((votV l nt).take X).sum) ∧ Below z0.heap.size z0 wr) (fun s i _ => nt - (intOf i).toNat)
    case atStart => exact ⟨0, Nat.zero_le _, rfl, rfl, Below.refl _ _⟩
    case round =>
      obtain ⟨X, hX, rfl, rfl, hb⟩ := hrel
      obtain ⟨wo, rfl⟩ : ∃ wo : World, wo = wr := ⟨_, rfl⟩
      have hPr := hP.below hb hP.lt
      have p0 := hPr.cell 0
      have p2 := hPr.cell 2
      have hbw := Below_trans' hbw0 hbw0.size hb
      by_cases hXC : X < nt
      · have hv := hide (sum_step20 (get_votV l hXC))
        have hb1 := Hbv.out X
        have hb2 := Hbv.out (X + 1)
        have hvs := Hvb.out.2.2.1
        rw [hv.out] at hb2
        -- a call of Of for the party X at the world wo (cells p2 at hand, hbw : Below w .. wo); leaves w5, hB5 : Below wo .. w5
        have hXI : RInts (wo.alloc (.cells #[.int .i64 (X : Int)] 3)) (some ⟨wo.heap.size, 0, none⟩) 1 1 [(X : Int)] := lit_ints (Has.new _ _ _) (by unfold I64; omega)
        have hbI : Below wo.heap.size wo (wo.alloc (.cells #[.int .i64 (X : Int)] 3)) := below_allocN
        have hbwI := Below_trans' hbw (hbw).size hbI
        go_wp2_with fail
        generalize World.alloc wo _ = wI at hXI hbI hbwI ⊢
        refine (rof_any A n cp l _ 1 1 [(X : Int)] wI (h.below hbwI) hXI).mono ?_
        rintro e w5 ⟨rfl, hbJ⟩
        rw [cnt_vot Hmk.out.asc]
        have hB5 := Below_trans' hbI hbI.size hbJ
        clear hXI hbI hbJ hbwI
        have hbR := Below_trans' hb hb.size hB5
        clear p0 p2
        go_wp2
        go_roundw
        case rel => exact ⟨X + 1, by omega, by go_num, by rw [hv.out], hbR⟩
        case measure => simp [intOf] <;> omega
      · obtain rfl : nt = X := by omega
        have e : Hid ((votV l nt).take nt = votV l nt) := List.take_of_length_le (by rw [length_votV]; exact Nat.le_refl _)
        rw [e.out]
        have hvs := Hvb.out.2.2.1
        have hv0 := (Hbv.out nt).1
        rw [e.out] at hv0
        obtain ⟨z1, rfl⟩ : ∃ z1 : World, z1 = wo := ⟨_, rfl⟩
        clear p2 hXC hX hP hbw0 hb
        obtain ⟨T, hT⟩ : ∃ T, T = (votV l nt).sum := ⟨_, rfl⟩
        rw [← hT] at hvs hv0 ⊢
        have HT := hide hT
        clear hT
        by_cases hT0 : T = 0
        · have e3 : (T == 0) = true := by simp [hT0]
          clear hT0 hvs hv0
          go_wp2_with fail
          refine (wakes20_any _).mono ?_
          rintro e w9 ⟨rfl, hb9⟩
          go_wp2
          go_ret
          exact ⟨rfl, Below_trans' hbw (hbw).size hb9⟩
        · have e3 : (T == 0) = false := by simp [hT0]
          have hTp : 0 < T := by omega
          clear hT0
          -- the count of S seats at the world z1 (hbw : Below w .. z1; hPr : the profile's box); names end in a; region 11 behind it
          have p0 := hPr.cell 0
          have p1 := hPr.cell 1
          have p2 := hPr.cell 2
          go_wp2_with fail
          refine (hare_any 2 (by decide) (by decide) nt 2 A n cp l S At nt ct lot z1 (h.below hbw) (h'.below hbw) (by omega)).mono ?_
          rintro e ua ⟨Aea, nea, cea, Ara, nra, cra, Ava, nva, cva, rfl, hOa, hb1⟩
          rw [hrun.out] at hOa
          rw [hmay.out]
          clear p0 p1 p2
          go_upto_region 11 with fail
          have hb2 : Below ua.heap.size ua (ua.alloc (.cells #[.slice Aea nea cea, .slice Ara nra cra, .slice Ava nva cva] 31)) := below_allocN
          have hXa := Has.new ua 31 #[.slice Aea nea cea, .slice Ara nra cra, .slice Ava nva cva]
          generalize World.alloc ua _ = ya at hb2 hXa ⊢
          replace hOa := hOa.below hb2
          have hga := Below_trans' hb1 hb1.size hb2
          have hbwa := Below_trans' hbw (hbw).size hga
          have hPa := hPr.below hga hPr.lt
          clear hb1 hb2
          -- the count of S seats at the world ya (hbwa : Below w .. ya; hPa : the profile's box); names end in b; region 12 behind it
          have p0 := hPa.cell 0
          have p1 := hPa.cell 1
          have p2 := hPa.cell 2
          go_wp2_with fail
          refine (dhondt_any nt 2 A n cp l S At nt ct lot ya (h.below hbwa) (h'.below hbwa) (by omega)).mono ?_
          rintro e ub ⟨Aeb, neb, ceb, Arb, nrb, crb, Avb, nvb, cvb, rfl, hOb, hb1⟩
          rw [hrun.out] at hOb
          rw [hmay.out]
          clear p0 p1 p2
          go_upto_region 12 with fail
          have hb2 : Below ub.heap.size ub (ub.alloc (.cells #[.slice Aeb neb ceb, .slice Arb nrb crb, .slice Avb nvb cvb] 31)) := below_allocN
          have hXb := Has.new ub 31 #[.slice Aeb neb ceb, .slice Arb nrb crb, .slice Avb nvb cvb]
          generalize World.alloc ub _ = yb at hb2 hXb ⊢
          replace hOb := hOb.below hb2
          have hgb := Below_trans' hb1 hb1.size hb2
          have hbwb := Below_trans' hbwa (hbwa).size hgb
          have hPb := hPa.below hgb hPa.lt
          clear hb1 hb2
          have hOa' := hOa.below hgb
          have hXa' := hXa.below hgb hXa.lt
          have hha := hide (fun (x : Int) (x0 : 0 ≤ x) (xC : x < (nt : Int)) => hare_quota hC1 Hla.out (hadOK_vot nt Hmk.out.pos) (by rw [← HT.out]; exact hTp) S x0 xC)
          have hdh := hide (fun (x : Int) (x0 : 0 ≤ x) (xC : x < (nt : Int)) => dhondt_floor hC1 Hla.out (hadOK_vot nt Hmk.out.pos) (by rw [← HT.out]; exact hTp) S x0 xC)
          have hea := hide (seatS_rng (had := votV l nt) hC1 Hla.out 2 S)
          have heb := hide (seatS_rng (had := votV l nt) hC1 Hla.out 0 S)
          have hla : Hid ((listO 2 l nt lot S).1.length = S) := seatS_len (had := votV l nt) hC1 Hla.out (hadOK_vot nt Hmk.out.pos) 2 S
          have hlb : Hid ((listO 0 l nt lot S).1.length = S) := seatS_len (had := votV l nt) hC1 Hla.out (hadOK_vot nt Hmk.out.pos) 0 S
          have hna : Hid (nea = S) := by unfold Hid; have := hOa'.1.len; have := hla.out; omega
          have hnb : Hid (neb = S) := by unfold Hid; have := hOb.1.len; have := hlb.out; omega
          have x0 := hXa'.cell 0
          have x1 := hXa'.cell 1
          have x2 := hXa'.cell 2
          have t0 := hXb.cell 0
          have t1 := hXb.cell 1
          have t2 := hXb.cell 2
          have p0 := hPb.cell 0
          clear hPr hXa hPa hOa
          go_upto_region 14 with fail
          refine wp_region_flow [0, 1, 2, 4, 5, 6] (fun w' => ∃ q, w' = More yb q) (by kernel_rfl) (by kernel_rfl) (below_more ((Below.refl yb.heap.size yb).drew)) ?_
          simp only [pickOps, List.getElem?_cons_zero, List.getElem?_cons_succ]
          repeat (go_big_quiet_step (fail))
          refine wpQuiet_nil ?_
          have hdr : Below yb.heap.size yb yb.drew := (Below.refl _ _).drew
          clear x0 x1 x2 t0 t1 t2 p0
          refine flow_one 3 (by kernel_rfl) rfl ?_
          go_wp2_with fail
          refine (seats20_any Aea nea cea Ara nra cra Ava nva cva (listO 2 l nt lot S).1 nt _ (hOa'.1.below hdr) hea.out (by omega) (by have := hna.out; omega)).mono ?_
          rintro e w3 ⟨va, rfl, hSa, hb3⟩
          obtain ⟨Asa, csa, rfl⟩ := hSa.slice
          rw [length_gotV] at hSa ⊢
          have hb13 : Below yb.heap.size yb w3 := Below_trans' hdr hdr.size hb3
          go_wp2
          refine FlowPost.mk ⟨below_more hb13, ?_⟩
          refine flow_one 7 (by kernel_rfl) rfl ?_
          go_wp2_with fail
          refine (seats20_any Aeb neb ceb Arb nrb crb Avb nvb cvb (listO 0 l nt lot S).1 nt w3 (hOb.1.below hb13) heb.out (by omega) (by have := hnb.out; omega)).mono ?_
          rintro e w4 ⟨vb, rfl, hSb, hb4⟩
          obtain ⟨Asb, csb, rfl⟩ := hSb.slice
          rw [length_gotV] at hSb ⊢
          have hb14 := Below_trans' hb13 hb13.size hb4
          go_wp2
          refine FlowPost.mk ⟨below_more hb14, ?_⟩
          refine flow_rest [8, 9] (by kernel_rfl) ?_
          simp only [pickOps, List.getElem?_cons_zero, List.getElem?_cons_succ]
          have hbw4 := Below_trans' hbwb hbwb.size hb14
          have hP4 := hPb.below hb14 hPb.lt
          have hIa := (hSa.below hb4).ints (fun y hy => by
            obtain ⟨i, _, rfl⟩ := List.mem_map.1 hy
            have := List.count_le_length (a := (i : Int)) (l := (listO 2 l nt lot S).1)
            have := hla.out
            omega)
          have hIb := hSb.ints (fun y hy => by
            obtain ⟨i, _, rfl⟩ := List.mem_map.1 hy
            have := List.count_le_length (a := (i : Int)) (l := (listO 0 l nt lot S).1)
            have := hlb.out
            omega)
          obtain ⟨ba, oa, _, rfl, _⟩ := hIa.step (show 0 < nt by omega)
          obtain ⟨bb, ob, _, rfl, _⟩ := hIb.step (show 0 < nt by omega)
          have hha' : Hid (∀ x : Int, 0 ≤ x → x < (nt : Int) → getI (votV l nt) x * S / (votV l nt).sum ≤ (((listO 2 l nt lot S).1.count x : Nat) : Int) ∧ ((((listO 2 l nt lot S).1.count x : Nat) : Int)) ≤ (getI (votV l nt) x * S + (votV l nt).sum - 1) / (votV l nt).sum ∧ getI (votV l nt) x * S / (votV l nt).sum ≤ (((listO 0 l nt lot S).1.count x : Nat) : Int)) := fun x x0 xC => ⟨(hha.out x x0 xC).1, (hha.out x x0 xC).2, hdh.out x x0 xC⟩
          generalize (listO 2 l nt lot S).1 = ea at hIa hha'
          generalize (listO 0 l nt lot S).1 = eb at hIb hha'
          rw [← HT.out] at hha'
          clear hha hdh hOa' hOb hXa' hXb hPb hSa hSb hea heb hla hlb hb3 hb4 hb13 hb14 hdr hbwa hbwb hga hgb hrun hmay Hbv e HT
          go_wp2
          go_loopw [15] (fun i wr => ∃ X : Nat, X ≤ nt ∧ i = .int .i64 X ∧ Below w4.heap.size w4 wr) (fun i _ => nt - (intOf i).toNat)
          case atStart => exact ⟨0, Nat.zero_le _, rfl, Below.refl _ _⟩
          case round =>
            obtain ⟨X, hX, rfl, hb⟩ := hrel
            obtain ⟨wo, rfl⟩ : ∃ wo : World, wo = wr := ⟨_, rfl⟩
            have hPr := hP4.below hb hP4.lt
            have p0 := hPr.cell 0
            have p2 := hPr.cell 2
            have hbw5 := Below_trans' hbw4 hbw4.size hb
            by_cases hXC : X < nt
            · have hq := hha'.out X (by omega) (by omega)
              have hvx := Hvb.out.2.1 (X : Int)
              rw [getI_votV (C := nt) (by omega)] at hq hvx
              -- a call of Of for the party X at the world wo (cells p2 at hand, hbw5 : Below w .. wo); leaves w5, hB5 : Below wo .. w5
              have hXI : RInts (wo.alloc (.cells #[.int .i64 (X : Int)] 3)) (some ⟨wo.heap.size, 0, none⟩) 1 1 [(X : Int)] := lit_ints (Has.new _ _ _) (by unfold I64; omega)
              have hbI : Below wo.heap.size wo (wo.alloc (.cells #[.int .i64 (X : Int)] 3)) := below_allocN
              have hbwI := Below_trans' hbw5 (hbw5).size hbI
              go_wp2_with fail
              generalize World.alloc wo _ = wI at hXI hbI hbwI ⊢
              refine (rof_any A n cp l _ 1 1 [(X : Int)] wI (h.below hbwI) hXI).mono ?_
              rintro e w5 ⟨rfl, hbJ⟩
              rw [cnt_vot Hmk.out.asc]
              have hB5 := Below_trans' hbI hbI.size hbJ
              clear hXI hbI hbJ hbwI
              have hbR := Below_trans' hb hb.size hB5
              clear p0 p2
              generalize votX l (X : Int) = v at hq hvx ⊢
              have m1 : 0 ≤ v * (S : Int) ∧ v * (S : Int) ≤ 1000000000 := ⟨Int.mul_nonneg hvx.1 (by omega), Int.le_trans (Int.mul_le_mul hvx.2 (show (S : Int) ≤ 10 by omega) (by omega) (by omega)) (by omega)⟩
              have g1 : (v * (S : Int)).tdiv T = v * (S : Int) / T := Int.tdiv_eq_ediv_of_nonneg m1.1
              have g2 : (v * (S : Int) + T - 1).tdiv T = (v * (S : Int) + T - 1) / T := Int.tdiv_eq_ediv_of_nonneg (by omega)
              have g3 : 0 ≤ v * (S : Int) / T := Int.ediv_nonneg m1.1 (by omega)
              have g4 : v * (S : Int) / T ≤ v * (S : Int) := Int.ediv_le_self T m1.1
              have g5 : 0 ≤ (v * (S : Int) + T - 1) / T := Int.ediv_nonneg (by omega) (by omega)
              have g6 : (v * (S : Int) + T - 1) / T ≤ v * (S : Int) + T - 1 := Int.ediv_le_self T (by omega)
              have f1 : (T != 0) = true := by simp; omega
              generalize v * (S : Int) / T = fl at hq g1 g3 g4
              generalize (v * (S : Int) + T - 1) / T = ce at hq g2 g5 g6
              obtain ⟨b1, off1, v1, e1', hc1, _, hat1, _⟩ := ((hIa.below hb).below hB5).step hXC
              obtain rfl : v1 = (((ea.count (X : Int) : Nat)) : Int) := by have := hat1.out; rw [get_gotV _ (by omega)] at this; exact (Option.some.inj this).symm
              obtain ⟨b2, off2, v2, e2', hc2, _, hat2, _⟩ := ((hIb.below hb).below hB5).step hXC
              obtain rfl : v2 = (((eb.count (X : Int) : Nat)) : Int) := by have := hat2.out; rw [get_gotV _ (by omega)] at this; exact (Option.some.inj this).symm
              cases e1'
              cases e2'
              clear hat1 hat2
              generalize ea.count (X : Int) = ca at *
              generalize eb.count (X : Int) = cb at *
              have d1 : decide ((ca : Int) < fl) = false := by simp; omega
              have d2 : decide (ce < (ca : Int)) = false := by simp; omega
              have d3 : decide ((cb : Int) < fl) = false := by simp; omega
              go_upto_region 21 with fail
              go_wp2
              go_roundw
              case rel => exact ⟨X + 1, by omega, by go_num, hbR⟩
              case measure => simp [intOf] <;> omega
            · go_wp2_with fail
              refine (wakes20_any _).mono ?_
              rintro e w9 ⟨rfl, hb9⟩
              go_wp2
              go_ret
              exact ⟨rfl, Below_trans' hbw5 (hbw5).size hb9⟩
  · have e1 : (mayS c k l 2 nn 10 lot == 0) = false := by simp [hE]
    clear hE
    go_wp2_with fail
    refine (wakes20_any _).mono ?_
    rintro e w9 ⟨rfl, hb9⟩
    go_wp2
    go_ret
    exact ⟨rfl, Below_trans' hbw0 (hbw0).size hb9⟩
end Go.Proofs.Ytiebfalodelclaa
