/-
  The law RankedNames.
-/
import Derived.Test.YtolbceckbnifmaaGreatW14q
import Derived.Test.YtolbceckbnifmaaGreatSpecNp
import Derived.Test.YtolbceckbnifmaaGreatW11r
import Derived.Test.YtolbceckbnifmaaGreatW9o
import Derived.Test.YtolbceckbnifmaaGreatFlow2
import Derived.Deep.CutRange
namespace Go.Proofs.YtolbceckbnifmaaGreat
open Go.RowKit Go.Proofs Go.Shelf
attribute [local go_sem] cell?_more cell?_alloc_some cell?_setCell_far frozen?_alloc_some frozen?_more
/-- A count's outcome is one that names know. -/
theorem rankO_okO {l : List Lk} {C : Nat} {lot : List Int} (hne : freeS C l ≠ []) (hC : C ≤ 10) (hlot : lotS lot C = true) : OkO C (rankO l C lot) := by
  have hsub : (freeS C l).Sublist (rangeI C) := List.filter_sublist
  have hr := (inR_range C).sub hsub
  have hx := hr _ (frst_mem hne fun x hx => lot_in hlot (hsub.subset hx))
  have h1 : InR C [frstS lot (freeS C l)] := fun y hy => by rw [List.mem_singleton.1 hy]; exact hx
  have hlen : (freeS C l).length ≤ 1000 := by have := hsub.length_le; rw [length_rangeI] at this; omega
  unfold rankO
  refine ⟨h1, by simp, fun r hr' => ?_, by simp, fun t ht => ?_, ?_⟩
  · rw [List.mem_singleton.1 hr']
    exact ⟨by simp [rndS, length_hadLk], h1, by simp [rndS], fun y hy => by simp [rndS] at hy, by simp [rndS]⟩
  · unfold tiedS at ht
    split at ht
    · simp at ht
    · rw [List.nil_append, List.mem_singleton] at ht
      rw [ht]; exact ⟨hr, hlen, hx.1, hx.2⟩
  · show (tiedS [] _ _).length ≤ 100
    unfold tiedS
    split <;> simp

set_option maxRecDepth 100000 in
set_option maxHeartbeats 8000000 in
theorem rankedNames_any (c k : Int) (A : Option Addr) (n cp : Nat) (l : List Row) (At : Option Addr) (nt ct : Nat) (lot : List Int) (Ap : Option Addr) (np cpp : Nat) (perm : List Int) (w : World) (h : RRows w A n cp l) (hl : RInts w At nt ct lot) (hp : RInts w Ap np cpp perm) :
    Calls Tryz.prog 8 #[.agg #[.int .i64 c, .int .u8 k, .slice A n cp], .slice At nt ct, .slice Ap np cpp] w fun e w' => e = .returned (.bool true) ∧ Below w.heap.size w w' := by
  have hb : Below w.heap.size w (w.alloc (.cells #[.int .i64 c, .int .u8 k, .slice A n cp] 27)) := below_allocN
  have hP := Has.new w 27 #[.int .i64 c, .int .u8 k, .slice A n cp]
  generalize hW : World.alloc w _ = W0 at hb hP
  have p0 := hP.cell 0
  have p1 := hP.cell 1
  have p2 := hP.cell 2
  go_enter Tryz.func8, Tryz.ntmps8
  go_wp2_with fail
  try simp only [hW]
  clear hW
  refine (one14_any c k A n cp l At nt ct lot W0 (h.below hb) (hl.below hb)).mono ?_
  rintro e z0 ⟨rfl, hbz0⟩
  have hbw0 := Below_trans' hb hb.size hbz0
  replace hP := hP.below hbz0 hP.lt
  clear p0 p1 p2
  by_cases hE : mayS c k l 1 1 1 lot = 0
  · have e1 : (mayS c k l 1 1 1 lot == 0) = true := by simp [hE]
    have p0 := hP.cell 0
    go_wp2_with fail
    refine (rlot_any Ap np cpp perm c z0 (hp.below hbw0)).mono ?_
    rintro e w' ⟨rfl, rfl⟩
    cases hpl : lotS perm c with
    | false =>
      clear hE p0
      go_wp2_with fail
      refine (wakes14_any _).mono ?_
      rintro e w9 ⟨rfl, hb9⟩
      go_wp2
      go_ret
      exact ⟨rfl, Below_trans' hbw0 (hbw0).size hb9⟩
    | true =>
      obtain ⟨hc0, hk0, _, _, _, hlot⟩ := may_zero hE
      subst hk0
      have hcs := check_ok hc0
      obtain ⟨C, rfl⟩ : ∃ C : Nat, c = (C : Int) := ⟨c.toNat, by omega⟩
      have hnpl := lot_len hpl
      have hnp : np = C := by have := hp.len; omega
      have htp : turnedS perm = true := by unfold lotS at hpl; rw [Bool.and_eq_true] at hpl; exact hpl.2
      have HN := hide (names_of htp hnpl)
      have hlen := hl.len
      have hnt : C = nt := by have := lot_len hlot; omega
      have Hll := hide hlen
      have hC10 := (rank_ok hc0).c10
      have hC1 := (rank_ok hc0).c1
      have Hlr := hide (lot_in_range hlot)
      have hrt := ofR_right (k := 1) hc0 (c' := (C : Int)) (Int.le_refl _) (by omega)
      have hc2 : checkS C 1 (renL perm l) = 0 := ren_check HN.out hc0
      have hrt2 := ofR_right (k := 1) hc2 (c' := (C : Int)) (Int.le_refl _) (by omega)
      have hlot2 := lot_ren HN.out hlot
      have hm2 : mayS C 1 (renL perm l) 1 1 1 (lot.map (nameS perm)) = 0 := may_ok hc2 rfl (fun hh => by rcases hh with h | h | h | h; omega; omega; omega; rw [hlot2] at h; cases h)
      have hLP := lotP_of hlot
      have hoe : ∀ x y : Nat, x < C → y < C → ofR C 1 (renL perm l) (nm perm x) (nm perm y) = ofR C 1 l x y := fun x y hx hy => ren_ofR HN.out hc0 hx hy
      have hKe : ordErr (ofR C 1 l) C lot = 0 := ordErr_ok (by omega) hlot hrt
      have hKe2 : ordErr (ofR C 1 (renL perm l)) C (lot.map (nameS perm)) = 0 := ordErr_ok (by omega) hlot2 hrt2
      have hLO := hide (lockM_ok (m := ofR C 1 l) hLP hC10)
      have hfne := free_ne (m := ofR C 1 l) hLP (show 0 < C by omega)
      have hik : InK C (lockM (ofR C 1 l) lot C) := hLO.out.rng
      have hlv := hide (lockV_ok hKe)
      have hlv2 : Hid (lockV (ofR C 1 (renL perm l)) C (lot.map (nameS perm)) = (lockM (ofR C 1 l) lot C).map (renG perm)) := by unfold Hid; rw [lockV_ok hKe2, lockM_ren HN.out hlot hoe]
      have hck : Hid (OkO C (rankO (lockM (ofR C 1 l) lot C) C lot)) := rankO_okO hfne hC10 hlot
      have hrun : Hid (rankR C 1 l 1 lot = rankO (lockM (ofR C 1 l) lot C) C lot) := by unfold Hid; rw [rankR_ok hE, Int.toNat_natCast]
      have hrun2 : Hid (rankR C 1 (renL perm l) 1 (lot.map (nameS perm)) = renO perm (rankO (lockM (ofR C 1 l) lot C) C lot)) := by unfold Hid; rw [rankR_ok hm2, Int.toNat_natCast, lockM_ren HN.out hlot hoe, rankO_ren HN.out hik hlot hfne]
      have hmay := hide hE
      have hmay2 := hide hm2
      have Hke := hide hKe
      have Hke2 := hide hKe2
      have Hc0 := hide hc0
      have Hc2 := hide hc2
      have Htp := hide htp
      generalize lockM (ofR C 1 l) lot C = lk at *
      generalize rankO lk C lot = o at hck hrun hrun2
      clear hcs hE hc0 hlot hpl hnpl htp hlen hc2 hlot2 hm2 p0 hrt hrt2 hLP hoe hKe hKe2 hfne hik
      subst hnp
      subst hnt
      go_wp2_with fail
      refine (pnames_any At np ct lot Ap np cpp perm _ (hl.below hbw0) (hp.below hbw0) Hlr.out (by omega)).mono ?_
      rintro e wa ⟨va, rfl, hOa, hba⟩
      obtain ⟨Aa, ca, rfl⟩ := hOa.slice
      have hRa := hOa.ints (fun x hx => by obtain ⟨y, hy, rfl⟩ := List.mem_map.1 hx; have := HN.out.name_in (Hlr.out y hy); omega)
      have hna : (lot.map (nameS perm)).length = np := by rw [List.length_map]; exact Hll.out
      rw [hna] at hRa ⊢
      clear hna hOa
      have hbwa := Below_trans' hbw0 hbw0.size hba
      replace hP := hP.below hba hP.lt
      clear hba hbw0
      have p0 := hP.cell 0
      have p1 := hP.cell 1
      have p2 := hP.cell 2
      go_wp2_with fail
      refine (prename_any np 1 A n cp l Ap np cpp perm wa (h.below hbwa) (hp.below hbwa) Hc0.out Htp.out rfl).mono ?_
      rintro e z1 ⟨Aq, nq, cq, rfl, hQ, hbz1⟩
      have hQr := hQ.rows
      dsimp only at hQr ⊢
      clear p0 p1 p2 hQ
      go_upto_region 5 with fail
      have hbz2 : Below z1.heap.size z1 (z1.alloc (.cells #[.int .i64 np, .int .u8 1, .slice Aq nq cq] 27)) := below_allocN
      have hX := Has.new z1 27 #[.int .i64 np, .int .u8 1, .slice Aq nq cq]
      generalize World.alloc z1 _ = z2 at hbz2 hX ⊢
      have hb02 := Below_trans' hbz1 hbz1.size hbz2
      have hbw2 := Below_trans' hbwa hbwa.size hb02
      have hP2 := hP.below hb02 hP.lt
      replace hRa := hRa.below hb02
      replace hQr := hQr.below hbz2
      have p0 := hP2.cell 0
      have p1 := hP2.cell 1
      have p2 := hP2.cell 2
      go_wp2_with fail
      refine (ranked_any np 1 A n cp l 1 At np ct lot z2 (h.below hbw2) (hl.below hbw2) (by omega)).mono ?_
      rintro e z3 ⟨Ae, ne, ce, Ar, nr, cr, Av, nv, cv, rfl, hO, hbz3⟩
      rw [hrun.out] at hO
      rw [hmay.out]
      clear p0 p1 p2
      go_upto_region 6 with fail
      have hbz4 : Below z3.heap.size z3 (z3.alloc (.cells #[.slice Ae ne ce, .slice Ar nr cr, .slice Av nv cv] 39)) := below_allocN
      have hY := Has.new z3 39 #[.slice Ae ne ce, .slice Ar nr cr, .slice Av nv cv]
      generalize World.alloc z3 _ = wr at hbz4 hY ⊢
      have hb24 := Below_trans' hbz3 hbz3.size hbz4
      have hbwr := Below_trans' hbw2 hbw2.size hb24
      have hOr := hO.below hbz4
      have hXr := hX.below hb24 hX.lt
      replace hQr := hQr.below hb24
      replace hRa := hRa.below hb24
      have hP2r := hP2.below hb24 hP2.lt
      have x0 := hXr.cell 0
      have x1 := hXr.cell 1
      have x2 := hXr.cell 2
      clear hO hX hP hP2 hbz1 hbz2 hb02 hbw2 hbz3 hbz4 hb24
      go_wp2_with fail
      refine (ranked_any np 1 Aq nq cq (renL perm l) 1 Aa np ca (lot.map (nameS perm)) wr hQr hRa (by omega)).mono ?_
      rintro e z5 ⟨Be, me, de, Br, mr, dr, Bv, mv, dv, rfl, hO2, hbz5⟩
      rw [hrun2.out] at hO2
      rw [hmay2.out]
      clear x0 x1 x2
      go_upto_region 7 with fail
      have hbz6 : Below z5.heap.size z5 (z5.alloc (.cells #[.slice Be me de, .slice Br mr dr, .slice Bv mv dv] 39)) := below_allocN
      have hN := Has.new z5 39 #[.slice Be me de, .slice Br mr dr, .slice Bv mv dv]
      generalize World.alloc z5 _ = wc at hbz6 hN ⊢
      have hbrc := Below_trans' hbz5 hbz5.size hbz6
      replace hO2 := hO2.below hbz6
      have hYc := hY.below hbrc hY.lt
      have hOc := hOr.below hbrc
      have hPb := hP2r.below hbrc hP2r.lt
      have hXb := hXr.below hbrc hXr.lt
      have hQc := hQr.below hbrc
      have hRc := hRa.below hbrc
      have hbwc := Below_trans' hbwr hbwr.size hbrc
      clear hY hOr hP2r hXr hQr hRa hbz5 hbz6 hbrc
      have hpo := pof_any np 1 A n cp l wc (h.below hbwc)
      unfold POfPost at hpo
      rw [Hc0.out] at hpo
      have y0 := hPb.cell 0
      have y1 := hPb.cell 1
      have y2 := hPb.cell 2
      go_wp2_with fail
      refine hpo.mono ?_
      rintro e d1 ⟨D, rfl, hD, hbd1⟩
      clear hpo y0 y1 y2
      have hDs := hD.size
      have hM2 : Has ((d1.alloc (.cells Tryz.zeroCells24 24)).setRow d1.heap.size D) d1.heap.size 24 D := (Has.new _ _ _).setRow _
      have hbd2 : Below d1.heap.size d1 ((d1.alloc (.cells Tryz.zeroCells24 24)).setRow d1.heap.size D) := below_setRow ((Below.refl _ _).alloc (Nat.le_refl _) _) (Nat.le_refl _) _
      go_upto_region 8 with (refine stMat rfl rfl rfl rfl (Has.new _ _ _) zeroMat.size hDs hD.one ?_)
      generalize World.setRow (World.alloc d1 _) _ _ = d2 at hM2 hbd2 ⊢
      have hbc2 := Below_trans' hbd1 hbd1.size hbd2
      have hpo := pof_any np 1 Aq nq cq (renL perm l) d2 (hQc.below hbc2)
      unfold POfPost at hpo
      rw [Hc2.out] at hpo
      have hXd := hXb.below hbc2 hXb.lt
      have y0 := hXd.cell 0
      have y1 := hXd.cell 1
      have y2 := hXd.cell 2
      go_wp2_with fail
      refine hpo.mono ?_
      rintro e d3 ⟨D2, rfl, hD2, hbd3⟩
      clear hpo y0 y1 y2
      have hDs2 := hD2.size
      have hM4 : Has ((d3.alloc (.cells Tryz.zeroCells24 24)).setRow d3.heap.size D2) d3.heap.size 24 D2 := (Has.new _ _ _).setRow _
      have hbd4 : Below d3.heap.size d3 ((d3.alloc (.cells Tryz.zeroCells24 24)).setRow d3.heap.size D2) := below_setRow ((Below.refl _ _).alloc (Nat.le_refl _) _) (Nat.le_refl _) _
      go_upto_region 9 with (refine stMat rfl rfl rfl rfl (Has.new _ _ _) zeroMat.size hDs2 hD2.one ?_)
      generalize World.setRow (World.alloc d3 _) _ _ = d4 at hM4 hbd4 ⊢
      have hb24 := Below_trans' hbd3 hbd3.size hbd4
      have hbc4 := Below_trans' hbc2 hbc2.size hb24
      have hMd4 := hM2.below hb24 hM2.lt
      have hPd4 := hPb.below hbc4 hPb.lt
      have hbw4 := Below_trans' hbwc hbwc.size hbc4
      have y0 := hPd4.cell 0
      go_wp2_with (refine ldMat rfl rfl rfl hMd4 hDs ?_)
      refine (lock_any D _ hD np At np ct lot d4 (hl.below hbw4) (by omega)).mono ?_
      rintro e d5 ⟨vL, rfl, hL5, hbd5⟩
      rw [hlv.out] at hL5
      rw [Hke.out]
      clear y0
      have hbc5 := Below_trans' hbc4 hbc4.size hbd5
      have hMd5 := hM4.below hbd5 hM4.lt
      have hPd5 := hPb.below hbc5 hPb.lt
      have y0 := hPd5.cell 0
      go_wp2_with (refine ldMat rfl rfl rfl hMd5 hDs2 ?_)
      refine (lock_any D2 _ hD2 np Aa np ca (lot.map (nameS perm)) d5 (hRc.below hbc5) (by omega)).mono ?_
      rintro e wk ⟨vM, rfl, hL6, hbd6⟩
      rw [hlv2.out] at hL6
      rw [Hke2.out]
      clear y0
      have hbck := Below_trans' hbc5 hbc5.size hbd6
      obtain ⟨AL, cL, rfl⟩ := hL5.slice
      have hRL := (hL5.below hbd6).reads
      obtain ⟨AM, cM, rfl⟩ := hL6.slice
      have hRM := hL6.reads
      rw [List.length_map] at hRM ⊢
      obtain ⟨N, hNN⟩ : ∃ N, lk.length = N := ⟨_, rfl⟩
      rw [hNN] at hRL hRM ⊢
      have HNN := hide hNN
      have hN45 : N ≤ 45 := by have := hLO.out.len; omega
      have hPk := hPb.below hbck hPb.lt
      have hNk := hN.below hbck hN.lt
      have hYk := hYc.below hbck hYc.lt
      have hOk := hOc.below hbck
      have hO2k := hO2.below hbck
      have hbwk := Below_trans' hbwc hbwc.size hbck
      have hPek := hp.below hbwk
      clear hNN hL5 hL6 hPb hXb hQc hRc hN hYc hOc hO2 hM2 hM4 hMd4 hMd5 hXd hPd4 hPd5 hbd1 hbd2 hbd3 hbd4 hbd5 hbd6 hbc2 hb24 hbc4 hbc5 hbck hbw4 hlv hlv2 Hke Hke2 hmay hmay2
      obtain ⟨bp, op, eAp, hpc⟩ := hPek.2.2.2.2 (by omega)
      have Hpc : Hid (∀ X : Nat, X < np → wk.cell? ⟨bp, op + X, none⟩ = some (.int .i64 (nm perm X : Nat))) := fun X hX => by
        rw [hpc X hX, nm_cast HN.out hX]; rfl
      subst eAp
      clear hpc
      have hNe : (N != N) = false := by simp
      go_wp2_with fail
      go_loopw [22] (fun i wr => ∃ i' : Nat, i' ≤ N ∧ i = .int .i64 i' ∧ Below wk.heap.size wk wr) (fun i _ => N - (intOf i).toNat)
      case atStart => exact ⟨0, Nat.zero_le _, rfl, Below.refl _ _⟩
      case round =>
        obtain ⟨i, hi, rfl, hb1⟩ := hrel
        obtain ⟨wo, rfl⟩ : ∃ wo : World, wo = wr := ⟨_, rfl⟩
        by_cases hlt : i < N
        · obtain ⟨b, off, x, y, mg, f, rfl, c0, c1, c2, c3, hat, h64⟩ := (hRL.below below_lnk hb1).lnk hlt
          obtain ⟨b', off', x', y', mg', f', rfl, d0, d1, d2, d3, hat', h64'⟩ := (hRM.below below_lnk hb1).lnk hlt
          have hrk := hLO.out.rng _ (List.mem_of_getElem? hat.out)
          simp only at hrk
          have hee := hat'.out
          rw [List.getElem?_map, hat.out] at hee
          simp only [Option.map_some, Option.some.injEq, renG, Prod.mk.injEq] at hee
          obtain ⟨e1', e2', e3', e4'⟩ := hee
          obtain ⟨X, rfl⟩ : ∃ X : Nat, x = (X : Int) := ⟨x.toNat, by omega⟩
          obtain ⟨Y, rfl⟩ : ∃ Y : Nat, y = (Y : Int) := ⟨y.toNat, by omega⟩
          have hXC : X < np := by omega
          have hYC : Y < np := by omega
          rw [← nm_cast HN.out hXC] at e1'
          rw [← nm_cast HN.out hYC] at e2'
          subst e1' e2' e3' e4'
          have q1 := keep_cell hb1 (Hpc.out X hXC)
          have q2 := keep_cell hb1 (Hpc.out Y hYC)
          clear hat hat' h64 h64' hrk
          generalize nm perm X = U at *
          generalize nm perm Y = V at *
          have n1 : decide ((X : Int) < 0) = false := decide_eq_false (by omega)
          have n2 : decide ((Y : Int) < 0) = false := decide_eq_false (by omega)
          have n3 : ¬ (np : Int) ≤ (X : Int) := by omega
          have n4 : ¬ (np : Int) ≤ (Y : Int) := by omega
          have n5 : decide ((np : Int) ≤ (X : Int)) = false := decide_eq_false (by omega)
          have n6 : decide ((np : Int) ≤ (Y : Int)) = false := decide_eq_false (by omega)
          have hba : Below wo.heap.size wo (wo.alloc (.cells #[.int .i64 (X : Int), .int .i64 (Y : Int), .int .i64 mg, .int .i64 f] 49)) := (Below.refl _ _).alloc (Nat.le_refl _) _
          have hkn := Has.new wo 49 #[.int .i64 (X : Int), .int .i64 (Y : Int), .int .i64 mg, .int .i64 f]
          go_upto_region 17 with fail
          generalize World.alloc wo _ = W2 at *
          have k0 := hkn.cell 0
          have k1 := hkn.cell 1
          have k2 := hkn.cell 2
          have k3 := hkn.cell 3
          replace q1 := keep_cell hba q1
          replace q2 := keep_cell hba q2
          replace d0 := keep_cell hba d0
          replace d1 := keep_cell hba d1
          replace d2 := keep_cell hba d2
          replace d3 := keep_cell hba d3
          have hb2 := Below_trans' hb1 hb1.size hba
          have p0 := (hPk.below hb2 hPk.lt).cell 0
          clear c0 c1 c2 c3
          refine wp_region_more (by kernel_rfl) (by kernel_rfl) ?_
          repeat (go_big_quiet_step (fail))
          refine wpQuiet_nil ?_
          rintro w3 ⟨qw3, hww3⟩
          have hbw3 := below_of_eq hww3
          clear hww3 qw3
          have hb3 := Below_trans' hb2 hb2.size hbw3
          clear q1 q2 d0 d1 d2 d3 k0 k1 k2 k3 p0
          go_wp2
          go_roundw
          case rel => exact ⟨i + 1, by omega, by go_num, hb3⟩
          case measure => simp [intOf] <;> omega
        · obtain rfl : i = N := by omega
          have hNo := hNk.below hb1 hNk.lt
          have hYo := hYk.below hb1 hYk.lt
          have u0 := hNo.cell 0
          have u1 := hNo.cell 1
          have u2 := hNo.cell 2
          have v0 := hYo.cell 0
          have v1 := hYo.cell 1
          have v2 := hYo.cell 2
          have hbwo := Below_trans' hbwk hbwk.size hb1
          go_upto_region 19 with fail
          refine wp_region_flowz [0, 1, 2] [0, 1, 2, 5] (fun w' => ∃ q, w' = More wo q) (by kernel_rfl) (by kernel_rfl) (below_more ((Below.refl wo.heap.size wo).drew)) ?_
          simp only [pickOps, List.getElem?_cons_zero, List.getElem?_cons_succ]
          repeat (go_big_quiet_step (fail))
          refine wpQuiet_nil ?_
          have hdr : Below wo.heap.size wo wo.drew := (Below.refl _ _).drew
          clear u0 u1 u2 v0 v1 v2
          refine flow_one 3 (by kernel_rfl) rfl ?_
          go_wp2_with fail
          refine (renamed_any Ae ne ce Ar nr cr Av nv cv o _ np cpp perm _ ((hOk.below hb1).below hdr) ((hPek.below hb1).below hdr) HN.out hck.out).mono ?_
          rintro e wd ⟨Ce, ke, le, Cr, kr, lr, Cv, kv, lv, rfl, hO3, hbd⟩
          have hbcd : Below wo.heap.size wo wd := Below_trans' hdr (Nat.le_refl _) hbd
          go_wp2
          refine FlowPost.mk ⟨below_more hbcd, ?_⟩
          refine flow_one 4 (by kernel_rfl) rfl ?_
          go_wp2_with fail
          refine (same_eq Be me de Br mr dr Bv mv dv Ce ke le Cr kr lr Cv kv lv (renO perm o) wd ((hO2k.below hb1).below hbcd) hO3).mono ?_
          rintro e we ⟨rfl, hbe⟩
          have hbce := Below_trans' hbcd hbcd.size hbe
          go_wp2
          refine FlowPost.mk ⟨below_more hbce, ?_⟩
          refine flow_pure [5] (by kernel_rfl) (below_more hbce) ?_
          simp only [pickOps, List.getElem?_cons_zero, List.getElem?_cons_succ]
          repeat (go_big_quiet_step (fail))
          refine wpQuiet_nil ?_
          refine flow_one 6 (by kernel_rfl) rfl ?_
          go_wp2_with fail
          refine (wakes14_any _).mono ?_
          rintro e wf ⟨rfl, hbf⟩
          have hbcf := Below_trans' hbce hbce.size hbf
          go_wp2
          refine FlowPost.mk ⟨below_more hbcf, ?_⟩
          refine flow_rest [7, 8] (by kernel_rfl) ?_
          simp only [pickOps, List.getElem?_cons_zero, List.getElem?_cons_succ]
          go_wp2
          go_ret
          exact ⟨rfl, Below_trans' hbwo hbwo.size hbcf⟩
  · have e1 : (mayS c k l 1 1 1 lot == 0) = false := by simp [hE]
    clear hE
    go_wp2_with fail
    refine (wakes14_any _).mono ?_
    rintro e w9 ⟨rfl, hb9⟩
    go_wp2
    go_ret
    exact ⟨rfl, Below_trans' hbw0 (hbw0).size hb9⟩
end Go.Proofs.YtolbceckbnifmaaGreat
