/-
  The law CondorcetNames.
-/
import Derived.Test.YtkhclcdmehjfkaaGreatSpecCn
import Derived.Test.YtkhclcdmehjfkaaGreatW11r
import Derived.Test.YtkhclcdmehjfkaaGreatW9o
import Derived.Test.YtkhclcdmehjfkaaGreatW12h
import Derived.Test.YtkhclcdmehjfkaaGreatFlow2
import Derived.Deep.CutRange
namespace Go.Proofs.YtkhclcdmehjfkaaGreat
open Go.RowKit Go.Proofs Go.Shelf
attribute [local go_sem] cell?_more cell?_alloc_some cell?_setCell_far frozen?_alloc_some frozen?_more
/-- The outcome is one that names know. -/
theorem mostO_okO {f : Int → Int} {g : Int → Rat3} {C : Nat} {lot : List Int} (hC1 : 1 ≤ C) (hC : C ≤ 10) (hlot : lotS lot C = true) : OkO C (mostO f g C lot) := by
  have hsub := bestS_sub f (rangeI C)
  have hr := (inR_range C).sub hsub
  have hne : bestS f (rangeI C) ≠ [] := bestS_ne (fun e => by have := congrArg List.length e; rw [length_rangeI] at this; simp at this; omega)
  have hx := hr _ (frst_mem hne fun x hx => lot_in hlot (hsub.subset hx))
  have h1 : InR C [frstS lot (bestS f (rangeI C))] := fun y hy => by rw [List.mem_singleton.1 hy]; exact hx
  have hlen : (bestS f (rangeI C)).length ≤ 1000 := by have := hsub.length_le; rw [length_rangeI] at this; omega
  unfold mostO
  refine ⟨h1, by simp, fun r hr' => ?_, by simp, fun t ht => ?_, ?_⟩
  · rw [List.mem_singleton.1 hr']
    exact ⟨by simp [length_rangeI], h1, by simp, fun y hy => by simp at hy, by simp⟩
  · unfold tiedS at ht
    split at ht
    · simp at ht
    · rw [List.nil_append, List.mem_singleton] at ht
      rw [ht]; exact ⟨hr, hlen, hx.1, hx.2⟩
  · show (tiedS [] _ _).length ≤ 100
    unfold tiedS
    split <;> simp

set_option maxRecDepth 100000 in
set_option maxHeartbeats 4000000 in
theorem condorcetNames_any (c k : Int) (A : Option Addr) (n cp : Nat) (l : List Row) (At : Option Addr) (nt ct : Nat) (lot : List Int) (Ap : Option Addr) (np cpp : Nat) (perm : List Int) (w : World) (h : RRows w A n cp l) (hl : RInts w At nt ct lot) (hp : RInts w Ap np cpp perm) :
    Calls Tryz.prog 13 #[.agg #[.int .i64 c, .int .u8 k, .slice A n cp], .slice At nt ct, .slice Ap np cpp] w fun e w' => e = .returned (.bool true) ∧ Below w.heap.size w w' := by
  have hb : Below w.heap.size w (w.alloc (.cells #[.int .i64 c, .int .u8 k, .slice A n cp] 28)) := below_allocN
  have hP := Has.new w 28 #[.int .i64 c, .int .u8 k, .slice A n cp]
  generalize hW : World.alloc w _ = W0 at hb hP
  have p0 := hP.cell 0
  have p1 := hP.cell 1
  have p2 := hP.cell 2
  go_enter Tryz.func13, Tryz.ntmps13
  go_wp2_with fail
  try simp only [hW]
  clear hW
  refine (may12_any c k A n cp l At nt ct lot W0 (h.below hb) (hl.below hb)).mono ?_
  rintro e z0 ⟨rfl, hbz0⟩
  have hbw0 := Below_trans' hb hb.size hbz0
  replace hP := hP.below hbz0 hP.lt
  clear p0 p1 p2
  by_cases hE : mayS c k l 1 1 1 lot = 0
  · have e1 : (mayS c k l 1 1 1 lot == 0) = true := by simp [hE]
    have p0 := hP.cell 0
    go_wp2_with fail
    refine (rlot_any Ap np cpp perm c z0 (hp.below hbw0)).mono ?_
    rintro e w' ⟨rfl, rfl⟩
    cases hpl : lotS perm c with
    | false =>
      clear hE p0
      go_wp2_with fail
      refine (wakes12_any _).mono ?_
      rintro e w9 ⟨rfl, hb9⟩
      go_wp2
      go_ret
      exact ⟨rfl, Below_trans' hbw0 (hbw0).size hb9⟩
    | true =>
      obtain ⟨hc0, hk0, _, _, _, hlot⟩ := may_zero hE
      subst hk0
      have hcs := check_ok hc0
      obtain ⟨C, rfl⟩ : ∃ C : Nat, c = (C : Int) := ⟨c.toNat, by omega⟩
      have hnpl := lot_len hpl
      have hnp : np = C := by have := hp.len; omega
      have htp : turnedS perm = true := by unfold lotS at hpl; rw [Bool.and_eq_true] at hpl; exact hpl.2
      have HN := hide (names_of htp hnpl)
      have hlen := hl.len
      have hnt : C = nt := by have := lot_len hlot; omega
      have Hll := hide hlen
      have hC10 := (rank_ok hc0).c10
      have hC1 := (rank_ok hc0).c1
      have Hlr := hide (lot_in_range hlot)
      have hrt := hide (ofR_right (k := 1) hc0 (c' := (C : Int)) (Int.le_refl _) (by omega))
      have Hse := hide (smithErr_ok hrt.out)
      have hc2 : checkS C 1 (renL perm l) = 0 := ren_check HN.out hc0
      have hrt2 := hide (ofR_right (k := 1) hc2 (c' := (C : Int)) (Int.le_refl _) (by omega))
      have Hse2 := hide (smithErr_ok hrt2.out)
      have hoe : Hid (∀ x y : Nat, x < C → y < C → ofR C 1 (renL perm l) (nm perm x) (nm perm y) = ofR C 1 l x y) := fun x y hx hy => ren_ofR HN.out hc0 hx hy
      have hsm := smithS_ok (m := ofR C 1 l) (show 0 < C by omega)
      have hsv := smithV_ok hrt.out hsm
      have hTr : Hid (InR C (smithV (ofR C 1 l) C)) := by unfold Hid; rw [hsv]; exact (inR_range C).sub hsm.dom.sub
      have hTn : Hid (smithV (ofR C 1 l) C).Nodup := by unfold Hid; rw [hsv]; exact (nodup_rangeI C).sublist hsm.dom.sub
      have hTe := hide (smithV_ren HN.out hoe.out hrt.out hrt2.out)
      clear hsm hsv
      have hck1 : Hid (OkO C (copO (ofR C 1 l) C lot)) := mostO_okO hC1 hC10 hlot
      have hck2 : Hid (OkO C (minO (ofR C 1 l) C lot)) := mostO_okO hC1 hC10 hlot
      have hcr1 : Hid (copO (ofR C 1 (renL perm l)) C (lot.map (nameS perm)) = renO perm (copO (ofR C 1 l) C lot)) := mostO_ren HN.out hlot (copF_ren HN.out hoe.out)
      have hcr2 : Hid (minO (ofR C 1 (renL perm l)) C (lot.map (nameS perm)) = renO perm (minO (ofR C 1 l) C lot)) := mostO_ren HN.out hlot (worF_ren HN.out hoe.out)
      have hlot2 := lot_ren HN.out hlot
      have hm2 : mayS C 1 (renL perm l) 1 1 1 (lot.map (nameS perm)) = 0 := may_ok hc2 rfl (fun hh => by rcases hh with h | h | h | h; omega; omega; omega; rw [hlot2] at h; cases h)
      have hrun1 : Hid (copR C 1 l 1 lot = copO (ofR C 1 l) C lot) := by unfold Hid; rw [copR_ok hE, Int.toNat_natCast]
      have hrun2 : Hid (copR C 1 (renL perm l) 1 (lot.map (nameS perm)) = renO perm (copO (ofR C 1 l) C lot)) := by unfold Hid; rw [copR_ok hm2, Int.toNat_natCast]; exact hcr1.out
      have hrun3 : Hid (minR C 1 l 1 lot = minO (ofR C 1 l) C lot) := by unfold Hid; rw [minR_ok hE, Int.toNat_natCast]
      have hrun4 : Hid (minR C 1 (renL perm l) 1 (lot.map (nameS perm)) = renO perm (minO (ofR C 1 l) C lot)) := by unfold Hid; rw [minR_ok hm2, Int.toNat_natCast]; exact hcr2.out
      have hmay := hide hE
      have hmay2 := hide hm2
      have Hc0 := hide hc0
      have Hc2 := hide hc2
      have Htp := hide htp
      generalize copO (ofR C 1 l) C lot = o1 at hck1 hrun1 hrun2 hcr1
      generalize minO (ofR C 1 l) C lot = o2 at hck2 hrun3 hrun4 hcr2
      clear hcs hE hc0 hlot hpl hnpl htp hlen hc2 hlot2 hm2 p0
      subst hnp
      subst hnt
      have p0 := hP.cell 0
      have p1 := hP.cell 1
      have p2 := hP.cell 2
      go_wp2_with fail
      refine (prename_any np 1 A n cp l Ap np cpp perm z0 (h.below hbw0) (hp.below hbw0) Hc0.out Htp.out rfl).mono ?_
      rintro e z1 ⟨Aq, nq, cq, rfl, hQ0, hbz1⟩
      have hQ := hQ0.rows
      dsimp only at hQ ⊢
      clear p0 p1 p2 hQ0
      go_upto_region 4 with fail
      have hbz2 : Below z1.heap.size z1 (z1.alloc (.cells #[.int .i64 np, .int .u8 1, .slice Aq nq cq] 28)) := below_allocN
      have hX := Has.new z1 28 #[.int .i64 np, .int .u8 1, .slice Aq nq cq]
      generalize World.alloc z1 _ = w2 at hbz2 hX ⊢
      have hb02 := Below_trans' hbz1 hbz1.size hbz2
      have hbw2 := Below_trans' hbw0 hbw0.size hb02
      have hP2 := hP.below hb02 hP.lt
      replace hQ := hQ.below hbz2
      have hLr := hl.below hbw2
      have hPr := hp.below hbw2
      go_wp2_with fail
      refine (pnames_any At np ct lot Ap np cpp perm w2 hLr hPr Hlr.out (by omega)).mono ?_
      rintro e w3 ⟨va, rfl, hOa, hb3⟩
      obtain ⟨Aa, ca, rfl⟩ := hOa.slice
      have hRa := hOa.ints (fun x hx => by obtain ⟨y, hy, rfl⟩ := List.mem_map.1 hx; have := HN.out.name_in (Hlr.out y hy); omega)
      have hna : (lot.map (nameS perm)).length = np := by rw [List.length_map]; exact Hll.out
      rw [hna] at hRa ⊢
      have hbw3 := Below_trans' hbw2 hbw2.size hb3
      have hP3 := hP2.below hb3 hP2.lt
      have hX3 := hX.below hb3 hX.lt
      replace hQ := hQ.below hb3
      clear hna hOa hLr hPr hP2 hX hP hb3
      have p0 := hP3.cell 0
      have p1 := hP3.cell 1
      have p2 := hP3.cell 2
      go_wp2_with fail
      refine (copeland_any np 1 A n cp l 1 At np ct lot w3 (h.below hbw3) (hl.below hbw3) (by omega)).mono ?_
      rintro e w4 ⟨E5, ne5, ce5, R5, nr5, cr5, V5, nv5, cv5, rfl, hO5, hb4⟩
      rw [hrun1.out] at hO5
      rw [hmay.out]
      clear p0 p1 p2
      go_upto_region 6 with fail
      have hbB : Below w4.heap.size w4 (w4.alloc (.cells #[.slice E5 ne5 ce5, .slice R5 nr5 cr5, .slice V5 nv5 cv5] 38)) := below_allocN
      have hB5 := Has.new w4 38 #[.slice E5 ne5 ce5, .slice R5 nr5 cr5, .slice V5 nv5 cv5]
      generalize World.alloc w4 _ = w5 at hbB hB5 ⊢
      replace hO5 := hO5.below hbB
      have hg3 := Below_trans' hb4 hb4.size hbB
      clear hb4 hbB
      have hbw5 := Below_trans' hbw3 hbw3.size hg3
      have hP5 := hP3.below hg3 hP3.lt
      have hX5 := hX3.below hg3 hX3.lt
      replace hQ := hQ.below hg3
      clear hP3 hX3
      replace hRa := hRa.below hg3
      clear hg3
      have p0 := hX5.cell 0
      have p1 := hX5.cell 1
      have p2 := hX5.cell 2
      go_wp2_with fail
      refine (copeland_any np 1 Aq nq cq (renL perm l) 1 Aa np ca (lot.map (nameS perm)) w5 hQ hRa (by omega)).mono ?_
      rintro e w6 ⟨E6, ne6, ce6, R6, nr6, cr6, V6, nv6, cv6, rfl, hO6, hb6⟩
      rw [hrun2.out] at hO6
      rw [hmay2.out]
      clear p0 p1 p2
      go_upto_region 7 with fail
      have hbB : Below w6.heap.size w6 (w6.alloc (.cells #[.slice E6 ne6 ce6, .slice R6 nr6 cr6, .slice V6 nv6 cv6] 38)) := below_allocN
      have hB6 := Has.new w6 38 #[.slice E6 ne6 ce6, .slice R6 nr6 cr6, .slice V6 nv6 cv6]
      generalize World.alloc w6 _ = w7 at hbB hB6 ⊢
      replace hO6 := hO6.below hbB
      have hg5 := Below_trans' hb6 hb6.size hbB
      clear hb6 hbB
      have hbw7 := Below_trans' hbw5 hbw5.size hg5
      have hP7 := hP5.below hg5 hP5.lt
      have hX7 := hX5.below hg5 hX5.lt
      replace hQ := hQ.below hg5
      clear hP5 hX5
      replace hRa := hRa.below hg5
      replace hO5 := hO5.below hg5
      replace hB5 := hB5.below hg5 hB5.lt
      clear hg5
      have p0 := hP7.cell 0
      have p1 := hP7.cell 1
      have p2 := hP7.cell 2
      go_wp2_with fail
      refine (minimax_any np 1 A n cp l 1 At np ct lot w7 (h.below hbw7) (hl.below hbw7) (by omega)).mono ?_
      rintro e w8 ⟨E7, ne7, ce7, R7, nr7, cr7, V7, nv7, cv7, rfl, hO7, hb8⟩
      rw [hrun3.out] at hO7
      rw [hmay.out]
      clear p0 p1 p2
      go_upto_region 8 with fail
      have hbB : Below w8.heap.size w8 (w8.alloc (.cells #[.slice E7 ne7 ce7, .slice R7 nr7 cr7, .slice V7 nv7 cv7] 38)) := below_allocN
      have hB7 := Has.new w8 38 #[.slice E7 ne7 ce7, .slice R7 nr7 cr7, .slice V7 nv7 cv7]
      generalize World.alloc w8 _ = w9 at hbB hB7 ⊢
      replace hO7 := hO7.below hbB
      have hg7 := Below_trans' hb8 hb8.size hbB
      clear hb8 hbB
      have hbw9 := Below_trans' hbw7 hbw7.size hg7
      have hP9 := hP7.below hg7 hP7.lt
      have hX9 := hX7.below hg7 hX7.lt
      replace hQ := hQ.below hg7
      clear hP7 hX7
      replace hRa := hRa.below hg7
      replace hO5 := hO5.below hg7
      replace hB5 := hB5.below hg7 hB5.lt
      replace hO6 := hO6.below hg7
      replace hB6 := hB6.below hg7 hB6.lt
      clear hg7
      have p0 := hX9.cell 0
      have p1 := hX9.cell 1
      have p2 := hX9.cell 2
      go_wp2_with fail
      refine (minimax_any np 1 Aq nq cq (renL perm l) 1 Aa np ca (lot.map (nameS perm)) w9 hQ hRa (by omega)).mono ?_
      rintro e w10 ⟨E8, ne8, ce8, R8, nr8, cr8, V8, nv8, cv8, rfl, hO8, hb10⟩
      rw [hrun4.out] at hO8
      rw [hmay2.out]
      clear p0 p1 p2
      go_upto_region 9 with fail
      have hbB : Below w10.heap.size w10 (w10.alloc (.cells #[.slice E8 ne8 ce8, .slice R8 nr8 cr8, .slice V8 nv8 cv8] 38)) := below_allocN
      have hB8 := Has.new w10 38 #[.slice E8 ne8 ce8, .slice R8 nr8 cr8, .slice V8 nv8 cv8]
      generalize World.alloc w10 _ = w11 at hbB hB8 ⊢
      replace hO8 := hO8.below hbB
      have hg9 := Below_trans' hb10 hb10.size hbB
      clear hb10 hbB
      have hbw11 := Below_trans' hbw9 hbw9.size hg9
      have hP11 := hP9.below hg9 hP9.lt
      have hX11 := hX9.below hg9 hX9.lt
      replace hQ := hQ.below hg9
      clear hP9 hX9
      replace hRa := hRa.below hg9
      replace hO5 := hO5.below hg9
      replace hB5 := hB5.below hg9 hB5.lt
      replace hO6 := hO6.below hg9
      replace hB6 := hB6.below hg9 hB6.lt
      replace hO7 := hO7.below hg9
      replace hB7 := hB7.below hg9 hB7.lt
      clear hg9
      clear hRa
      have hpo := pof_any np 1 A n cp l w11 (h.below hbw11)
      unfold POfPost at hpo
      rw [Hc0.out] at hpo
      have y0 := hP11.cell 0
      have y1 := hP11.cell 1
      have y2 := hP11.cell 2
      go_wp2_with fail
      refine hpo.mono ?_
      rintro e d1 ⟨D, rfl, hD, hbd1⟩
      clear hpo y0 y1 y2
      have hDs := hD.size
      have hM2 : Has ((d1.alloc (.cells Tryz.zeroCells24 24)).setRow d1.heap.size D) d1.heap.size 24 D := (Has.new _ _ _).setRow _
      have hbd2 : Below d1.heap.size d1 ((d1.alloc (.cells Tryz.zeroCells24 24)).setRow d1.heap.size D) := below_setRow ((Below.refl _ _).alloc (Nat.le_refl _) _) (Nat.le_refl _) _
      go_upto_region 10 with (refine stMat rfl rfl rfl rfl (Has.new _ _ _) zeroMat.size hDs hD.one ?_)
      generalize World.setRow (World.alloc d1 _) _ _ = d2 at hM2 hbd2 ⊢
      have hbc2 := Below_trans' hbd1 hbd1.size hbd2
      have hpo := pof_any np 1 Aq nq cq (renL perm l) d2 (hQ.below hbc2)
      unfold POfPost at hpo
      rw [Hc2.out] at hpo
      have hXd := hX11.below hbc2 hX11.lt
      have y0 := hXd.cell 0
      have y1 := hXd.cell 1
      have y2 := hXd.cell 2
      go_wp2_with fail
      refine hpo.mono ?_
      rintro e d3 ⟨D2, rfl, hD2, hbd3⟩
      clear hpo y0 y1 y2
      have hDs2 := hD2.size
      have hM4 : Has ((d3.alloc (.cells Tryz.zeroCells24 24)).setRow d3.heap.size D2) d3.heap.size 24 D2 := (Has.new _ _ _).setRow _
      have hbd4 : Below d3.heap.size d3 ((d3.alloc (.cells Tryz.zeroCells24 24)).setRow d3.heap.size D2) := below_setRow ((Below.refl _ _).alloc (Nat.le_refl _) _) (Nat.le_refl _) _
      go_upto_region 11 with (refine stMat rfl rfl rfl rfl (Has.new _ _ _) zeroMat.size hDs2 hD2.one ?_)
      generalize World.setRow (World.alloc d3 _) _ _ = d4 at hM4 hbd4 ⊢
      have hb24 := Below_trans' hbd3 hbd3.size hbd4
      have hbc4 := Below_trans' hbc2 hbc2.size hb24
      have hMd4 := hM2.below hb24 hM2.lt
      have hPd4 := hP11.below hbc4 hP11.lt
      have y0 := hPd4.cell 0
      go_wp2_with (refine ldMat rfl rfl rfl hMd4 hDs ?_)
      refine (smith_any D _ hD np d4).mono ?_
      rintro e d5 ⟨vs, rfl, hOs, hbd5⟩
      clear y0
      rw [Hse.out]
      have hMd5 := hM4.below hbd5 hM4.lt
      have hPd5 := hPd4.below hbd5 hPd4.lt
      have y0 := hPd5.cell 0
      obtain ⟨As, cs, rfl⟩ := hOs.slice
      have hRs := hOs.ints fun x hx => by have := hTr.out x hx; omega
      clear hOs
      go_wp2_with (refine ldMat rfl rfl rfl hMd5 hDs2 ?_)
      refine (smith_any D2 _ hD2 np d5).mono ?_
      rintro e wk ⟨vt, rfl, hOt, hbd6⟩
      clear y0
      rw [Hse2.out]
      rw [hTe.out] at hOt
      have hTl := img_len HN.out hTr.out hTn.out
      have hIr := (inR_range np).sub (img_sub perm np (smithV (ofR np 1 l) np))
      have hIn : Hid (∀ X : Nat, X < np → inL (imgS perm np (smithV (ofR np 1 l) np)) (nm perm X : Nat) = inL (smithV (ofR np 1 l) np) X) := fun X hX => by
        rw [nm_cast HN.out hX]; exact inL_img HN.out hTr.out ⟨by omega, by omega⟩
      generalize imgS perm np (smithV (ofR np 1 l) np) = T2 at hOt hTl hIn hTe hIr ⊢
      generalize smithV (ofR np 1 l) np = T at *
      obtain ⟨As2, cs2, rfl⟩ := hOt.slice
      have hRt := hOt.ints fun x hx => by have := hIr x hx; omega
      clear hOt
      rw [hTl] at hRt ⊢
      generalize T.length = nT at hRs hRt ⊢
      have hb4k := Below_trans' hbd5 hbd5.size hbd6
      have hbck := Below_trans' hbc4 hbc4.size hb4k
      have hPk := hP11.below hbck hP11.lt
      have hbwk := Below_trans' hbw11 hbw11.size hbck
      have hPek := hp.below hbwk
      have hRsk := hRs.below hbd6
      have hO5k := hO5.below hbck
      have hO6k := hO6.below hbck
      have hO7k := hO7.below hbck
      have hO8k := hO8.below hbck
      have hB5k := hB5.below hbck hB5.lt
      have hB6k := hB6.below hbck hB6.lt
      have hB7k := hB7.below hbck hB7.lt
      have hB8k := hB8.below hbck hB8.lt
      clear hO5 hO6 hO7 hO8 hB5 hB6 hB7 hB8 hP11 hX11 hQ hXd hPd4 hPd5 hMd4 hMd5 hM2 hM4 hbd1 hbd2 hbd3 hbd4 hbd5 hbd6 hbc2 hb24 hbc4 hb4k hRs hIr hTl
      obtain ⟨bp, op, eAp, hpc⟩ := hPek.2.2.2.2 (by omega)
      have Hpc : Hid (∀ X : Nat, X < np → wk.cell? ⟨bp, op + X, none⟩ = some (.int .i64 (nm perm X : Nat))) := fun X hX => by
        rw [hpc X hX, nm_cast HN.out hX]; rfl
      subst eAp
      clear hpc
      go_upto_region 16 with fail
      go_loopw [26] (fun i wr => ∃ X : Nat, X ≤ np ∧ i = .int .i64 X ∧ Below wk.heap.size wk wr) (fun i _ => np - (intOf i).toNat)
      case atStart => exact ⟨0, Nat.zero_le _, rfl, Below.refl _ _⟩
      case round =>
        obtain ⟨X, hXl, rfl, hb1⟩ := hrel
        obtain ⟨wo, rfl⟩ : ∃ wo : World, wo = wr := ⟨_, rfl⟩
        have hPo := hPk.below hb1 hPk.lt
        have p0 := hPo.cell 0
        by_cases hXC : X < np
        · have hR1 := hRsk.below hb1
          have hR2 := hRt.below hb1
          have q1 := keep_cell hb1 (Hpc.out X hXC)
          have hi := hIn.out X hXC
          have hI1 : ∀ q, Calls Tryz.prog 35 #[.slice As nT cs, .int .i64 (X : Int)] (More wo q) fun e w' => e = .returned (.bool (inL T X)) ∧ More wo q = w' := fun q => in_any As nT cs T X _ (hR1.more _)
          have hI2 : ∀ q, Calls Tryz.prog 35 #[.slice As2 nT cs2, .int .i64 (nm perm X : Nat)] (More wo q) fun e w' => e = .returned (.bool (inL T X)) ∧ More wo q = w' := fun q => by
            have := in_any As2 nT cs2 T2 (nm perm X : Nat) _ (hR2.more q)
            rwa [hi] at this
          generalize inL T X = bi at hI1 hI2
          generalize nm perm X = U at q1 hI2
          clear hi hR1 hR2
          have f1 : (bi != bi) = false := by simp
          go_upto_region 18 with fail
          refine wp_region_more (by kernel_rfl) (by kernel_rfl) ?_
          repeat (go_big_quiet_step ((go_at_call 35; first | with_reducible exact more_same (hI1 _) | with_reducible exact more_same (hI2 _))))
          refine wpQuiet_nil ?_
          rintro w2x ⟨qw2x, hww2x⟩
          have hbw2x := below_of_eq hww2x
          clear hww2x qw2x
          clear hI1 hI2 q1
          go_wp2
          go_roundw
          case rel => exact ⟨X + 1, by omega, by go_num, Below_trans' hb1 hb1.size hbw2x⟩
          case measure => simp [intOf] <;> omega
        · obtain rfl : np = X := by omega
          have hbwo := Below_trans' hbwk hbwk.size hb1
          have u0 := (hB5k.below hb1 hB5k.lt).cell 0
          have u1 := (hB5k.below hb1 hB5k.lt).cell 1
          have u2 := (hB5k.below hb1 hB5k.lt).cell 2
          have v0 := (hB6k.below hb1 hB6k.lt).cell 0
          have v1 := (hB6k.below hb1 hB6k.lt).cell 1
          have v2 := (hB6k.below hb1 hB6k.lt).cell 2
          have y0 := (hB7k.below hb1 hB7k.lt).cell 0
          have y1 := (hB7k.below hb1 hB7k.lt).cell 1
          have y2 := (hB7k.below hb1 hB7k.lt).cell 2
          have z0 := (hB8k.below hb1 hB8k.lt).cell 0
          have z1 := (hB8k.below hb1 hB8k.lt).cell 1
          have z2 := (hB8k.below hb1 hB8k.lt).cell 2
          go_upto_region 20 with fail
          clear p0
          refine wp_region_flowz [0, 1, 2] [0, 1, 2, 5, 6, 7, 8, 11, 12] (fun w' => ∃ q, w' = More wo q) (by kernel_rfl) (by kernel_rfl) (below_more ((Below.refl wo.heap.size wo).drew)) ?_
          simp only [pickOps, List.getElem?_cons_zero, List.getElem?_cons_succ]
          repeat (go_big_quiet_step (fail))
          refine wpQuiet_nil ?_
          have hdr : Below wo.heap.size wo wo.drew := (Below.refl _ _).drew
          clear u0 u1 u2 v0 v1 v2
          refine flow_one 3 (by kernel_rfl) rfl ?_
          go_wp2_with fail
          refine (renamed_any E5 ne5 ce5 R5 nr5 cr5 V5 nv5 cv5 o1 _ np cpp perm _ ((hO5k.below hb1).below hdr) ((hPek.below hb1).below hdr) HN.out hck1.out).mono ?_
          rintro e wd ⟨Ce, ke, le, Cr, kr, lr, Cv, kv, lv, rfl, hO3, hbd⟩
          have hbcd : Below wo.heap.size wo wd := Below_trans' hdr (Nat.le_refl _) hbd
          go_wp2
          refine FlowPost.mk ⟨below_more hbcd, ?_⟩
          refine flow_one 4 (by kernel_rfl) rfl ?_
          go_wp2_with fail
          refine (same_eq E6 ne6 ce6 R6 nr6 cr6 V6 nv6 cv6 Ce ke le Cr kr lr Cv kv lv (renO perm o1) wd ((hO6k.below hb1).below hbcd) hO3).mono ?_
          rintro e we ⟨rfl, hbe⟩
          have hbce := Below_trans' hbcd hbcd.size hbe
          go_wp2
          refine FlowPost.mk ⟨below_more hbce, ?_⟩
          refine flow_pure [5, 6, 7, 8] (by kernel_rfl) (below_more hbce) ?_
          simp only [pickOps, List.getElem?_cons_zero, List.getElem?_cons_succ]
          repeat (go_big_quiet_step (fail))
          refine wpQuiet_nil ?_
          clear y0 y1 y2 z0 z1 z2
          refine flow_one 9 (by kernel_rfl) rfl ?_
          go_wp2_with fail
          refine (renamed_any E7 ne7 ce7 R7 nr7 cr7 V7 nv7 cv7 o2 _ np cpp perm _ ((hO7k.below hb1).below hbce) ((hPek.below hb1).below hbce) HN.out hck2.out).mono ?_
          rintro e wf ⟨De, ie, je, Dr, ir, jr, Dv, iv, jv, rfl, hO4, hbf⟩
          have hbcf := Below_trans' hbce hbce.size hbf
          go_wp2
          refine FlowPost.mk ⟨below_more hbcf, ?_⟩
          refine flow_one 10 (by kernel_rfl) rfl ?_
          go_wp2_with fail
          refine (same_eq E8 ne8 ce8 R8 nr8 cr8 V8 nv8 cv8 De ie je Dr ir jr Dv iv jv (renO perm o2) wf ((hO8k.below hb1).below hbcf) hO4).mono ?_
          rintro e wg ⟨rfl, hbg⟩
          have hbcg := Below_trans' hbcf hbcf.size hbg
          go_wp2
          refine FlowPost.mk ⟨below_more hbcg, ?_⟩
          refine flow_pure [11, 12] (by kernel_rfl) (below_more hbcg) ?_
          simp only [pickOps, List.getElem?_cons_zero, List.getElem?_cons_succ]
          repeat (go_big_quiet_step (fail))
          refine wpQuiet_nil ?_
          refine flow_one 13 (by kernel_rfl) rfl ?_
          go_wp2_with fail
          refine (wakes12_any _).mono ?_
          rintro e wh ⟨rfl, hbh⟩
          have hbch := Below_trans' hbcg hbcg.size hbh
          go_wp2
          refine FlowPost.mk ⟨below_more hbch, ?_⟩
          refine flow_rest [14, 15] (by kernel_rfl) ?_
          simp only [pickOps, List.getElem?_cons_zero, List.getElem?_cons_succ]
          go_wp2
          go_ret
          exact ⟨rfl, Below_trans' hbwo hbwo.size hbch⟩
  · have e1 : (mayS c k l 1 1 1 lot == 0) = false := by simp [hE]
    clear hE
    go_wp2_with fail
    refine (wakes12_any _).mono ?_
    rintro e w9 ⟨rfl, hb9⟩
    go_wp2
    go_ret
    exact ⟨rfl, Below_trans' hbw0 (hbw0).size hb9⟩
end Go.Proofs.YtkhclcdmehjfkaaGreat
