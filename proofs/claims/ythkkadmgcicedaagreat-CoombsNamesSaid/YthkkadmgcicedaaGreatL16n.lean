/-
  A Coombs count under other names, in plain terms.
  The law CoombsNames.
-/
import Derived.Test.YthkkadmgcicedaaGreatSpecNm
import Derived.Test.YthkkadmgcicedaaGreatSpecCb
import Derived.Test.YthkkadmgcicedaaGreatW11r
import Derived.Test.YthkkadmgcicedaaGreatW9o
import Derived.Test.YthkkadmgcicedaaGreatW16c
import Derived.Test.YthkkadmgcicedaaGreatFlow2
import Derived.Deep.CutRange
namespace Go.Proofs.YthkkadmgcicedaaGreat
open Go.RowKit Go.Proofs

theorem inL_map {p : List Int} {n : Nat} {ms : List Int} {y : Int} (hN : Names p n) (hm : InR n ms) (hy : 0 ≤ y ∧ y < n) : inL (ms.map (nameS p)) (nameS p y) = inL ms y := by
  rw [Bool.eq_iff_iff, inL_iff, inL_iff, List.mem_map]
  constructor
  · rintro ⟨z, hz, e⟩; rw [← hN.inj (hm z hz) hy e]; exact hz
  · intro h; exact ⟨y, h, rfl⟩
theorem all_ren {p : List Int} {n : Nat} {S ms : List Int} (hN : Names p n) (hS : InR n S) (hm : InR n ms) : (imgS p n S).all (inL (ms.map (nameS p))) = S.all (inL ms) := by
  rw [Bool.eq_iff_iff, List.all_eq_true, List.all_eq_true]
  constructor
  · intro h y hy
    have := h (nameS p y) ((mem_img hN hS).2 ⟨y, hy, rfl⟩)
    rwa [inL_map hN hm (hS y hy)] at this
  · intro h x hx
    obtain ⟨y, hy, rfl⟩ := (mem_img hN hS).1 hx
    rw [inL_map hN hm (hS y hy)]
    exact h y hy
theorem agB_ren {p : List Int} {n : Nat} {S ms : List Int} (hN : Names p n) (hS : InR n S) (hm : InR n ms) {x : Int} (hx : 0 ≤ x ∧ x < n) : agB (imgS p n S) (ms.map (nameS p)) (nameS p x) = agB S ms x := by
  unfold agB
  rw [all_ren hN hS hm, inL_img hN hS hx, inL_map hN hm hx, ← List.map_reverse, find_img hN hS (fun y hy => hm y (List.mem_reverse.1 hy))]
  cases hf : ms.reverse.find? (inL S) with
  | none => simp
  | some y =>
    have hy := hm y (List.mem_reverse.1 (List.mem_of_find?_eq_some hf))
    have e : decide (Option.map (nameS p) (some y) = some (nameS p x)) = decide (some y = some x) := by
      rw [Bool.eq_iff_iff, decide_eq_true_eq, decide_eq_true_eq]
      simp only [Option.map_some, Option.some.injEq]
      exact ⟨fun e => hN.inj hy hx e, fun e => by rw [e]⟩
    rw [e]
theorem badS_ren {p : List Int} {n : Nat} {S : List Int} {l : List Row} (hN : Names p n) (hS : InR n S) (hl : ∀ r ∈ l, ∀ x ∈ r.1, 0 ≤ x ∧ x < n) {x : Int} (hx : 0 ≤ x ∧ x < n) : badS (imgS p n S) (renL p l) (nameS p x) = badS S l x := by
  unfold badS renL
  rw [wsum_each]
  refine wsum_congr fun r hr => ?_
  rw [renS_ne (by omega) (by omega), agB_ren hN hS (hl r hr) hx]
theorem getI_bad {S : List Int} {l : List Row} {n : Nat} {x : Int} (hx : 0 ≤ x ∧ x < n) : getI (badL S l n) x = badS S l x := by
  obtain ⟨X, rfl⟩ : ∃ X : Nat, x = X := ⟨x.toNat, by omega⟩
  exact getI_of (get_badL _ _ (by omega))
theorem most_ren {p : List Int} {n : Nat} {S : List Int} {l : List Row} (hN : Names p n) (hS : InR n S) (hl : ∀ r ∈ l, ∀ x ∈ r.1, 0 ≤ x ∧ x < n) : mostS (renL p l) n (imgS p n S) = imgS p n (mostS l n S) :=
  best_ren hN hS fun x hx => by rw [getI_bad (hN.name_in hx), getI_bad hx, badS_ren hN hS hl hx]
/-- The count goes along with the names. -/
theorem countB_ren {p lot : List Int} {C : Nat} {l : List Row} (hN : Names p C) (h : checkS C 1 l = 0) (hlot : lotS lot C = true) : ∀ (f : Nat) (left : List Int) (rs : List Rnd) (ts : List Row), left.Sublist (rangeI C) → left ≠ [] →
    countB (renL p l) C (lot.map (nameS p)) f (imgS p C left) (rs.map (renRnd p)) (ts.map (renTie p)) = renO p (countB l C lot f left rs ts)
  | 0, left, rs, ts, _, _ => rfl
  | f + 1, left, rs, ts, hsub, hne => by
    have hr := rank_ok h
    have hr2 : RankOK (renL p l) C := rank_ok (ren_check hN h)
    have hS : InR C left := (inR_range C).sub hsub
    have hw := win_ren (had := hadL (inL left) l C) (had2 := hadL (inL (imgS p C left)) (renL p l) C) hN hsub (fun x hx => (hr.hads _ x hx).1) (length_hadL _ _ _) (sum_ren hN hS hr.marks hr2.marks) (fun x hx => getI_ren hN hS hr.marks hx)
    cases hc : winS left (hadL (inL left) l C) with
    | some x =>
      rw [hc] at hw
      rw [countB_some hc, countB_some hw]
      unfold renO
      simp only [List.map_append, List.map_cons, List.map_nil, renRnd, rndS, hadL_ren hN hS hr.marks, lost_ren hN hS hr.marks]
    | none =>
      rw [hc] at hw
      rw [countB_none hc, countB_none hw]
      have hle := most_ren (S := left) hN hS hr.marks
      have hsl : (mostS l C left).Sublist left := bestS_sub _ _
      have hAr := hS.sub hsl
      have hAn : mostS l C left ≠ [] := bestS_ne hne
      have hla := last_ren (lot := lot) hN hAr (lot_in_range hlot) hAn fun x hx => lot_in hlot (hsub.subset (hsl.subset hx))
      have hzm := lastS_mem (lot := lot) hAn fun x hx => lot_in hlot (hsub.subset (hsl.subset hx))
      have hand : (mostS l C left).Nodup := ((nodup_rangeI C).sublist hsub).sublist hsl
      rw [hle, hla, out_ren hN hS (hAr _ hzm), tied_ren hN hAr hand, lost_ren hN hS hr.marks]
      have ih := countB_ren hN h hlot f (outS left (lastS lot (mostS l C left))) (rs ++ [rndS (hadL (inL left) l C) (lostS (inL left) l) [] [lastS lot (mostS l C left)]]) (tiedS ts (mostS l C left) (lastS lot (mostS l C left))) ((outS_sub _ _).trans hsub) (List.length_pos_iff.1 (by have h1 := length_outS ((nodup_rangeI C).sublist hsub) (hsl.subset hzm); have h2 : left.length ≠ 1 := fun e => win_of_one e hc; have h3 := List.length_pos_iff.2 hne; omega))
      rw [← ih]
      congr 1
      rw [List.map_append]
      congr 1
      simp only [List.map_cons, List.map_nil, renRnd, rndS, hadL_ren hN hS hr.marks]
theorem countB_ren' {p lot : List Int} {C : Nat} {l : List Row} (hN : Names p C) (h : checkS C 1 l = 0) (hlot : lotS lot C = true) : countB (renL p l) C (lot.map (nameS p)) C (rangeI C) [] [] = renO p (countB l C lot C (rangeI C) [] []) := by
  have := countB_ren hN h hlot C (rangeI C) [] [] (List.Sublist.refl _) (fun e => by have h1 := congrArg List.length e; rw [length_rangeI] at h1; have := hN.one; simp at h1; omega)
  rwa [img_range hN] at this
end Go.Proofs.YthkkadmgcicedaaGreat

namespace Go.Proofs.YthkkadmgcicedaaGreat
open Go.RowKit Go.Proofs Go.Shelf
attribute [local go_sem] cell?_more cell?_alloc_some cell?_setCell_far frozen?_alloc_some frozen?_more
theorem mayCn_any (c k : Int) (A : Option Addr) (n cp : Nat) (l : List Row) (At : Option Addr) (nt ct : Nat) (lot : List Int) (w : World) (h : RRows w A n cp l) (h' : RInts w At nt ct lot) :
    Calls Tryz.prog 18 #[.agg #[.int .i64 c, .int .u8 k, .slice A n cp], .slice At nt ct] w fun e w' => e = .returned (.bool (mayS c k l 1 1 1 lot == 0)) ∧ Below w.heap.size w w' := by
  have hb0 : Below w.heap.size w (w.alloc (.cells #[.int .i64 c, .int .u8 k, .slice A n cp] 24)) := below_allocN
  have hP0 := Has.new w 24 #[.int .i64 c, .int .u8 k, .slice A n cp]
  generalize hW : World.alloc w _ = W0 at hb0 hP0
  have p0 := hP0.cell 0
  have p1 := hP0.cell 1
  have p2 := hP0.cell 2
  go_enter Tryz.func18, Tryz.ntmps18
  go_wp2_with fail
  try simp only [hW]
  clear hW
  refine (may_any c k A n cp l 1 1 1 At nt ct lot W0 (h.below hb0) (h'.below hb0)).mono ?_
  rintro e w1 ⟨rfl, hb1⟩
  go_wp2
  go_ret
  exact ⟨rfl, Below_trans' hb0 hb0.size hb1⟩


/-- A count's outcome is one that names know. -/
theorem countB_okO {l : List Row} {C : Nat} {lot : List Int} (hlot : lotS lot C = true) (hC : C ≤ 10) : ∀ (f : Nat) (left : List Int) (rs : List Rnd) (ts : List Row), left.Sublist (rangeI C) → left ≠ [] →
    (∀ r ∈ rs, r.1.length = C ∧ InR C r.2.2.1 ∧ r.2.2.1.length ≤ 1000 ∧ InR C r.2.2.2 ∧ r.2.2.2.length ≤ 1000) → rs.length + f ≤ 50 → (∀ t ∈ ts, InR C t.1 ∧ t.1.length ≤ 1000 ∧ 0 ≤ t.2 ∧ t.2 < C) → ts.length + f ≤ 50 → OkO C (countB l C lot f left rs ts)
  | 0, left, rs, ts, _, _, hr, hrl, ht, htl => ⟨fun y hy => by simp [countB] at hy, by simp [countB], hr, by simp only [countB]; omega, ht, by simp only [countB]; omega⟩
  | f + 1, left, rs, ts, hsub, hne, hr, hrl, ht, htl => by
    have hS : InR C left := (inR_range C).sub hsub
    have hnl : (hadL (inL left) l C).map wholeS = (hadL (inL left) l C).map wholeS := rfl
    have hnil : InR C [] := fun y hy => by simp at hy
    cases hc : winS left (hadL (inL left) l C) with
    | some x =>
      rw [countB_some hc]
      have hx := hS x (List.mem_of_find?_eq_some hc)
      have h1 : InR C [x] := fun y hy => by rw [List.mem_singleton.1 hy]; exact hx
      refine ⟨h1, by simp, fun r hr' => ?_, by rw [List.length_append]; simp; omega, ht, by show ts.length ≤ 100; omega⟩
      rcases List.mem_append.1 hr' with h | h
      · exact hr r h
      · rw [List.mem_singleton.1 h]
        exact ⟨by simp [rndS, length_hadL], h1, by simp [rndS], hnil, by simp [rndS]⟩
    | none =>
      rw [countB_none hc]
      have hsl : (mostS l C left).Sublist left := bestS_sub _ _
      have hAr := hS.sub hsl
      have hzm := lastS_mem (lot := lot) (most_ne hne) fun x hx => lot_in hlot (hsub.subset (hsl.subset hx))
      have hzm : lastS lot (mostS l C left) ∈ mostS l C left := hzm
      have hlo := length_outS ((nodup_rangeI C).sublist hsub) (hsl.subset hzm)
      have h1n : left.length ≠ 1 := fun e => win_of_one e hc
      have hp := List.length_pos_iff.2 hne
      have hz := hAr _ hzm
      have hAl : (mostS l C left).length ≤ 1000 := by
        have h1 := hsl.length_le
        have h2 := hsub.length_le
        rw [length_rangeI] at h2; omega
      generalize lastS lot (mostS l C left) = z at *
      generalize mostS l C left = Am at *
      refine countB_okO hlot hC f (outS left z) _ _ ((outS_sub _ _).trans hsub) (List.length_pos_iff.1 (by omega)) (fun r hr' => ?_) (by rw [List.length_append]; simp; omega) (fun t ht' => ?_) (by have := length_tiedS ts Am z; omega)
      · rcases List.mem_append.1 hr' with h | h
        · exact hr r h
        · rw [List.mem_singleton.1 h]
          exact ⟨by simp [rndS, length_hadL], hnil, by simp [rndS], fun y hy => by rw [List.mem_singleton.1 hy]; exact hz, by simp [rndS]⟩
      · unfold tiedS at ht'
        split at ht'
        · exact ht t ht'
        · rcases List.mem_append.1 ht' with h | h
          · exact ht t h
          · rw [List.mem_singleton.1 h]; exact ⟨hAr, hAl, hz.1, hz.2⟩

set_option maxRecDepth 100000 in
set_option maxHeartbeats 4000000 in
theorem coombsNames_any (c k : Int) (A : Option Addr) (n cp : Nat) (l : List Row) (At : Option Addr) (nt ct : Nat) (lot : List Int) (Ap : Option Addr) (np cpp : Nat) (perm : List Int) (w : World) (h : RRows w A n cp l) (hl : RInts w At nt ct lot) (hp : RInts w Ap np cpp perm) :
    Calls Tryz.prog 4 #[.agg #[.int .i64 c, .int .u8 k, .slice A n cp], .slice At nt ct, .slice Ap np cpp] w fun e w' => e = .returned (.bool true) ∧ Below w.heap.size w w' := by
  have hb : Below w.heap.size w (w.alloc (.cells #[.int .i64 c, .int .u8 k, .slice A n cp] 24)) := below_allocN
  have hP := Has.new w 24 #[.int .i64 c, .int .u8 k, .slice A n cp]
  generalize hW : World.alloc w _ = W0 at hb hP
  have p0 := hP.cell 0
  have p1 := hP.cell 1
  have p2 := hP.cell 2
  go_enter Tryz.func4, Tryz.ntmps4
  go_wp2_with fail
  try simp only [hW]
  clear hW
  refine (mayCn_any c k A n cp l At nt ct lot W0 (h.below hb) (hl.below hb)).mono ?_
  rintro e z0 ⟨rfl, hbz0⟩
  have hbw0 := Below_trans' hb hb.size hbz0
  replace hP := hP.below hbz0 hP.lt
  clear p0 p1 p2
  by_cases hE : mayS c k l 1 1 1 lot = 0
  · have e1 : (mayS c k l 1 1 1 lot == 0) = true := by simp [hE]
    have p0 := hP.cell 0
    go_wp2_with fail
    refine (rlot_any Ap np cpp perm c z0 (hp.below hbw0)).mono ?_
    rintro e w' ⟨rfl, rfl⟩
    cases hpl : lotS perm c with
    | false =>
      clear hE p0
      go_wp2_with fail
      refine (wakes16_any _).mono ?_
      rintro e w9 ⟨rfl, hb9⟩
      go_wp2
      go_ret
      exact ⟨rfl, Below_trans' hbw0 (hbw0).size hb9⟩
    | true =>
      obtain ⟨hc0, hk0, _, _, _, hlot⟩ := may_zero hE
      subst hk0
      have hcs := check_ok hc0
      obtain ⟨C, rfl⟩ : ∃ C : Nat, c = (C : Int) := ⟨c.toNat, by omega⟩
      have hnpl := lot_len hpl
      have hnp : np = C := by have := hp.len; omega
      have htp : turnedS perm = true := by unfold lotS at hpl; rw [Bool.and_eq_true] at hpl; exact hpl.2
      have HN := hide (names_of htp hnpl)
      have hlen := hl.len
      have hnt : C = nt := by have := lot_len hlot; omega
      have Hll := hide hlen
      have hC10 := (rank_ok hc0).c10
      have hC1 := (rank_ok hc0).c1
      have Hlr := hide (lot_in_range hlot)
      have hcr := hide (countB_ren' HN.out hc0 hlot)
      have hck : Hid (OkO C (countB l C lot C (rangeI C) [] [])) := countB_okO hlot hC10 C (rangeI C) [] [] (List.Sublist.refl _) (fun e => by have h1 := congrArg List.length e; rw [length_rangeI] at h1; simp at h1; omega) (fun r hr => by simp at hr) (by simp; omega) (fun r hr => by simp at hr) (by simp; omega)
      have hc2 := ren_check HN.out hc0
      have hlot2 := lot_ren HN.out hlot
      have hm2 : mayS C 1 (renL perm l) 1 1 1 (lot.map (nameS perm)) = 0 := may_ok hc2 rfl (fun hh => by rcases hh with h | h | h | h; omega; omega; omega; rw [hlot2] at h; cases h)
      have hrun : Hid (runB C 1 l 1 lot = countB l C lot C (rangeI C) [] []) := by unfold Hid; rw [runB_ok hE, Int.toNat_natCast]
      have hrun2 : Hid (runB C 1 (renL perm l) 1 (lot.map (nameS perm)) = renO perm (countB l C lot C (rangeI C) [] [])) := by unfold Hid; rw [runB_ok hm2, Int.toNat_natCast]; exact hcr.out
      have hmay := hide hE
      have hmay2 := hide hm2
      have Hc0 := hide hc0
      have Htp := hide htp
      generalize countB l C lot C (rangeI C) [] [] = o at hck hrun hrun2 hcr
      clear hcs hE hc0 hlot hpl hnpl htp hlen hc2 hlot2 hm2 p0
      subst hnp
      subst hnt
      have p0 := hP.cell 0
      have p1 := hP.cell 1
      have p2 := hP.cell 2
      go_wp2_with fail
      refine (prename_any np 1 A n cp l Ap np cpp perm z0 (h.below hbw0) (hp.below hbw0) Hc0.out Htp.out rfl).mono ?_
      rintro e z1 ⟨Aq, nq, cq, rfl, hQ, hbz1⟩
      have hQr := hQ.rows
      dsimp only at hQr ⊢
      clear p0 p1 p2 hQ
      go_upto_region 4 with fail
      have hbz2 : Below z1.heap.size z1 (z1.alloc (.cells #[.int .i64 np, .int .u8 1, .slice Aq nq cq] 24)) := below_allocN
      have hX := Has.new z1 24 #[.int .i64 np, .int .u8 1, .slice Aq nq cq]
      generalize World.alloc z1 _ = z2 at hbz2 hX ⊢
      have hb02 := Below_trans' hbz1 hbz1.size hbz2
      have hbw2 := Below_trans' hbw0 hbw0.size hb02
      have hP2 := hP.below hb02 hP.lt
      replace hQr := hQr.below hbz2
      have p0 := hP2.cell 0
      have p1 := hP2.cell 1
      have p2 := hP2.cell 2
      go_wp2_with fail
      refine (pcountB_any np 1 A n cp l 1 At np ct lot z2 (h.below hbw2) (hl.below hbw2) (by omega)).mono ?_
      rintro e z3 ⟨Ae, ne, ce, Ar, nr, cr, Av, nv, cv, rfl, hO, hbz3⟩
      rw [hrun.out] at hO
      rw [hmay.out]
      clear p0 p1 p2
      go_upto_region 5 with fail
      have hbz4 : Below z3.heap.size z3 (z3.alloc (.cells #[.slice Ae ne ce, .slice Ar nr cr, .slice Av nv cv] 31)) := below_allocN
      have hY := Has.new z3 31 #[.slice Ae ne ce, .slice Ar nr cr, .slice Av nv cv]
      generalize World.alloc z3 _ = wr at hbz4 hY ⊢
      have hb24 := Below_trans' hbz3 hbz3.size hbz4
      have hbwr := Below_trans' hbw2 hbw2.size hb24
      have hOr := hO.below hbz4
      have hXr := hX.below hb24 hX.lt
      have hLr := hl.below hbwr
      have hPr := hp.below hbwr
      replace hQr := hQr.below hb24
      have x0 := hXr.cell 0
      have x1 := hXr.cell 1
      have x2 := hXr.cell 2
      clear hO hX hP hP2
      go_cut [11, 12] from 37 to 45 (fun u v wx => ∃ (g : Nat) (Be : Option Addr) (me de : Nat) (Br : Option Addr) (mr dr : Nat) (Bv : Option Addr) (mv dv : Nat), u = .pointer (some ⟨g, 0, none⟩) ∧ v = .int .i64 0 ∧ Has wx g 31 #[.slice Be me de, .slice Br mr dr, .slice Bv mv dv] ∧ ROut wx Be me de Br mr dr Bv mv dv (renO perm o) ∧ Below wr.heap.size wr wx)
      case first =>
        refine wp_region_flowz [0, 1, 2] [0, 1, 2, 5, 6, 7] (fun w' => ∃ q, w' = More wr q) (by kernel_rfl) (by kernel_rfl) (below_more ((Below.refl wr.heap.size wr).drew)) ?_
        simp only [pickOps, List.getElem?_cons_zero, List.getElem?_cons_succ]
        repeat (go_big_quiet_step (fail))
        refine wpQuiet_nil ?_
        have hdr : Below wr.heap.size wr wr.drew := (Below.refl _ _).drew
        clear x0 x1 x2
        refine flow_two 3 8 (by kernel_rfl) rfl rfl ?_ ?_
        · go_wp2_with fail
          refine (pnames_any At np ct lot Ap np cpp perm _ (hLr.below hdr) (hPr.below hdr) Hlr.out (by omega)).mono ?_
          rintro e wa ⟨va, rfl, hOa, hba⟩
          have hbra : Below wr.heap.size wr wa := Below_trans' hdr (hdr).size hba
          obtain ⟨Aa, ca, rfl⟩ := hOa.slice
          have hRa := hOa.ints (fun x hx => by obtain ⟨y, hy, rfl⟩ := List.mem_map.1 hx; have := HN.out.name_in (Hlr.out y hy); omega)
          have hna : (lot.map (nameS perm)).length = np := by rw [List.length_map]; exact Hll.out
          rw [hna] at hRa ⊢
          clear hna hOa
          go_wp2
          refine FlowPost.mk ⟨below_more hbra, ?_⟩
          refine flow_two 4 8 (by kernel_rfl) rfl rfl ?_ ?_
          · go_wp2_with fail
            refine (pcountB_any np 1 Aq nq cq (renL perm l) 1 Aa np ca (lot.map (nameS perm)) _ (hQr.below hbra) (hRa.below (Below.refl _ _)) (by omega)).mono ?_
            rintro e wc ⟨Be, me, de, Br, mr, dr, Bv, mv, dv, rfl, hO, hbc⟩
            rw [hrun2.out] at hO
            rw [hmay2.out]
            have hbrc : Below wr.heap.size wr wc := Below_trans' hbra (hbra).size hbc
            go_wp2
            refine FlowPost.mk ⟨below_more hbrc, ?_⟩
            refine flow_pure [5, 6, 7] (by kernel_rfl) (below_more hbrc) ?_
            simp only [pickOps, List.getElem?_cons_zero, List.getElem?_cons_succ]
            repeat (go_big_quiet_step (fail))
            refine wpQuiet_nil ?_
            refine flow_one 8 (by kernel_rfl) rfl ?_
            go_wp2
            refine FlowPost.mk ⟨below_more (hbrc.alloc hbrc.size _), ?_⟩
            refine flow_one 9 (by kernel_rfl) rfl ?_
            have hbN : Below wc.heap.size wc (wc.alloc (.cells #[.slice Be me de, .slice Br mr dr, .slice Bv mv dv] 31)) := below_allocN
            have hN := Has.new wc 31 #[.slice Be me de, .slice Br mr dr, .slice Bv mv dv]
            have hON := hO.below hbN
            have hb8 := Below_trans' hbrc hbrc.size hbN
            go_wp2
            generalize World.alloc wc _ = w8 at hN hON hb8 ⊢
            refine FlowPost.mk ⟨below_more hb8, ?_⟩
            refine flow_one 10 (by kernel_rfl) rfl ?_
            go_wp2
            refine FlowPost.mk ⟨below_more hb8, ?_⟩
            refine flow_rest [] (by kernel_rfl) ?_
            simp only [pickOps]
            go_wp2
            go_meet
            exact ⟨wc.heap.size, Be, me, de, Br, mr, dr, Bv, mv, dv, rfl, rfl, hN, hON, hb8⟩
          · have hbz : Below wa.heap.size wa (wa.alloc (.cells #[.slice none 0 0, .slice none 0 0, .slice none 0 0] 31)) := below_allocN
            have hNz := Has.new wa 31 #[.slice none 0 0, .slice none 0 0, .slice none 0 0]
            have hgr := hbra.size
            go_wp2
            generalize World.alloc wa _ = wz at hbz hNz ⊢
            have hbrz := Below_trans' hbra hbra.size hbz
            refine FlowPost.mk ⟨below_more hbrz, ?_⟩
            refine flow_one 4 (by kernel_rfl) rfl ?_
            go_wp2_with fail
            refine (pcountB_any np 1 Aq nq cq (renL perm l) 1 Aa np ca (lot.map (nameS perm)) _ (hQr.below hbrz) (hRa.below hbz) (by omega)).mono ?_
            rintro e wc ⟨Be, me, de, Br, mr, dr, Bv, mv, dv, rfl, hO, hbc⟩
            rw [hrun2.out] at hO
            rw [hmay2.out]
            have hbrc : Below wr.heap.size wr wc := Below_trans' hbrz (hbrz).size hbc
            go_wp2
            refine FlowPost.mk ⟨below_more hbrc, ?_⟩
            refine flow_pure [5, 6, 7] (by kernel_rfl) (below_more hbrc) ?_
            simp only [pickOps, List.getElem?_cons_zero, List.getElem?_cons_succ]
            repeat (go_big_quiet_step (fail))
            refine wpQuiet_nil ?_
            have hNc := hNz.below hbc hNz.lt
            refine flow_one 9 (by kernel_rfl) rfl ?_
            have t0 := hNc.cell 0
            have t1 := hNc.cell 1
            have t2 := hNc.cell 2
            have f0 := hNc.free 0
            have f1 := hNc.free 1
            have f2 := hNc.free 2
            have hN := put3 (x' := .slice Be me de) (y' := .slice Br mr dr) (z' := .slice Bv mv dv) hNc
            have hF := frame3 wc wa.heap.size (.slice Be me de) (.slice Br mr dr) (.slice Bv mv dv)
            have hON := hO.far hNc (fun b hb hne => hF.block b hb hne)
            have hb8 := Frame'.below hbrc hF (fun b e => by have e : b = wa.heap.size := e; omega) hbrc.size
            go_wp2
            generalize World.setCell (World.setCell (World.setCell wc _ _) _ _) _ _ = w8 at hN hON hb8 ⊢
            refine FlowPost.mk ⟨below_more hb8, ?_⟩
            refine flow_one 10 (by kernel_rfl) rfl ?_
            go_wp2
            refine FlowPost.mk ⟨below_more hb8, ?_⟩
            refine flow_rest [] (by kernel_rfl) ?_
            simp only [pickOps]
            go_wp2
            go_meet
            exact ⟨wa.heap.size, Be, me, de, Br, mr, dr, Bv, mv, dv, rfl, rfl, hN, hON, hb8⟩
        · have hbz : Below wr.heap.size wr (wr.alloc (.cells #[.slice none 0 0, .slice none 0 0, .slice none 0 0] 31)).drew := ((Below.refl _ _).alloc (Nat.le_refl _) _).drew
          have hNz : Has (wr.alloc (.cells #[.slice none 0 0, .slice none 0 0, .slice none 0 0] 31)).drew wr.heap.size 31 #[.slice none 0 0, .slice none 0 0, .slice none 0 0] := (Has.new wr 31 #[.slice none 0 0, .slice none 0 0, .slice none 0 0]).drew
          go_wp2
          generalize World.drew _ = wz at hbz hNz ⊢
          refine FlowPost.mk ⟨below_more hbz, ?_⟩
          have hgr := Nat.le_refl wr.heap.size
          refine flow_one 3 (by kernel_rfl) rfl ?_
          go_wp2_with fail
          refine (pnames_any At np ct lot Ap np cpp perm _ (hLr.below hbz) (hPr.below hbz) Hlr.out (by omega)).mono ?_
          rintro e wa ⟨va, rfl, hOa, hba⟩
          have hbra : Below wr.heap.size wr wa := Below_trans' hbz (hbz).size hba
          obtain ⟨Aa, ca, rfl⟩ := hOa.slice
          have hRa := hOa.ints (fun x hx => by obtain ⟨y, hy, rfl⟩ := List.mem_map.1 hx; have := HN.out.name_in (Hlr.out y hy); omega)
          have hna : (lot.map (nameS perm)).length = np := by rw [List.length_map]; exact Hll.out
          rw [hna] at hRa ⊢
          clear hna hOa
          go_wp2
          refine FlowPost.mk ⟨below_more hbra, ?_⟩
          have hNa := hNz.below hba hNz.lt
          refine flow_one 4 (by kernel_rfl) rfl ?_
          go_wp2_with fail
          refine (pcountB_any np 1 Aq nq cq (renL perm l) 1 Aa np ca (lot.map (nameS perm)) _ (hQr.below hbra) (hRa.below (Below.refl _ _)) (by omega)).mono ?_
          rintro e wc ⟨Be, me, de, Br, mr, dr, Bv, mv, dv, rfl, hO, hbc⟩
          rw [hrun2.out] at hO
          rw [hmay2.out]
          have hbrc : Below wr.heap.size wr wc := Below_trans' hbra (hbra).size hbc
          go_wp2
          refine FlowPost.mk ⟨below_more hbrc, ?_⟩
          refine flow_pure [5, 6, 7] (by kernel_rfl) (below_more hbrc) ?_
          simp only [pickOps, List.getElem?_cons_zero, List.getElem?_cons_succ]
          repeat (go_big_quiet_step (fail))
          refine wpQuiet_nil ?_
          have hNc := hNa.below hbc hNa.lt
          refine flow_one 9 (by kernel_rfl) rfl ?_
          have t0 := hNc.cell 0
          have t1 := hNc.cell 1
          have t2 := hNc.cell 2
          have f0 := hNc.free 0
          have f1 := hNc.free 1
          have f2 := hNc.free 2
          have hN := put3 (x' := .slice Be me de) (y' := .slice Br mr dr) (z' := .slice Bv mv dv) hNc
          have hF := frame3 wc wr.heap.size (.slice Be me de) (.slice Br mr dr) (.slice Bv mv dv)
          have hON := hO.far hNc (fun b hb hne => hF.block b hb hne)
          have hb8 := Frame'.below hbrc hF (fun b e => by have e : b = wr.heap.size := e; omega) hbrc.size
          go_wp2
          generalize World.setCell (World.setCell (World.setCell wc _ _) _ _) _ _ = w8 at hN hON hb8 ⊢
          refine FlowPost.mk ⟨below_more hb8, ?_⟩
          refine flow_one 10 (by kernel_rfl) rfl ?_
          go_wp2
          refine FlowPost.mk ⟨below_more hb8, ?_⟩
          refine flow_rest [] (by kernel_rfl) ?_
          simp only [pickOps]
          go_wp2
          go_meet
          exact ⟨wr.heap.size, Be, me, de, Br, mr, dr, Bv, mv, dv, rfl, rfl, hN, hON, hb8⟩
      case rest =>
        obtain ⟨g, Be, me, de, Br, mr, dr, Bv, mv, dv, rfl, rfl, hN, hO2, hbrc⟩ := hcut
        have hYc := hY.below hbrc hY.lt
        have hOc := hOr.below hbrc
        have hPc := hPr.below hbrc
        have hbwc := Below_trans' hbwr hbwr.size hbrc
        have u0 := hN.cell 0
        have u1 := hN.cell 1
        have u2 := hN.cell 2
        have v0 := hYc.cell 0
        have v1 := hYc.cell 1
        have v2 := hYc.cell 2
        clear x0 x1 x2
        go_upto_region 6 with fail
        refine wp_region_flowz [0, 1, 2, 3, 4, 5, 6, 7, 8, 9, 10, 11, 12, 13] [0, 1, 2, 3, 4, 5, 6, 7, 8, 9, 10, 11, 12, 13, 16, 17] (fun w' => ∃ q, w' = More wc q) (by kernel_rfl) (by kernel_rfl) (below_more ((Below.refl wc.heap.size wc).drew)) ?_
        simp only [pickOps, List.getElem?_cons_zero, List.getElem?_cons_succ]
        repeat (go_big_quiet_step (fail))
        refine wpQuiet_nil ?_
        have hdr : Below wc.heap.size wc wc.drew := (Below.refl _ _).drew
        clear u0 u1 u2 v0 v1 v2
        refine flow_one 14 (by kernel_rfl) rfl ?_
        go_wp2_with fail
        refine (renamed_any Ae ne ce Ar nr cr Av nv cv o Ap np cpp perm _ (hOc.below hdr) (hPc.below hdr) HN.out hck.out).mono ?_
        rintro e wd ⟨Ce, ke, le, Cr, kr, lr, Cv, kv, lv, rfl, hO3, hbd⟩
        have hbcd : Below wc.heap.size wc wd := Below_trans' hdr (Nat.le_refl _) hbd
        go_wp2
        refine FlowPost.mk ⟨below_more hbcd, ?_⟩
        refine flow_one 15 (by kernel_rfl) rfl ?_
        go_wp2_with fail
        refine (same_eq Be me de Br mr dr Bv mv dv Ce ke le Cr kr lr Cv kv lv (renO perm o) wd (hO2.below hbcd) hO3).mono ?_
        rintro e we ⟨rfl, hbe⟩
        have hbce := Below_trans' hbcd hbcd.size hbe
        go_wp2
        refine FlowPost.mk ⟨below_more hbce, ?_⟩
        refine flow_pure [16, 17] (by kernel_rfl) (below_more hbce) ?_
        simp only [pickOps, List.getElem?_cons_zero, List.getElem?_cons_succ]
        repeat (go_big_quiet_step (fail))
        refine wpQuiet_nil ?_
        refine flow_one 18 (by kernel_rfl) rfl ?_
        go_wp2_with fail
        refine (wakes16_any _).mono ?_
        rintro e wf ⟨rfl, hbf⟩
        have hbcf := Below_trans' hbce hbce.size hbf
        go_wp2
        refine FlowPost.mk ⟨below_more hbcf, ?_⟩
        refine flow_rest [19, 20] (by kernel_rfl) ?_
        simp only [pickOps, List.getElem?_cons_zero, List.getElem?_cons_succ]
        go_wp2
        go_ret
        exact ⟨rfl, Below_trans' hbwc hbwc.size hbcf⟩
  · have e1 : (mayS c k l 1 1 1 lot == 0) = false := by simp [hE]
    clear hE
    go_wp2_with fail
    refine (wakes16_any _).mono ?_
    rintro e w9 ⟨rfl, hb9⟩
    go_wp2
    go_ret
    exact ⟨rfl, Below_trans' hbw0 (hbw0).size hb9⟩
end Go.Proofs.YthkkadmgcicedaaGreat
