/-
  The law RunoffNames.
-/
import Derived.Test.YtcmoekkaakkpjaaGreatW11r
import Derived.Test.YtcmoekkaakkpjaaGreatW9o
import Derived.Test.YtcmoekkaakkpjaaGreatL15m
import Derived.Deep.CutRange
namespace Go.Proofs.YtcmoekkaakkpjaaGreat
open Go.RowKit Go.Proofs Go.Shelf
attribute [local go_sem] cell?_more cell?_alloc_some cell?_setCell_far frozen?_alloc_some frozen?_more

/-- A count's outcome is one that names know. -/
theorem count_ok {l : List Row} {C : Nat} {lot : List Int} (hlot : lotS lot C = true) (hC : C ≤ 10) : ∀ (f : Nat) (left : List Int) (rs : List Rnd) (ts : List Row), left.Sublist (rangeI C) → left ≠ [] →
    (∀ r ∈ rs, r.1.length = C ∧ InR C r.2.2.1 ∧ r.2.2.1.length ≤ 1000 ∧ InR C r.2.2.2 ∧ r.2.2.2.length ≤ 1000) → rs.length + f ≤ 50 → (∀ t ∈ ts, InR C t.1 ∧ t.1.length ≤ 1000 ∧ 0 ≤ t.2 ∧ t.2 < C) → ts.length + f ≤ 50 → OkO C (countS l C lot f left rs ts)
  | 0, left, rs, ts, _, _, hr, hrl, ht, htl => ⟨fun y hy => by simp [countS] at hy, by simp [countS], hr, by simp only [countS]; omega, ht, by simp only [countS]; omega⟩
  | f + 1, left, rs, ts, hsub, hne, hr, hrl, ht, htl => by
    have hS : InR C left := (inR_range C).sub hsub
    have hnl : (hadL (inL left) l C).map wholeS = (hadL (inL left) l C).map wholeS := rfl
    have hnil : InR C [] := fun y hy => by simp at hy
    cases hc : winS left (hadL (inL left) l C) with
    | some x =>
      rw [countS_some hc]
      have hx := hS x (List.mem_of_find?_eq_some hc)
      have h1 : InR C [x] := fun y hy => by rw [List.mem_singleton.1 hy]; exact hx
      refine ⟨h1, by simp, fun r hr' => ?_, by rw [List.length_append]; simp; omega, ht, by show ts.length ≤ 100; omega⟩
      rcases List.mem_append.1 hr' with h | h
      · exact hr r h
      · rw [List.mem_singleton.1 h]
        exact ⟨by simp [rndS, length_hadL], h1, by simp [rndS], hnil, by simp [rndS]⟩
    | none =>
      rw [countS_none hc]
      have hsl : (leastS (hadL (inL left) l C) left).Sublist left := bestS_sub _ _
      have hAr := hS.sub hsl
      have hzm := lastS_mem (lot := lot) (bestS_ne (f := fun c => - getI (hadL (inL left) l C) c) hne) fun x hx => lot_in hlot (hsub.subset (hsl.subset hx))
      have hzm : lastS lot (leastS (hadL (inL left) l C) left) ∈ leastS (hadL (inL left) l C) left := hzm
      have hlo := length_outS ((nodup_rangeI C).sublist hsub) (hsl.subset hzm)
      have h1n : left.length ≠ 1 := fun e => win_of_one e hc
      have hp := List.length_pos_iff.2 hne
      have hz := hAr _ hzm
      have hAl : (leastS (hadL (inL left) l C) left).length ≤ 1000 := by
        have h1 := hsl.length_le
        have h2 := hsub.length_le
        rw [length_rangeI] at h2; omega
      generalize lastS lot (leastS (hadL (inL left) l C) left) = z at *
      generalize leastS (hadL (inL left) l C) left = Am at *
      refine count_ok hlot hC f (outS left z) _ _ ((outS_sub _ _).trans hsub) (List.length_pos_iff.1 (by omega)) (fun r hr' => ?_) (by rw [List.length_append]; simp; omega) (fun t ht' => ?_) (by have := length_tiedS ts Am z; omega)
      · rcases List.mem_append.1 hr' with h | h
        · exact hr r h
        · rw [List.mem_singleton.1 h]
          exact ⟨by simp [rndS, length_hadL], hnil, by simp [rndS], fun y hy => by rw [List.mem_singleton.1 hy]; exact hz, by simp [rndS]⟩
      · unfold tiedS at ht'
        split at ht'
        · exact ht t ht'
        · rcases List.mem_append.1 ht' with h | h
          · exact ht t h
          · rw [List.mem_singleton.1 h]; exact ⟨hAr, hAl, hz.1, hz.2⟩

/-! What an outcome speaks of is not the box of three slices. -/
theorem box_apart {w : World} {g : Nat} {t : TypeId} {A1 A2 A3 : Option Addr} {n1 c1 n2 c2 n3 c3 : Nat} (hg : Has w g t #[.slice A1 n1 c1, .slice A2 n2 c2, .slice A3 n3 c3]) {b off : Nat} {v : Value} (hc : w.cell? ⟨b, off, none⟩ = some v) (hv : ∀ A n c, v ≠ .slice A n c) : b ≠ g := by
  rintro rfl
  rw [hg.cell] at hc
  match off, hc with
  | 0, hc => simp at hc; exact hv _ _ _ hc.symm
  | 1, hc => simp at hc; exact hv _ _ _ hc.symm
  | 2, hc => simp at hc; exact hv _ _ _ hc.symm
  | (k + 3), hc => simp at hc
section
variable {w w' : World} {g : Nat} {t : TypeId} {A1 A2 A3 : Option Addr} {n1 c1 n2 c2 n3 c3 : Nat}
theorem RInts.far (hg : Has w g t #[.slice A1 n1 c1, .slice A2 n2 c2, .slice A3 n3 c3]) (k : ∀ b, b < w.heap.size → b ≠ g → w'.heap[b]? = w.heap[b]?) {A : Option Addr} {n c : Nat} {xs : List Int} (h : RInts w A n c xs) : RInts w' A n c xs :=
  (h.on.keep fun b hb => k b (h.on.1 b hb) (by
    obtain ⟨hn, off, e⟩ := hb
    obtain ⟨b', off', v, e', hc, _⟩ := h.step (k := 0) hn
    rw [e] at e'; cases e'
    exact box_apart hg hc (fun A n c e => by cases e))).get
theorem RWrds.far (hg : Has w g t #[.slice A1 n1 c1, .slice A2 n2 c2, .slice A3 n3 c3]) (k : ∀ b, b < w.heap.size → b ≠ g → w'.heap[b]? = w.heap[b]?) {A : Option Addr} {n c : Nat} {xs : List Int} (h : RWrds w A n c xs) : RWrds w' A n c xs :=
  (h.on.keep fun b hb => k b (h.on.1 b hb) (by
    obtain ⟨hn, off, e⟩ := hb
    obtain ⟨b', off', v, e', hc, _⟩ := h.step (k := 0) hn
    rw [e] at e'; cases e'
    exact box_apart hg hc (fun A n c e => by cases e))).get
theorem RAgg.far {α : Type} {E : World → List Value → α → Prop} {size : Nat} (hg : Has w g t #[.slice A1 n1 c1, .slice A2 n2 c2, .slice A3 n3 c3]) (k : ∀ b, b < w.heap.size → b ≠ g → w'.heap[b]? = w.heap[b]?) (hE : ∀ vs x, E w vs x → E w' vs x)
    (hj : ∀ vs x, E w vs x → ∃ (j : Nat) (u : Value), vs[j]? = some u ∧ ∀ A n c, u ≠ .slice A n c) {A : Option Addr} {n c : Nat} {l : List α} (h : RAgg E size w A n c l) : RAgg E size w' A n c l := by
  refine ⟨h.1, h.2.1, h.2.2.1, fun hn => ?_⟩
  obtain ⟨b, off, e, hc⟩ := h.2.2.2 hn
  have hb : b < w.heap.size ∧ b ≠ g := by
    obtain ⟨vs, x, h1, h2, h3, h4⟩ := hc 0 hn
    obtain ⟨j, u, hu, hs⟩ := hj vs x h4
    exact ⟨World.block_lt_of_cell? w _ (h3 j u hu), box_apart hg (h3 j u hu) hs⟩
  refine ⟨b, off, e, fun i hi => ?_⟩
  obtain ⟨vs, x, h1, h2, h3, h4⟩ := hc i hi
  refine ⟨vs, x, h1, h2, fun j u hu => ?_, hE _ _ h4⟩
  rw [World.cell?_of_block (w := w) (k b hb.1 hb.2)]
  exact h3 j u hu
theorem ERat.far (hg : Has w g t #[.slice A1 n1 c1, .slice A2 n2 c2, .slice A3 n3 c3]) (k : ∀ b, b < w.heap.size → b ≠ g → w'.heap[b]? = w.heap[b]?) {vs : List Value} {x : Rat3} (h : ERat w vs x) : ERat w' vs x := by
  obtain ⟨A, n, c, A', n', c', e, h1, h2⟩ := h
  exact ⟨A, n, c, A', n', c', e, h1.far hg k, h2.far hg k⟩
theorem rat_cell {vs : List Value} {x : Rat3} (h : ERat w vs x) : ∃ (j : Nat) (u : Value), vs[j]? = some u ∧ ∀ A n c, u ≠ .slice A n c := by
  obtain ⟨A, n, c, A', n', c', e, h1, h2⟩ := h
  exact ⟨0, .bool x.1, by rw [e]; rfl, fun A n c e => by cases e⟩
theorem ROut.far (hg : Has w g t #[.slice A1 n1 c1, .slice A2 n2 c2, .slice A3 n3 c3]) (k : ∀ b, b < w.heap.size → b ≠ g → w'.heap[b]? = w.heap[b]?) {Ae : Option Addr} {ne ce : Nat} {Ar : Option Addr} {nr cr : Nat} {Av : Option Addr} {nv cv : Nat} {o : Outc} (h : ROut w Ae ne ce Ar nr cr Av nv cv o) : ROut w' Ae ne ce Ar nr cr Av nv cv o := by
  refine ⟨h.1.far hg k, h.2.1.far hg k (fun vs x hE => ?_) (fun vs x hE => ?_), h.2.2.far hg k (fun vs x hE => ?_) (fun vs x hE => ?_)⟩
  · obtain ⟨A, n, c, a, b, d, B1, m1, d1, B2, m2, d2, e, h1, h2, h3, h4⟩ := hE
    exact ⟨A, n, c, a, b, d, B1, m1, d1, B2, m2, d2, e, h1.far hg k (fun _ _ h => h.far hg k) (fun _ _ h => rat_cell h), h2.far hg k, h3.far hg k, h4.far hg k⟩
  · obtain ⟨A, n, c, a, b, d, B1, m1, d1, B2, m2, d2, e, h1, ⟨C1, k1, e1, C2, k2, e2, eL, _, _⟩, h3, h4⟩ := hE
    cases eL
    exact ⟨1, _, by rw [e]; rfl, fun A n c e => by cases e⟩
  · obtain ⟨A, n, c, e, h1, h2⟩ := hE
    exact ⟨A, n, c, e, h1.far hg k, h2⟩
  · obtain ⟨A, n, c, e, h1, h2⟩ := hE
    exact ⟨1, _, by rw [e]; rfl, fun A n c e => by cases e⟩
end

set_option maxRecDepth 100000 in
set_option maxHeartbeats 4000000 in
theorem runoffNames_any (c k : Int) (A : Option Addr) (n cp : Nat) (l : List Row) (At : Option Addr) (nt ct : Nat) (lot : List Int) (Ap : Option Addr) (np cpp : Nat) (perm : List Int) (w : World) (h : RRows w A n cp l) (hl : RInts w At nt ct lot) (hp : RInts w Ap np cpp perm) :
    Calls Tryz.prog 14 #[.agg #[.int .i64 c, .int .u8 k, .slice A n cp], .slice At nt ct, .slice Ap np cpp] w fun e w' => e = .returned (.bool true) ∧ Below w.heap.size w w' := by
  have hb : Below w.heap.size w (w.alloc (.cells #[.int .i64 c, .int .u8 k, .slice A n cp] 24)) := below_allocN
  have hP := Has.new w 24 #[.int .i64 c, .int .u8 k, .slice A n cp]
  generalize hW : World.alloc w _ = W0 at hb hP
  have p0 := hP.cell 0
  have p1 := hP.cell 1
  have p2 := hP.cell 2
  go_enter Tryz.func14, Tryz.ntmps14
  go_wp2_with fail
  try simp only [hW]
  clear hW
  refine (may15_any c k A n cp l At nt ct lot W0 (h.below hb) (hl.below hb)).mono ?_
  rintro e z0 ⟨rfl, hbz0⟩
  have hbw0 := Below_trans' hb hb.size hbz0
  replace hP := hP.below hbz0 hP.lt
  clear p0 p1 p2
  by_cases hE : mayS c k l 1 1 1 lot = 0
  · have e1 : (mayS c k l 1 1 1 lot == 0) = true := by simp [hE]
    have p0 := hP.cell 0
    go_wp2_with fail
    refine (rlot_any Ap np cpp perm c z0 (hp.below hbw0)).mono ?_
    rintro e w' ⟨rfl, rfl⟩
    cases hpl : lotS perm c with
    | false =>
      clear hE p0
      go_wp2_with fail
      refine (wakes15_any _).mono ?_
      rintro e w9 ⟨rfl, hb9⟩
      go_wp2
      go_ret
      exact ⟨rfl, Below_trans' hbw0 (hbw0).size hb9⟩
    | true =>
      obtain ⟨hc0, hk0, _, _, _, hlot⟩ := may_zero hE
      subst hk0
      have hcs := check_ok hc0
      obtain ⟨C, rfl⟩ : ∃ C : Nat, c = (C : Int) := ⟨c.toNat, by omega⟩
      have hnpl := lot_len hpl
      have hnp : np = C := by have := hp.len; omega
      have htp : turnedS perm = true := by unfold lotS at hpl; rw [Bool.and_eq_true] at hpl; exact hpl.2
      have HN := hide (names_of htp hnpl)
      have hlen := hl.len
      have hnt : C = nt := by have := lot_len hlot; omega
      have Hll := hide hlen
      have hC10 := (rank_ok hc0).c10
      have hC1 := (rank_ok hc0).c1
      have Hlr := hide (lot_in_range hlot)
      have hcr := hide (count_ren' HN.out hc0 hlot)
      have hck : Hid (OkO C (countS l C lot C (rangeI C) [] [])) := count_ok hlot hC10 C (rangeI C) [] [] (List.Sublist.refl _) (fun e => by have h1 := congrArg List.length e; rw [length_rangeI] at h1; simp at h1; omega) (fun r hr => by simp at hr) (by simp; omega) (fun r hr => by simp at hr) (by simp; omega)
      have hc2 := ren_check HN.out hc0
      have hlot2 := lot_ren HN.out hlot
      have hm2 : mayS C 1 (renL perm l) 1 1 1 (lot.map (nameS perm)) = 0 := may_ok hc2 rfl (fun hh => by rcases hh with h | h | h | h; omega; omega; omega; rw [hlot2] at h; cases h)
      have hrun : Hid (runO C 1 l 1 lot = countS l C lot C (rangeI C) [] []) := by unfold Hid; rw [runO_ok hE, Int.toNat_natCast]
      have hrun2 : Hid (runO C 1 (renL perm l) 1 (lot.map (nameS perm)) = renO perm (countS l C lot C (rangeI C) [] [])) := by unfold Hid; rw [runO_ok hm2, Int.toNat_natCast]; exact hcr.out
      have hmay := hide hE
      have hmay2 := hide hm2
      have Hc0 := hide hc0
      have Htp := hide htp
      generalize countS l C lot C (rangeI C) [] [] = o at hck hrun hrun2 hcr
      clear hcs hE hc0 hlot hpl hnpl htp hlen hc2 hlot2 hm2 p0
      subst hnp
      subst hnt
      have p0 := hP.cell 0
      have p1 := hP.cell 1
      have p2 := hP.cell 2
      go_wp2_with fail
      refine (prename_any np 1 A n cp l Ap np cpp perm z0 (h.below hbw0) (hp.below hbw0) Hc0.out Htp.out rfl).mono ?_
      rintro e z1 ⟨Aq, nq, cq, rfl, hQ, hbz1⟩
      have hQr := hQ.rows
      dsimp only at hQr ⊢
      clear p0 p1 p2 hQ
      go_upto_region 4 with fail
      have hbz2 : Below z1.heap.size z1 (z1.alloc (.cells #[.int .i64 np, .int .u8 1, .slice Aq nq cq] 24)) := below_allocN
      have hX := Has.new z1 24 #[.int .i64 np, .int .u8 1, .slice Aq nq cq]
      generalize World.alloc z1 _ = z2 at hbz2 hX ⊢
      have hb02 := Below_trans' hbz1 hbz1.size hbz2
      have hbw2 := Below_trans' hbw0 hbw0.size hb02
      have hP2 := hP.below hb02 hP.lt
      replace hQr := hQr.below hbz2
      have p0 := hP2.cell 0
      have p1 := hP2.cell 1
      have p2 := hP2.cell 2
      go_wp2_with fail
      refine (pcount_any np 1 A n cp l 1 At np ct lot z2 (h.below hbw2) (hl.below hbw2) (by omega)).mono ?_
      rintro e z3 ⟨Ae, ne, ce, Ar, nr, cr, Av, nv, cv, rfl, hO, hbz3⟩
      rw [hrun.out] at hO
      rw [hmay.out]
      clear p0 p1 p2
      go_upto_region 5 with fail
      have hbz4 : Below z3.heap.size z3 (z3.alloc (.cells #[.slice Ae ne ce, .slice Ar nr cr, .slice Av nv cv] 33)) := below_allocN
      have hY := Has.new z3 33 #[.slice Ae ne ce, .slice Ar nr cr, .slice Av nv cv]
      generalize World.alloc z3 _ = wr at hbz4 hY ⊢
      have hb24 := Below_trans' hbz3 hbz3.size hbz4
      have hbwr := Below_trans' hbw2 hbw2.size hb24
      have hOr := hO.below hbz4
      have hXr := hX.below hb24 hX.lt
      have hLr := hl.below hbwr
      have hPr := hp.below hbwr
      replace hQr := hQr.below hb24
      have x0 := hXr.cell 0
      have x1 := hXr.cell 1
      have x2 := hXr.cell 2
      clear hO hX hP hP2
      go_cut [11, 12] from 37 to 45 (fun u v wx => ∃ (g : Nat) (Be : Option Addr) (me de : Nat) (Br : Option Addr) (mr dr : Nat) (Bv : Option Addr) (mv dv : Nat), u = .pointer (some ⟨g, 0, none⟩) ∧ v = .int .i64 0 ∧ Has wx g 33 #[.slice Be me de, .slice Br mr dr, .slice Bv mv dv] ∧ ROut wx Be me de Br mr dr Bv mv dv (renO perm o) ∧ Below wr.heap.size wr wx)
      case first =>
        refine wp_region_flowz [0, 1, 2] [0, 1, 2, 5, 6, 7] (fun w' => ∃ q, w' = More wr q) (by kernel_rfl) (by kernel_rfl) (below_more ((Below.refl wr.heap.size wr).drew)) ?_
        simp only [pickOps, List.getElem?_cons_zero, List.getElem?_cons_succ]
        repeat (go_big_quiet_step (fail))
        refine wpQuiet_nil ?_
        have hdr : Below wr.heap.size wr wr.drew := (Below.refl _ _).drew
        clear x0 x1 x2
        refine flow_two 3 8 (by kernel_rfl) rfl rfl ?_ ?_
        · go_wp2_with fail
          refine (pnames_any At np ct lot Ap np cpp perm _ (hLr.below hdr) (hPr.below hdr) Hlr.out (by omega)).mono ?_
          rintro e wa ⟨va, rfl, hOa, hba⟩
          have hbra : Below wr.heap.size wr wa := Below_trans' hdr (hdr).size hba
          obtain ⟨Aa, ca, rfl⟩ := hOa.slice
          have hRa := hOa.ints (fun x hx => by obtain ⟨y, hy, rfl⟩ := List.mem_map.1 hx; have := HN.out.name_in (Hlr.out y hy); omega)
          have hna : (lot.map (nameS perm)).length = np := by rw [List.length_map]; exact Hll.out
          rw [hna] at hRa ⊢
          clear hna hOa
          go_wp2
          refine FlowPost.mk ⟨below_more hbra, ?_⟩
          refine flow_two 4 8 (by kernel_rfl) rfl rfl ?_ ?_
          · go_wp2_with fail
            refine (pcount_any np 1 Aq nq cq (renL perm l) 1 Aa np ca (lot.map (nameS perm)) _ (hQr.below hbra) (hRa.below (Below.refl _ _)) (by omega)).mono ?_
            rintro e wc ⟨Be, me, de, Br, mr, dr, Bv, mv, dv, rfl, hO, hbc⟩
            rw [hrun2.out] at hO
            rw [hmay2.out]
            have hbrc : Below wr.heap.size wr wc := Below_trans' hbra (hbra).size hbc
            go_wp2
            refine FlowPost.mk ⟨below_more hbrc, ?_⟩
            refine flow_pure [5, 6, 7] (by kernel_rfl) (below_more hbrc) ?_
            simp only [pickOps, List.getElem?_cons_zero, List.getElem?_cons_succ]
            repeat (go_big_quiet_step (fail))
            refine wpQuiet_nil ?_
            refine flow_one 8 (by kernel_rfl) rfl ?_
            go_wp2
            refine FlowPost.mk ⟨below_more (hbrc.alloc hbrc.size _), ?_⟩
            refine flow_one 9 (by kernel_rfl) rfl ?_
            have hbN : Below wc.heap.size wc (wc.alloc (.cells #[.slice Be me de, .slice Br mr dr, .slice Bv mv dv] 33)) := below_allocN
            have hN := Has.new wc 33 #[.slice Be me de, .slice Br mr dr, .slice Bv mv dv]
            have hON := hO.below hbN
            have hb8 := Below_trans' hbrc hbrc.size hbN
            go_wp2
            generalize World.alloc wc _ = w8 at hN hON hb8 ⊢
            refine FlowPost.mk ⟨below_more hb8, ?_⟩
            refine flow_one 10 (by kernel_rfl) rfl ?_
            go_wp2
            refine FlowPost.mk ⟨below_more hb8, ?_⟩
            refine flow_rest [] (by kernel_rfl) ?_
            simp only [pickOps]
            go_wp2
            go_meet
            exact ⟨wc.heap.size, Be, me, de, Br, mr, dr, Bv, mv, dv, rfl, rfl, hN, hON, hb8⟩
          · have hbz : Below wa.heap.size wa (wa.alloc (.cells #[.slice none 0 0, .slice none 0 0, .slice none 0 0] 33)) := below_allocN
            have hNz := Has.new wa 33 #[.slice none 0 0, .slice none 0 0, .slice none 0 0]
            have hgr := hbra.size
            go_wp2
            generalize World.alloc wa _ = wz at hbz hNz ⊢
            have hbrz := Below_trans' hbra hbra.size hbz
            refine FlowPost.mk ⟨below_more hbrz, ?_⟩
            refine flow_one 4 (by kernel_rfl) rfl ?_
            go_wp2_with fail
            refine (pcount_any np 1 Aq nq cq (renL perm l) 1 Aa np ca (lot.map (nameS perm)) _ (hQr.below hbrz) (hRa.below hbz) (by omega)).mono ?_
            rintro e wc ⟨Be, me, de, Br, mr, dr, Bv, mv, dv, rfl, hO, hbc⟩
            rw [hrun2.out] at hO
            rw [hmay2.out]
            have hbrc : Below wr.heap.size wr wc := Below_trans' hbrz (hbrz).size hbc
            go_wp2
            refine FlowPost.mk ⟨below_more hbrc, ?_⟩
            refine flow_pure [5, 6, 7] (by kernel_rfl) (below_more hbrc) ?_
            simp only [pickOps, List.getElem?_cons_zero, List.getElem?_cons_succ]
            repeat (go_big_quiet_step (fail))
            refine wpQuiet_nil ?_
            have hNc := hNz.below hbc hNz.lt
            refine flow_one 9 (by kernel_rfl) rfl ?_
            have t0 := hNc.cell 0
            have t1 := hNc.cell 1
            have t2 := hNc.cell 2
            have f0 := hNc.free 0
            have f1 := hNc.free 1
            have f2 := hNc.free 2
            have hN := put3 (x' := .slice Be me de) (y' := .slice Br mr dr) (z' := .slice Bv mv dv) hNc
            have hF := frame3 wc wa.heap.size (.slice Be me de) (.slice Br mr dr) (.slice Bv mv dv)
            have hON := hO.far hNc (fun b hb hne => hF.block b hb hne)
            have hb8 := Frame'.below hbrc hF (fun b e => by have e : b = wa.heap.size := e; omega) hbrc.size
            go_wp2
            generalize World.setCell (World.setCell (World.setCell wc _ _) _ _) _ _ = w8 at hN hON hb8 ⊢
            refine FlowPost.mk ⟨below_more hb8, ?_⟩
            refine flow_one 10 (by kernel_rfl) rfl ?_
            go_wp2
            refine FlowPost.mk ⟨below_more hb8, ?_⟩
            refine flow_rest [] (by kernel_rfl) ?_
            simp only [pickOps]
            go_wp2
            go_meet
            exact ⟨wa.heap.size, Be, me, de, Br, mr, dr, Bv, mv, dv, rfl, rfl, hN, hON, hb8⟩
        · have hbz : Below wr.heap.size wr (wr.alloc (.cells #[.slice none 0 0, .slice none 0 0, .slice none 0 0] 33)).drew := ((Below.refl _ _).alloc (Nat.le_refl _) _).drew
          have hNz : Has (wr.alloc (.cells #[.slice none 0 0, .slice none 0 0, .slice none 0 0] 33)).drew wr.heap.size 33 #[.slice none 0 0, .slice none 0 0, .slice none 0 0] := (Has.new wr 33 #[.slice none 0 0, .slice none 0 0, .slice none 0 0]).drew
          go_wp2
          generalize World.drew _ = wz at hbz hNz ⊢
          refine FlowPost.mk ⟨below_more hbz, ?_⟩
          have hgr := Nat.le_refl wr.heap.size
          refine flow_one 3 (by kernel_rfl) rfl ?_
          go_wp2_with fail
          refine (pnames_any At np ct lot Ap np cpp perm _ (hLr.below hbz) (hPr.below hbz) Hlr.out (by omega)).mono ?_
          rintro e wa ⟨va, rfl, hOa, hba⟩
          have hbra : Below wr.heap.size wr wa := Below_trans' hbz (hbz).size hba
          obtain ⟨Aa, ca, rfl⟩ := hOa.slice
          have hRa := hOa.ints (fun x hx => by obtain ⟨y, hy, rfl⟩ := List.mem_map.1 hx; have := HN.out.name_in (Hlr.out y hy); omega)
          have hna : (lot.map (nameS perm)).length = np := by rw [List.length_map]; exact Hll.out
          rw [hna] at hRa ⊢
          clear hna hOa
          go_wp2
          refine FlowPost.mk ⟨below_more hbra, ?_⟩
          have hNa := hNz.below hba hNz.lt
          refine flow_one 4 (by kernel_rfl) rfl ?_
          go_wp2_with fail
          refine (pcount_any np 1 Aq nq cq (renL perm l) 1 Aa np ca (lot.map (nameS perm)) _ (hQr.below hbra) (hRa.below (Below.refl _ _)) (by omega)).mono ?_
          rintro e wc ⟨Be, me, de, Br, mr, dr, Bv, mv, dv, rfl, hO, hbc⟩
          rw [hrun2.out] at hO
          rw [hmay2.out]
          have hbrc : Below wr.heap.size wr wc := Below_trans' hbra (hbra).size hbc
          go_wp2
          refine FlowPost.mk ⟨below_more hbrc, ?_⟩
          refine flow_pure [5, 6, 7] (by kernel_rfl) (below_more hbrc) ?_
          simp only [pickOps, List.getElem?_cons_zero, List.getElem?_cons_succ]
          repeat (go_big_quiet_step (fail))
          refine wpQuiet_nil ?_
          have hNc := hNa.below hbc hNa.lt
          refine flow_one 9 (by kernel_rfl) rfl ?_
          have t0 := hNc.cell 0
          have t1 := hNc.cell 1
          have t2 := hNc.cell 2
          have f0 := hNc.free 0
          have f1 := hNc.free 1
          have f2 := hNc.free 2
          have hN := put3 (x' := .slice Be me de) (y' := .slice Br mr dr) (z' := .slice Bv mv dv) hNc
          have hF := frame3 wc wr.heap.size (.slice Be me de) (.slice Br mr dr) (.slice Bv mv dv)
          have hON := hO.far hNc (fun b hb hne => hF.block b hb hne)
          have hb8 := Frame'.below hbrc hF (fun b e => by have e : b = wr.heap.size := e; omega) hbrc.size
          go_wp2
          generalize World.setCell (World.setCell (World.setCell wc _ _) _ _) _ _ = w8 at hN hON hb8 ⊢
          refine FlowPost.mk ⟨below_more hb8, ?_⟩
          refine flow_one 10 (by kernel_rfl) rfl ?_
          go_wp2
          refine FlowPost.mk ⟨below_more hb8, ?_⟩
          refine flow_rest [] (by kernel_rfl) ?_
          simp only [pickOps]
          go_wp2
          go_meet
          exact ⟨wr.heap.size, Be, me, de, Br, mr, dr, Bv, mv, dv, rfl, rfl, hN, hON, hb8⟩
      case rest =>
        obtain ⟨g, Be, me, de, Br, mr, dr, Bv, mv, dv, rfl, rfl, hN, hO2, hbrc⟩ := hcut
        have hYc := hY.below hbrc hY.lt
        have hOc := hOr.below hbrc
        have hPc := hPr.below hbrc
        have hbwc := Below_trans' hbwr hbwr.size hbrc
        have u0 := hN.cell 0
        have u1 := hN.cell 1
        have u2 := hN.cell 2
        have v0 := hYc.cell 0
        have v1 := hYc.cell 1
        have v2 := hYc.cell 2
        clear x0 x1 x2
        go_upto_region 6 with fail
        refine wp_region_flowz [0, 1, 2, 3, 4, 5, 6, 7, 8, 9, 10, 11, 12, 13] [0, 1, 2, 3, 4, 5, 6, 7, 8, 9, 10, 11, 12, 13, 16, 17] (fun w' => ∃ q, w' = More wc q) (by kernel_rfl) (by kernel_rfl) (below_more ((Below.refl wc.heap.size wc).drew)) ?_
        simp only [pickOps, List.getElem?_cons_zero, List.getElem?_cons_succ]
        repeat (go_big_quiet_step (fail))
        refine wpQuiet_nil ?_
        have hdr : Below wc.heap.size wc wc.drew := (Below.refl _ _).drew
        clear u0 u1 u2 v0 v1 v2
        refine flow_one 14 (by kernel_rfl) rfl ?_
        go_wp2_with fail
        refine (renamed_any Ae ne ce Ar nr cr Av nv cv o Ap np cpp perm _ (hOc.below hdr) (hPc.below hdr) HN.out hck.out).mono ?_
        rintro e wd ⟨Ce, ke, le, Cr, kr, lr, Cv, kv, lv, rfl, hO3, hbd⟩
        have hbcd : Below wc.heap.size wc wd := Below_trans' hdr (Nat.le_refl _) hbd
        go_wp2
        refine FlowPost.mk ⟨below_more hbcd, ?_⟩
        refine flow_one 15 (by kernel_rfl) rfl ?_
        go_wp2_with fail
        refine (same_eq Be me de Br mr dr Bv mv dv Ce ke le Cr kr lr Cv kv lv (renO perm o) wd (hO2.below hbcd) hO3).mono ?_
        rintro e we ⟨rfl, hbe⟩
        have hbce := Below_trans' hbcd hbcd.size hbe
        go_wp2
        refine FlowPost.mk ⟨below_more hbce, ?_⟩
        refine flow_pure [16, 17] (by kernel_rfl) (below_more hbce) ?_
        simp only [pickOps, List.getElem?_cons_zero, List.getElem?_cons_succ]
        repeat (go_big_quiet_step (fail))
        refine wpQuiet_nil ?_
        refine flow_one 18 (by kernel_rfl) rfl ?_
        go_wp2_with fail
        refine (wakes15_any _).mono ?_
        rintro e wf ⟨rfl, hbf⟩
        have hbcf := Below_trans' hbce hbce.size hbf
        go_wp2
        refine FlowPost.mk ⟨below_more hbcf, ?_⟩
        refine flow_rest [19, 20] (by kernel_rfl) ?_
        simp only [pickOps, List.getElem?_cons_zero, List.getElem?_cons_succ]
        go_wp2
        go_ret
        exact ⟨rfl, Below_trans' hbwc hbwc.size hbcf⟩
  · have e1 : (mayS c k l 1 1 1 lot == 0) = false := by simp [hE]
    clear hE
    go_wp2_with fail
    refine (wakes15_any _).mono ?_
    rintro e w9 ⟨rfl, hb9⟩
    go_wp2
    go_ret
    exact ⟨rfl, Below_trans' hbw0 (hbw0).size hb9⟩
end Go.Proofs.YtcmoekkaakkpjaaGreat
