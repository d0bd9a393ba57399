/-
  The layer coombs: the rounds, Count.
  The examples of chapter 16.
-/
import Derived.Test.YthkkadmgcicedaaGreatSpecCb
import Derived.Test.YthkkadmgcicedaaGreatW16a
import Derived.Test.YthkkadmgcicedaaGreatL15f
import Derived.Test.YthkkadmgcicedaaGreatFlow2
import Derived.Test.YthkkadmgcicedaaGreatW15g
namespace Go.Proofs.YthkkadmgcicedaaGreat
open Go.RowKit Go.Proofs Go.Shelf
attribute [local go_sem] cell?_alt cell?_more cell?_alloc_some cell?_setCell_far frozen?_alloc_some frozen?_more
attribute [local go_sem] inv_elects inv_out
/-- The state of a count in memory. -/
structure CSt (B S0 g q s C : Nat) (At : Option Addr) (nt ct : Nat) (lot : List Int) (w0 w : World) (rn vt : Value) (Al : Option Addr) (nl cl : Nat) (left : List Int) (bs : List Bool) (rs : List Rnd) (ts : List Row) (fr ft : Nat → Prop) : Prop where
  hb : Below B w0 w
  bS : S0 ≤ w.heap.size
  hG : Has w g 73 #[.slice none 0 0, rn, vt, .slice At nt ct]
  hL : Own w B (.slice Al nl cl) left
  hq : (Value.slice Al nl cl).ownBlock = some q
  hS : OwnB w B (.slice (some ⟨s, 0, none⟩) C C) bs
  hlot : RInts w At nt ct lot
  lotb : ∀ b, fpS At nt b → b ≠ g ∧ b ≠ q ∧ b ≠ s ∧ b < S0
  hR : OAgg ERnd 41 6 fr w S0 rn rs
  hT : OAgg ETie 65 2 ft w S0 vt ts
  frS : ∀ b, fr b → S0 ≤ b
  ftS : ∀ b, ft b → S0 ≤ b
  dis : B ≤ g ∧ B ≤ q ∧ B ≤ s ∧ g < S0 ∧ q < S0 ∧ s < S0 ∧ g ≠ q ∧ g ≠ s ∧ q ≠ s
  x1 : ∀ b, rn.ownBlock = some b → ¬ ft b
  x2 : ∀ b, vt.ownBlock = some b → ¬ fr b
  x3 : ∀ b, rn.ownBlock = some b → vt.ownBlock ≠ some b
theorem del1_any (p : Nat) (z x : Int) (w : World) (hp : w.cell? ⟨p, 0, none⟩ = some (.int .i64 x)) : Calls Tryz.prog 81 #[.int .i64 z, .pointer (some ⟨p, 0, none⟩)] w fun e w' => e = .returned (.bool (decide (z = x))) ∧ w = w' := by
  go_enter Tryz.func81, Tryz.ntmps81
  by_cases hv : z = x
  · have hz : (z == x) = true := by simp [hv]
    have hd := hide (decide_eq_true hv)
    clear hv
    go_wp2
    go_ret
    exact ⟨ret_b hd.out.symm, rfl⟩
  · have hz : (z == x) = false := by simp [hv]
    have hd := hide (decide_eq_false hv)
    clear hv
    go_wp2
    go_ret
    exact ⟨ret_b hd.out.symm, rfl⟩
/-- What the rounds hand back. -/
def RdsPost (w : World) (o : Outc) (e : Ending) (w' : World) : Prop :=
  ∃ Be me de Br mr dr Bv mv dv, e = .returned (.agg #[.slice Be me de, .slice Br mr dr, .slice Bv mv dv]) ∧ ROut w' Be me de Br mr dr Bv mv dv o ∧ Below w.heap.size w w'
theorem retOutEnd1 {fn : Func} {R : Ending → World → Prop} {a : Act} {w : World} {p g : Nat} {C : Array Value} (hr : fn.results = #[.cell p 31]) (hp : a.tmps.getD p undef = .pointer (some ⟨g, 0, none⟩))
    (hg : Has w g 31 C) (hs : C.size = 3) (hd : a.defers = []) (hR : R (.returned (.agg C)) w) : bodyPost Tryz.prog fn R .ret a w :=
  bodyPost_ret (results_cell_row hr _ _ g _ C _ _ hp hg Tryz.underlying31 rfl (sizeOut.trans (by rw [hs]))) hd hR
set_option maxRecDepth 100000 in
set_option maxHeartbeats 4000000 in
theorem rounds_any (C : Nat) (A : Option Addr) (n cp : Nat) (l : List Row) (At : Option Addr) (nt ct : Nat) (lot : List Int) (w : World) (h : RRows w A n cp l) (h' : RInts w At nt ct lot) (hc0 : checkS C 1 l = 0) (hlot : lotS lot C = true) (hn : nt ≤ 1000) :
    Calls Tryz.prog 43 #[.agg #[.int .i64 C, .int .u8 1, .slice A n cp], .slice At nt ct, .iface 90 (.agg #[.int .i64 C, .int .u8 1, .slice A n cp])] w (RdsPost w (countB l C lot C (rangeI C) [] [])) := by
  have HK := hide (rank_ok hc0)
  have Hnd := hide (marks_once hc0 rfl)
  have Hc0 := hide hc0
  have Hlot := hide hlot
  have hC10 := (rank_ok hc0).c10
  have hC1 := (rank_ok hc0).c1
  have hltc := hide (lot_len hlot)
  have hF0 := hide (firstsE_ok hc0 rfl)
  clear hc0 hlot
  have hb0 : Below w.heap.size w (w.alloc (.cells #[.int .i64 C, .int .u8 1, .slice A n cp] 24)) := (Below.refl _ _).alloc (Nat.le_refl _) _
  have hP0 := Has.new w 24 #[.int .i64 C, .int .u8 1, .slice A n cp]
  generalize hV : World.alloc w _ = V at hb0 hP0
  have hbv : Below V.heap.size V (V.alloc (.cells #[.slice none 0 0, .slice none 0 0, .slice none 0 0] 31)) := (Below.refl _ _).alloc (Nat.le_refl _) _
  have hQ0 := Has.new V 31 #[.slice none 0 0, .slice none 0 0, .slice none 0 0]
  have hP1 := hP0.below hbv hP0.lt
  have hbw0 := Below_trans' hb0 hb0.size hbv
  have hgV : w.heap.size < V.heap.size := hP0.lt
  generalize hW : World.alloc V _ = W0 at hbv hQ0 hP1 hbw0
  have hgW : V.heap.size < W0.heap.size := hQ0.lt
  have s0 := hP1.cell 0
  have hmk := run_make_row' (P := Tryz.prog) 35 4 (.bool false) 1 Tryz.underlying35 info4 rfl .i64 .i64 C (by omega) (by omega)
  have hof := fun W (hb : Below W0.heap.size W0 W) => cof_any At nt ct lot W ((h'.below hbw0).below hb) hn
  go_enter Tryz.func43, Tryz.ntmps43
  go_upto_region 1 with fail
  try simp only [hV, hW]
  clear hV hW
  refine wp_region_flowz [0, 2, 3] [0, 2, 3] (fun w' => ∃ q, w' = More W0 q) (by kernel_rfl) (by kernel_rfl) (below_more ((Below.refl W0.heap.size W0).drew)) ?_
  simp only [pickOps, List.getElem?_cons_zero, List.getElem?_cons_succ]
  repeat (go_big_quiet_step (fail))
  refine wpQuiet_nil ?_
  clear s0
  refine flow_one 1 (by kernel_rfl) rfl ?_
  go_wp2_with fail
  refine (hof _ (Below.refl _ _).drew).mono ?_
  rintro e w2 ⟨g, A2, n2, c2, rfl, hG2, hO2, hg2, hog, hb2⟩
  have hb2 : Below W0.heap.size W0 w2 := Below_trans' (Below.refl _ _).drew (Nat.le_refl _) hb2
  have Hog := hide hog
  have hg2 : W0.heap.size ≤ g := hg2
  have hO2 : Own w2 W0.heap.size (.slice A2 n2 c2) lot := hO2
  clear hog hof
  go_wp2
  refine FlowPost.mk ⟨below_more hb2, ?_⟩
  refine flow_one 4 (by kernel_rfl) rfl ?_
  go_wp2_with fail
  refine (pall_any C w2 (by omega)).mono ?_
  rintro e w3 ⟨vl, rfl, hO3, hb3⟩
  obtain ⟨Al, cl, rfl⟩ := hO3.slice
  rw [length_rangeI] at hO3 ⊢
  have hb03 := Below_trans' hb2 hb2.size hb3
  go_wp2
  refine FlowPost.mk ⟨below_more hb03, ?_⟩
  refine flow_rest [5, 6] (by kernel_rfl) ?_
  simp only [pickOps, List.getElem?_cons_zero, List.getElem?_cons_succ]
  have hP3 := hP1.below hb03 hP1.lt
  have p0 := hP3.cell 0
  go_upto_region 3 with fail
  clear p0 hmk
  have hM4 := OwnB.made w3 W0.heap.size C hb03.size (by omega)
  have hb4 : Below w3.heap.size w3 (w3.alloc (.cells (madeCells #[.bool false] C) 4)) := (Below.refl _ _).alloc (Nat.le_refl _) _
  have hs4 : w3.heap.size < (w3.alloc (.cells (madeCells #[.bool false] C) 4)).heap.size := by simp
  generalize World.alloc w3 _ = w4 at hM4 hb4 hs4 ⊢
  have hz2 := hb2.size
  have hz3 := hb3.size
  have hg2lt := hG2.lt
  obtain ⟨b, off, eA, _⟩ := hO3.new (show 0 < C by omega)
  have hqb := hO3.fps (b := b) ⟨by omega, off, eA⟩
  have hql := hO3.own_lt hqb
  go_wp2
  go_loopw [28] (fun i wr => ∃ j : Nat, j ≤ C ∧ i = .int .i64 j ∧ OwnB wr W0.heap.size (.slice (some ⟨w3.heap.size, 0, none⟩) C C) (List.replicate j true ++ List.replicate (C - j) false) ∧ Below w3.heap.size w3 wr ∧ w4.heap.size ≤ wr.heap.size) (fun i _ => C - (intOf i).toNat)
  case atStart => exact ⟨0, Nat.zero_le _, rfl, by simpa using hM4, hb4, Nat.le_refl _⟩
  case round =>
    obtain ⟨j, hj, rfl, hM, hb, hsz⟩ := hrel
    by_cases hjc : j < C
    · have hlj : (List.replicate j true ++ List.replicate (C - j) false).length = C := by simp; omega
      obtain ⟨⟨u, hu⟩, hfu, hBg⟩ := hM.at hlj hjc
      have hset : Hid ((List.replicate j true ++ List.replicate (C - j) false).set j true = List.replicate (j + 1) true ++ List.replicate (C - (j + 1)) false) := by
        unfold Hid
        refine List.ext_getElem? fun i => ?_
        rw [List.getElem?_set]
        by_cases e : j = i
        · subst e; rw [if_pos rfl, if_pos (by omega), List.getElem?_append_left (by simp)]; simp
        · rw [if_neg e, List.getElem?_append, List.getElem?_append, List.length_replicate, List.length_replicate]
          by_cases h1 : i < j
          · rw [if_pos h1, if_pos (by omega), List.getElem?_replicate, List.getElem?_replicate, if_pos h1, if_pos (by omega)]
          · rw [if_neg h1, if_neg (by omega), List.getElem?_replicate, List.getElem?_replicate]
            by_cases h2 : i < C
            · rw [if_pos (by omega), if_pos (by omega)]
            · rw [if_neg (by omega), if_neg (by omega)]
      have hM2 := hM.set hlj j true
      have hb5 := hb.setCell (p := ⟨w3.heap.size, j, none⟩) (Nat.le_refl _) (.bool true)
      have hsz5 : w4.heap.size ≤ (wr.setCell ⟨w3.heap.size, j, none⟩ (.bool true)).heap.size := by simpa [World.setCell] using hsz
      go_wp2
      go_roundw
      case rel => exact ⟨j + 1, by omega, by go_num, by rw [← hset.out]; exact hM2, hb5, hsz5⟩
      case measure => simp [intOf] <;> omega
    · obtain rfl : C = j := by omega
      rw [Nat.sub_self, List.replicate_zero, List.append_nil] at hM
      obtain ⟨w5, rfl⟩ : ∃ w5 : World, w5 = wr := ⟨_, rfl⟩
      have hst : CSt W0.heap.size w4.heap.size g b w3.heap.size C A2 n2 c2 lot W0 w5 (.slice none 0 0) (.slice none 0 0) Al C cl (rangeI C) (List.replicate C true) [] [] (fun _ => False) (fun _ => False) := {
        hb := Below_trans' hb03 hb03.size hb
        bS := hsz
        hG := (hG2.below hb3 hG2.lt).below hb (hG2.below hb3 hG2.lt).lt
        hL := (hO3.mono hz2).below hb
        hq := hqb
        hS := hM
        hlot := ((hO2.ints (fun x hx => h'.bd hx)).below hb3).below hb
        lotb := fun b' hb' => by
          have e := hO2.fps hb'
          have h1 := Hog.out b' e
          have h2 := (hO2.own_lt e).2
          omega
        hR := OAgg.nil_ _ _ _ _ _
        hT := OAgg.nil_ _ _ _ _ _
        frS := fun _ h => h.elim
        ftS := fun _ h => h.elim
        dis := by omega
        x1 := fun _ e => by cases e
        x2 := fun _ e => by cases e
        x3 := fun _ e => by cases e }
      have hci := CbInv.start l lot hC1
      have hso := StayOK.start C
      generalize hgS : w4.heap.size = S0 at hst
      generalize hgs : w3.heap.size = s at hst ⊢
      clear hG2 hO2 hO3 hM4 hb4 hs4 hM hb hsz hgS hgs eA hqb hql Hog hb3 hb03 hb2 hP3 hz3 hz2
      go_wp2
      go_loopg [8] C (fun kk v wr => ∃ left rs ts rn vt Al nl cl bs fr ft, kk = left.length ∧ v = .slice Al nl cl ∧ CbInv l C lot left rs ts ∧ StayOK C bs left ∧ CSt W0.heap.size S0 g b s C A2 n2 c2 lot W0 wr rn vt Al nl cl left bs rs ts fr ft)
      case atStart => exact ⟨rangeI C, [], [], _, _, _, _, _, _, _, _, (length_rangeI C).symm, rfl, hci, hso, hst⟩
      case round =>
        clear hst hci hso
        obtain ⟨left, rs, ts, rn, vt, Al', nl, cl', bs, fr, ft, rfl, rfl, hci, hso, st⟩ := hrel
        have hmem := hide (fun x (hx : x ∈ left) => mem_rangeI.1 (hci.sub.subset hx))
        have hnl : left.length = nl := by obtain ⟨A', c', e⟩ := st.hL.slice; cases e; rfl
        have hnl10 : nl ≤ 10 := by have := hci.sub.length_le; rw [length_rangeI] at this; omega
        have hnl0 : 0 < nl := by have := List.length_pos_iff.2 hci.ne; omega
        have Hnl := hide hnl
        have Hci := hide hci
        have Hso := hide hso
        have hrs : rs.length ≤ 100 := by have := hci.nrs; omega
        have hts : ts.length ≤ 100 := by have := hci.nts; omega
        have hRL : RInts wr Al' nl cl' left := st.hL.ints (fun x hx => by have := hmem.out x hx; omega)
        have hisS : Hid (isS bs = inL left) := funext hso.2
        have hPr := hP1.below st.hb hP1.lt
        have hbwr := Below_trans' hbw0 hbw0.size st.hb
        have hRS := st.hS.bools
        have p0 := hPr.cell 0
        have p1 := hPr.cell 1
        have p2 := hPr.cell 2
        have hW0r := st.hb.size
        clear hnl hci hso
        go_wp2_with fail
        refine (pfirsts_any C 1 A n cp l _ C C bs wr (h.below hbwr) hRS).mono ?_
        rintro e w1 ⟨v1, rfl, hO1, hb1⟩
        have ea : firstsL C 1 l bs = hadL (inL left) l C := by unfold firstsL; rw [if_pos hF0.out, Int.toNat_natCast, hisS.out]
        have eb : firstsN C 1 l bs = lostS (inL left) l := by unfold firstsN; rw [if_pos hF0.out, hisS.out]
        rw [ea] at hO1
        rw [eb, hF0.out]
        clear ea eb p0 p1 p2 hRS
        obtain ⟨A1, c1, rfl⟩ := hO1.slice
        have hR1 := hO1.ints (fun x hx => by have := HK.out.hads _ x hx; omega)
        rw [length_hadL] at hR1 ⊢
        have hsum := HK.out.sum (inL left)
        have hlost := HK.out.lost (inL left)
        have hhads := hide (HK.out.hads (inL left))
        generalize hHad : hadL (inL left) l C = had at *
        generalize hLost : lostS (inL left) l = lost at *
        have HHad := hide hHad
        have HLost := hide hLost
        clear hHad hLost hO1
        go_wp2_with fail
        refine (pwholes_any A1 C c1 had w1 hR1 (by omega) (fun x hx => by have := hhads.out x hx; omega)).mono ?_
        rintro e w5 ⟨v5, fp5, rfl, hO5, hf5, hb5⟩
        have Hf5 := hide hf5
        obtain ⟨A5, n5, c5, rfl⟩ : ∃ A n c, v5 = .slice A n c := let ⟨A, c, e⟩ := hO5.slice; ⟨A, _, c, e⟩
        clear hf5
        go_wp2_with fail
        refine (pwhole_any lost w5 hlost.1 (by omega)).mono ?_
        rintro e w6 ⟨An, nn, cn, Ad, nd, cd, rfl, hn6, hd6, hb6, hf6⟩
        have Hf6 := hide hf6
        clear hf6
        have hb7 : Below w6.heap.size w6 (w6.alloc (.cells #[.slice A5 n5 c5, .bool false, .slice An nn cn, .slice Ad nd cd, .slice none 0 0, .slice none 0 0] 41)) := (Below.refl _ _).alloc (Nat.le_refl _) _
        have hD7 := Has.new w6 41 #[.slice A5 n5 c5, .bool false, .slice An nn cn, .slice Ad nd cd, .slice none 0 0, .slice none 0 0]
        go_upto_region 10 with fail
        generalize World.alloc w6 _ = w7 at hb7 hD7 ⊢
        have hb17 := Below_trans' hb5 hb5.size (Below_trans' hb6 hb6.size hb7)
        have hbr7 := Below_trans' hb1 hb1.size hb17
        go_wp2_with fail
        refine (elects_any _ _ _ C A1 c1 had Al' nl cl' left w7 (hR1.below hb17) (hRL.below hbr7) Hci.out.ne hmem.out hnl10 hC10 hhads.out hsum).mono ?_
        rintro e w8 ⟨hp, hb8⟩
        have hb68 := Below_trans' hb7 hb7.size hb8
        have hb58 := Below_trans' hb6 hb6.size hb68
        have hbr8 := Below_trans' hbr7 hbr7.size hb8
        have hD8 := hD7.below hb8 hD7.lt
        have hG8 := st.hG.below hbr8 st.hG.lt
        have z1 := hb1.size
        have z5 := hb5.size
        have z6 := hb6.size
        have z7 := hb7.size
        have z8 := hb8.size
        have hgS : g < S0 := st.dis.2.2.2.1
        have hSr := st.bS
        have hD6 : w6.heap.size < w7.heap.size := hD7.lt
        clear hD7 hR1 hb7
        rcases hp with ⟨x, hwx, rfl⟩ | ⟨hwn, x, rfl⟩
        · have hxm := List.mem_of_find?_eq_some hwx
          have hxr := hmem.out x hxm
          have Hw := hide hwx
          have d4 := hD8.cell 4
          have e4 := hD8.free 4
          have g0 := hG8.cell 0
          have f0 := hG8.free 0
          clear hwx hxm
          go_upto_region 13 with fail
          have k10 : Frame' (fun b => b = w6.heap.size ∨ b = g) w8 ((((w8.alloc (.cells #[.int .i64 x] 3)).alloc (.cells #[.int .i64 x] 3)).setCell ⟨w6.heap.size, 4, none⟩ (.slice (some ⟨w8.heap.size, 0, none⟩) 1 1)).setCell ⟨g, 0, none⟩ (.slice (some ⟨w8.heap.size + 1, 0, none⟩) 1 1)) := ((((Frame'.refl (fun b => b = w6.heap.size ∨ b = g) w8).alloc (.cells #[.int .i64 x] 3)).alloc (.cells #[.int .i64 x] 3)).setCell (p := ⟨w6.heap.size, 4, none⟩) (.inl (.inl rfl)) _).setCell (p := ⟨g, 0, none⟩) (.inl (.inr rfl)) _
          have hD10 : Has ((((w8.alloc (.cells #[.int .i64 x] 3)).alloc (.cells #[.int .i64 x] 3)).setCell ⟨w6.heap.size, 4, none⟩ (.slice (some ⟨w8.heap.size, 0, none⟩) 1 1)).setCell ⟨g, 0, none⟩ (.slice (some ⟨w8.heap.size + 1, 0, none⟩) 1 1)) w6.heap.size 41 #[.slice A5 n5 c5, .bool false, .slice An nn cn, .slice Ad nd cd, .slice (some ⟨w8.heap.size, 0, none⟩) 1 1, .slice none 0 0] := (((hD8.alloc _).alloc _).put 4 _).far (p := ⟨g, 0, none⟩) (show w6.heap.size ≠ g by omega) _
          have hG10 : Has ((((w8.alloc (.cells #[.int .i64 x] 3)).alloc (.cells #[.int .i64 x] 3)).setCell ⟨w6.heap.size, 4, none⟩ (.slice (some ⟨w8.heap.size, 0, none⟩) 1 1)).setCell ⟨g, 0, none⟩ (.slice (some ⟨w8.heap.size + 1, 0, none⟩) 1 1)) g 73 #[.slice (some ⟨w8.heap.size + 1, 0, none⟩) 1 1, rn, vt, .slice A2 n2 c2] := (((hG8.alloc _).alloc _).far (p := ⟨w6.heap.size, 4, none⟩) (show g ≠ w6.heap.size by omega) _).put 0 _
          have hE1 : Has ((((w8.alloc (.cells #[.int .i64 x] 3)).alloc (.cells #[.int .i64 x] 3)).setCell ⟨w6.heap.size, 4, none⟩ (.slice (some ⟨w8.heap.size, 0, none⟩) 1 1)).setCell ⟨g, 0, none⟩ (.slice (some ⟨w8.heap.size + 1, 0, none⟩) 1 1)) w8.heap.size 3 #[.int .i64 x] := (((Has.new w8 3 #[.int .i64 x]).alloc _).far (p := ⟨w6.heap.size, 4, none⟩) (show w8.heap.size ≠ w6.heap.size by omega) _).far (p := ⟨g, 0, none⟩) (show w8.heap.size ≠ g by omega) _
          have hE2 : Has ((((w8.alloc (.cells #[.int .i64 x] 3)).alloc (.cells #[.int .i64 x] 3)).setCell ⟨w6.heap.size, 4, none⟩ (.slice (some ⟨w8.heap.size, 0, none⟩) 1 1)).setCell ⟨g, 0, none⟩ (.slice (some ⟨w8.heap.size + 1, 0, none⟩) 1 1)) (w8.heap.size + 1) 3 #[.int .i64 x] := ((Has.new2 w8 _ 3 #[.int .i64 x]).far (p := ⟨w6.heap.size, 4, none⟩) (show w8.heap.size + 1 ≠ w6.heap.size by omega) _).far (p := ⟨g, 0, none⟩) (show w8.heap.size + 1 ≠ g by omega) _
          generalize World.setCell (World.setCell _ _ _) _ _ = WA at k10 hD10 hG10 hE1 hE2 ⊢
          clear d4 e4 g0 f0
          have kw : Frame' (fun b => b < wr.heap.size ∨ b = w6.heap.size) w8 WA := k10.mono fun b _ h => by omega
          have hA8 := k10.size
          have hel := lit_ints hE1 (x := x) ⟨by omega, by omega⟩
          have hou := RInts.nil_ WA
          have hfe : ∀ b, fpS (some ⟨w8.heap.size, 0, none⟩) 1 b → wr.heap.size ≤ b := fun b hb => by have e := fpS_some hb; omega
          have hfo : ∀ b, fpS (none : Option Addr) 0 b → wr.heap.size ≤ b := fun b hb => (fpS_none 0 b hb).elim
          have HOR := (st.hR.below hbr8).frame k10 (fun b hb h => by have h1 := st.frS b hb; have h2 := st.hR.fp_lt hb; omega) (fun b hb h => by have h1 := st.hR.lt hb; omega)
          have HOT := (st.hT.below hbr8).frame k10 (fun b hb h => by have h1 := st.ftS b hb; have h2 := st.hT.fp_lt hb; omega) (fun b hb h => by have h1 := st.hT.lt hb; omega)
          have HB : Below W0.heap.size W0 WA := Frame'.below (Below_trans' st.hb st.hb.size hbr8) k10 (fun b h => by have h1 := st.dis; omega) (by omega)
          have HO5 := (hO5.below hb58).frame kw (fun b hb h => by have h1 := Hf5.out b hb; have h2 := hO5.fp_lt hb; omega) (fun b hb h => by have h1 := hO5.lt hb; omega)
          have HN := (hn6.below hb68).frame kw (fun b hb h => by have h1 := Hf6.out b (.inl hb); have h2 := hn6.on.1 b hb; omega)
          have HDn := (hd6.below hb68).frame kw (fun b hb h => by have h1 := Hf6.out b (.inr hb); have h2 := hd6.on.1 b hb; omega)
          have hEr := rnd_on HO5 HN HDn hel hou
          have hfp : ∀ b, fpR fp5 An nn Ad nd _ _ _ _ (.slice A5 n5 c5) b → wr.heap.size ≤ b ∧ b < WA.heap.size := fun b hb => by
            have hz := hEr.1 b hb
            refine ⟨?_, hz⟩
            rcases hb with ((hb | hb) | hb | hb) | hb | hb
            · have h1 := Hf5.out b hb; omega
            · have h1 := (hO5.lt hb).1; omega
            · have h1 := Hf6.out b (.inl hb); omega
            · have h1 := Hf6.out b (.inr hb); omega
            · have h1 := hfe b hb; omega
            · have h1 := hfo b hb; omega
          obtain ⟨v', w', h41, hA⟩ := app_put infoRnd Tryz.underlying28 rfl (by decide) (by decide) 1 hG10 HOR hEr rfl (by simp [Value.oneCell']) (fun b hb h => by have h1 := st.hR.lt hb; have h2 := hfp b h; omega) (fun h => by have h1 := st.frS g h; omega) (fun h => by have h1 := hfp g h; omega) (fun h => by have h1 := st.hR.lt h; omega) (by omega) (by omega)
          have y2 := hG10.cell 1
          have r0 := hD10.cell 0
          have r1 := hD10.cell 1
          have r2 := hD10.cell 2
          have r3 := hD10.cell 3
          have r4 := hD10.cell 4
          have r5 := hD10.cell 5
          refine wp_region_flow [0, 1, 2, 3, 4, 5, 6] (fun w' => ∃ q, w' = Alt WA [g, w6.heap.size] q) (by kernel_rfl) (by kernel_rfl) (altC_drew _ _) ?_
          simp only [pickOps, List.getElem?_cons_zero, List.getElem?_cons_succ]
          repeat (go_big_quiet_step (fail))
          refine wpQuiet_nil ?_
          clear y2 r0 r1 r2 r3 r4 r5
          have hDl : ∀ b ∈ [g, w6.heap.size], b < WA.heap.size ∧ ¬ rn.ownBlock = some b := by
            intro b hb
            simp only [List.mem_cons, List.not_mem_nil, or_false] at hb
            rcases hb with rfl | rfl
            · exact ⟨hG10.lt, fun e => by have h1 := st.hR.lt e; omega⟩
            · exact ⟨hD10.lt, fun e => by have h1 := st.hR.lt e; omega⟩
          refine flow_one 7 (by kernel_rfl) rfl ?_
          go_wp2
          refine FlowPost.mk ⟨altC_below (((Below.refl _ _).alloc (Nat.le_refl _) _).drew) (fun b hb => (hDl b hb).1), ?_⟩
          refine flow_one 8 (by kernel_rfl) rfl ?_
          have Hrnb : Hid (∀ b, rn.ownBlock = some b → S0 ≤ b ∧ b < wr.heap.size) := fun b e => st.hR.lt e
          obtain ⟨Arn, nrn, crn, rfl⟩ : ∃ Arn nrn crn, rn = .slice Arn nrn crn := let ⟨A, c, e⟩ := st.hR.slice; ⟨A, _, c, e⟩
          go_wp2_with (at_builtin; refine list_app rfl rfl rfl rfl h41 ?_)
          refine FlowPost.mk ⟨altC_frame hA.fr1 hDl, ?_⟩
          refine flow_rest [9, 10, 11, 12] (by kernel_rfl) ?_
          simp only [pickOps, List.getElem?_cons_zero, List.getElem?_cons_succ]
          obtain ⟨Av', nv', cv', rfl⟩ : ∃ Av nv cv, v' = .slice Av nv cv := let ⟨A, c, e⟩ := hA.own.slice; ⟨A, _, c, e⟩
          have q1 := hA.hg.cell 1
          have f9 := hA.hg.free 1
          have hPut := hA.put
          have hOwn := hA.own
          have hF2 := hA.fr2
          have hBlk : Hid (∀ b, (Value.slice Av' nv' cv').ownBlock = some b → (S0 ≤ b ∧ b < wr.heap.size ∧ (Value.slice Arn nrn crn).ownBlock = some b) ∨ WA.heap.size ≤ b) := fun b e => by
            rcases hA.blk with h1 | ⟨b', h1, h2⟩
            · rw [h1] at e; have := Hrnb.out b e; exact .inl ⟨this.1, this.2, e⟩
            · rw [h1] at e; cases e; exact .inr h2
          have HB2 := Frame'.below HB hF2 (fun b h' => by have h1 := st.dis; rcases h' with h' | h'; omega; have h4 := Hrnb.out b h'; omega) HB.size
          obtain ⟨Avt, nvt, cvt, rfl⟩ : ∃ Avt nvt cvt, vt = .slice Avt nvt cvt := let ⟨A, c, e⟩ := st.hT.slice; ⟨A, _, c, e⟩
          have hE3 := hF2.has hE2 (fun h => by rcases h with e | e; omega; have := Hrnb.out _ e; omega)
          have HOT2 := HOT.frame hF2 (fun b hb h' => h'.elim (fun e => by have h1 := st.ftS b hb; omega) (fun e => st.x1 b e hb)) (fun b hb h' => h'.elim (fun e => by have h1 := st.hT.lt hb; omega) (fun e => st.x3 b e hb))
          have hQ := hQ0.below HB2 hQ0.lt
          have hx := hide (Hci.out.won (x := x) (by rw [HHad.out]; exact Hw.out))
          rw [HHad.out, HLost.out] at hx
          go_upto_region 14 with fail
          have hSw := hF2.size
          generalize World.setCell w' _ _ = WB at hPut hOwn hF2 HB2 hE3 HOT2 hQ hSw ⊢
          have u0 := hPut.cell 0
          have u1 := hPut.cell 1
          have u2 := hPut.cell 2
          have z0 := hQ.cell 0
          have z1 := hQ.cell 1
          have z2 := hQ.cell 2
          have f0 := hQ.free 0
          have f1 := hQ.free 1
          have f2 := hQ.free 2
          have hRp := put3 (x' := .slice (some ⟨w8.heap.size + 1, 0, none⟩) 1 1) (y' := .slice Av' nv' cv') (z' := .slice Avt nvt cvt) hQ
          have kF := frame3 WB V.heap.size (.slice (some ⟨w8.heap.size + 1, 0, none⟩) 1 1) (.slice Av' nv' cv') (.slice Avt nvt cvt)
          go_wp2
          refine retOutEnd1 rfl rfl hRp rfl rfl ⟨_, _, _, _, _, _, _, _, _, rfl, ?_, Frame'.below (Below_trans' hbw0 hbw0.size HB2) kF (fun b e => by omega) (by have := HB2.size; omega)⟩
          rw [hx.out]
          refine ⟨((lit_ints hE3 (x := x) ⟨by omega, by omega⟩).on.frame kF (fun b hb e => by have e1 := fpS_some hb; omega)).get, (hOwn.frame kF (fun b hb e => by rcases hb with hb | hb; have h1 := st.frS b hb; omega; have h1 := hfp b hb; omega) (fun b hb e => by rcases hBlk.out b hb with h1 | h1 <;> omega)).reads, (HOT2.frame kF (fun b hb e => by have h1 := st.ftS b hb; omega) (fun b hb e => by have h1 := st.hT.lt hb; omega)).reads⟩
        · have Hwn := hide hwn
          have hmsub := most_sub l C left
          have hxm := most_last (l := l) Hci.out.sub Hci.out.ne Hlot.out
          have hmne := List.length_pos_iff.2 (most_ne (l := l) (C := C) Hci.out.ne)
          have hmle := hmsub.length_le
          have Hpw := hide (((pairwise_rangeI C).sublist Hci.out.sub).sublist hmsub)
          have Hin := hide (fun x (hx : x ∈ mostS l C left) => lot_in Hlot.out (Hci.out.sub.subset (hmsub.subset hx)))
          have hmr := hide (fun x (hx : x ∈ mostS l C left) => hmem.out x (hmsub.subset hx))
          have hn2 : n2 ≤ 1000 := by have h1 := st.hlot.len; have h2 := hltc.out; omega
          rw [Hnl.out] at hmle
          clear hwn hmsub
          go_wp2_with fail
          refine (out_any C A n cp l Al' nl cl' left w8 (h.below (Below_trans' hbwr hbwr.size hbr8)) HK.out Hnd.out (hRL.below hbr8) ((nodup_rangeI C).sublist Hci.out.sub) hmem.out hnl10).mono ?_
          rintro e w9 ⟨v9, rfl, hO9, hb9⟩
          have hO9 : Own w9 w8.heap.size v9 (mostS l C left) := hO9
          obtain ⟨A9, c9, rfl⟩ := hO9.slice
          have hR9 := hO9.ints (fun x hx => by have := hmr.out x hx; omega)
          have hbr9 := Below_trans' hbr8 hbr8.size hb9
          have z9 := hb9.size
          have hla := plast_any g S0 (.slice none 0 0) rn vt A2 n2 c2 lot ft ts A9 _ c9 (mostS l C left) w9 (hG8.below hb9 hG8.lt) (by omega) (st.hT.below hbr9) (fun h => by have := st.ftS g h; omega) (fun h => by have := st.hT.lt h; omega) (st.hlot.below hbr9) hn2 hR9 (by omega) hmne Hpw.out Hin.out (by omega)
          generalize hx : lastS lot (mostS l C left) = x at hla hxm
          have Hx := hide hx
          have hxr := hmr.out x hxm
          generalize (mostS l C left).length = n9 at hla hR9 hmne hmle ⊢
          clear hO9 hx hxm
          go_wp2_with fail
          refine hla.mono ?_
          intro e wc hT
          obtain ⟨rfl, vt', ft', hGc, hTc, hfc, hvc, hFc⟩ := hT
          clear hla
          have zc := hFc.size
          obtain ⟨X, rfl⟩ : ∃ X : Nat, x = X := ⟨x.toNat, by omega⟩
          have hvtw : ∀ b, vt.ownBlock = some b → S0 ≤ b ∧ b < wr.heap.size := fun b e => st.hT.lt e
          have Hvtw := hide hvtw
          have hdis := st.dis
          have hDc := hFc.has (hD8.below hb9 hD8.lt) (fun h => by rcases h with e | e; omega; have := hvtw _ e; omega)
          have hSc := (st.hS.below hbr9).frame hFc (fun h => by rcases h with e | e; omega; have := hvtw _ e; omega)
          have hLc := (st.hL.below hbr9).frame hFc (fun b' e h => by rw [st.hq] at e; cases e; rcases h with e | e; omega; have := hvtw _ e; omega)
          have hLOTc := ((st.hlot.below hbr9).on.frame hFc (fun b' hb h => by have h1 := st.lotb b' hb; rcases h with e | e; omega; have := hvtw _ e; omega)).get
          clear hvtw
          go_upto_region 16 with fail
          have hbN : Below wc.heap.size wc (wc.alloc (.cells #[.int .i64 (X : Int)] 3)) := (Below.refl _ _).alloc (Nat.le_refl _) _
          have hN11 := Has.new wc 3 #[.int .i64 (X : Int)]
          generalize World.alloc wc _ = w11 at hbN hN11 ⊢
          have z11 : wc.heap.size < w11.heap.size := hN11.lt
          have hSl : bs.length = C := Hso.out.1
          have hS11 := hSc.below hbN
          obtain ⟨⟨u, hu⟩, hfu, hBs⟩ := hS11.at hSl (show X < C by omega)
          have n0 := hN11.cell 0
          go_upto_region 17 with fail
          have hS12 := hS11.set hSl X false
          have k12 : Frame' (fun b' => b' = s) w11 (w11.setCell ⟨s, X, none⟩ (.bool false)) := Frame'.setCell (p := ⟨s, X, none⟩) (Frame'.refl (fun b' => b' = s) w11) (.inl rfl) _
          generalize World.setCell w11 _ _ = w12 at hS12 k12 ⊢
          clear hu hfu n0
          have hs11 : s < wc.heap.size := hSc.lt.2
          have hN12 := k12.has hN11 (fun e => by omega)
          have hL12 := (hLc.below hbN).frame k12 (fun b' e h => by rw [st.hq] at e; cases e; omega)
          have hSo := Hso.out.out (X := X) (by omega)
          have Hso2 := hide hSo
          clear hSo
          have eg : ∀ args w, (callFunc 81 args).run Tryz.prog w = .ok (.enter 81 args) w := enters_of Tryz.func81 (by kernel_rfl) rfl
          have hq1 := st.hq
          have hqw : b < wr.heap.size := by omega
          have hdl := deleteFunc_at 81 eg (fun y => decide (y = (X : Int))) #[.pointer (some ⟨wc.heap.size, 0, none⟩)] W0.heap.size Al' nl cl' left w12 hL12 (fun y hy => by have := hmem.out y hy; omega) (fun W hW y => by
            refine (del1_any wc.heap.size y X W ?_).mono ?_
            · rw [(hW.has hN12 (fun e => by rw [hq1] at e; cases e; omega)).cell]; rfl
            · rintro e w' ⟨rfl, rfl⟩
              exact ⟨rfl, Below.refl _ _⟩)
          go_wp2_with fail
          refine hdl.mono ?_
          rintro e w13 ⟨Ad', nd', cd', rfl, hL13, hqd, hFd⟩
          clear hdl
          have hL13 : Own w13 W0.heap.size (.slice Ad' nd' cd') (outS left (X : Int)) := hL13
          have hFd : Frame' (fun b' => b' = b) w12 w13 := hFd.mono fun b' _ e => by rw [hq1] at e; cases e; rfl
          have k1113 : Frame' (fun b' => b' = s ∨ b' = b) w11 w13 := (k12.mono fun _ _ h => .inl h).trans (hFd.mono fun _ _ h => .inr h)
          have hN13 := hFd.has hN12 (fun e => by omega)
          have hD13 := k1113.has (hDc.below hbN hDc.lt) (fun e => by omega)
          have n0 := hN13.cell 0
          have d5 := hD13.cell 5
          have e5 := hD13.free 5
          have z13 := k1113.size
          go_upto_region 19 with fail
          have hO14 : Has ((w13.alloc (.cells #[.int .i64 (X : Int)] 3)).setCell ⟨w6.heap.size, 5, none⟩ (.slice (some ⟨w13.heap.size, 0, none⟩) 1 1)) w13.heap.size 3 #[.int .i64 (X : Int)] := (Has.new w13 3 #[.int .i64 (X : Int)]).far (p := ⟨w6.heap.size, 5, none⟩) (Ne.symm (Nat.ne_of_lt hD13.lt)) _
          have k14 : Frame' (fun b' => b' = w6.heap.size) w13 ((w13.alloc (.cells #[.int .i64 (X : Int)] 3)).setCell ⟨w6.heap.size, 5, none⟩ (.slice (some ⟨w13.heap.size, 0, none⟩) 1 1)) := Frame'.setCell (p := ⟨w6.heap.size, 5, none⟩) ((Frame'.refl (fun b' => b' = w6.heap.size) w13).alloc (.cells #[.int .i64 (X : Int)] 3)) (.inl rfl) _
          have hD10 : Has ((w13.alloc (.cells #[.int .i64 (X : Int)] 3)).setCell ⟨w6.heap.size, 5, none⟩ (.slice (some ⟨w13.heap.size, 0, none⟩) 1 1)) w6.heap.size 41 #[.slice A5 n5 c5, .bool false, .slice An nn cn, .slice Ad nd cd, .slice none 0 0, .slice (some ⟨w13.heap.size, 0, none⟩) 1 1] := (hD13.alloc (.cells #[.int .i64 (X : Int)] 3)).put 5 (.slice (some ⟨w13.heap.size, 0, none⟩) 1 1)
          generalize World.setCell _ _ _ = WA at hO14 k14 hD10 ⊢
          clear n0 d5 e5
          have z14 := k14.size
          have kc : Frame' (fun b' => b' = s ∨ b' = b ∨ b' = w6.heap.size) wc WA := ((Frame'.of_below hbN).trans (k1113.mono fun b' _ h => by omega)).trans (k14.mono fun b' _ h => by omega)
          have kp : Frame' (fun b' => (b' = g ∨ vt.ownBlock = some b') ∨ b' = s ∨ b' = b ∨ b' = w6.heap.size) w8 WA := ((Frame'.of_below hb9).trans (hFc.mono fun _ _ h => .inl h)).trans (kc.mono fun _ _ h => .inr h)
          have kw : Frame' (fun b' => b' < wr.heap.size ∨ b' = w6.heap.size) w8 WA := kp.mono fun b' _ h' => by
            rcases h' with (h' | h') | h'
            · omega
            · have := Hvtw.out b' h'; omega
            · omega
          have hel := RInts.nil_ WA
          have hou := lit_ints hO14 (x := (X : Int)) ⟨by omega, by omega⟩
          have hfe : ∀ b, fpS (none : Option Addr) 0 b → wr.heap.size ≤ b := fun b hb => (fpS_none 0 b hb).elim
          have hfo : ∀ b, fpS (some ⟨w13.heap.size, 0, none⟩) 1 b → wr.heap.size ≤ b := fun b hb => by have e := fpS_some hb; omega
          have hG10 := kc.has hGc (fun e => by omega)
          have HOR := (st.hR.below hbr8).frame kp (fun b' hb h' => by have h1 := st.frS b' hb; have h2 := st.hR.fp_lt hb; rcases h' with (h' | h') | h'; omega; exact st.x2 b' h' hb; omega) (fun b' hb h' => by have h1 := st.hR.lt hb; rcases h' with (h' | h') | h'; omega; exact st.x3 b' hb h'; omega)
          have hft' : Hid (∀ b', ft' b' → (ft b' ∧ S0 ≤ b' ∧ b' < wr.heap.size) ∨ (w9.heap.size ≤ b' ∧ b' < wc.heap.size)) := fun b' hb' => (hfc b' hb').imp (fun h' => ⟨h', st.ftS b' h', st.hT.fp_lt h'⟩) fun h' => ⟨h', hTc.fp_lt hb'⟩
          have hvt' : Hid (∀ b', vt'.ownBlock = some b' → (vt.ownBlock = some b' ∧ S0 ≤ b' ∧ b' < wr.heap.size) ∨ (w9.heap.size ≤ b' ∧ b' < wc.heap.size)) := fun b' e => by
            rcases hvc with h' | ⟨b2, h', h''⟩
            · rw [h'] at e; exact .inl ⟨e, Hvtw.out b' e⟩
            · have h3 := (hTc.lt e).2; rw [h'] at e; cases e; exact .inr ⟨h'', h3⟩
          have HOT := hTc.frame kc (fun b' hb h' => by rcases hft'.out b' hb with h1 | h1 <;> omega) (fun b' hb h' => by rcases hvt'.out b' hb with h1 | h1 <;> omega)
          have HB : Below W0.heap.size W0 WA := Frame'.below (Below_trans' st.hb st.hb.size hbr8) kp (fun b' h' => by
            rcases h' with (h' | h') | h'
            · omega
            · have := Hvtw.out b' h'; omega
            · omega) (by omega)
          have hLA := hL13.frame k14 (fun b' hb h' => by rw [hqd, hq1] at hb; cases hb; omega)
          have hSA := (hS12.frame hFd (fun e => by omega)).frame k14 (fun e => by omega)
          have hLOTA := (hLOTc.on.frame kc (fun b' hb h' => by have h1 := st.lotb b' hb; omega)).get
          have HO5 := (hO5.below hb58).frame kw (fun b hb h => by have h1 := Hf5.out b hb; have h2 := hO5.fp_lt hb; omega) (fun b hb h => by have h1 := hO5.lt hb; omega)
          have HN := (hn6.below hb68).frame kw (fun b hb h => by have h1 := Hf6.out b (.inl hb); have h2 := hn6.on.1 b hb; omega)
          have HDn := (hd6.below hb68).frame kw (fun b hb h => by have h1 := Hf6.out b (.inr hb); have h2 := hd6.on.1 b hb; omega)
          have hEr := rnd_on HO5 HN HDn hel hou
          have hfp : ∀ b, fpR fp5 An nn Ad nd _ _ _ _ (.slice A5 n5 c5) b → wr.heap.size ≤ b ∧ b < WA.heap.size := fun b hb => by
            have hz := hEr.1 b hb
            refine ⟨?_, hz⟩
            rcases hb with ((hb | hb) | hb | hb) | hb | hb
            · have h1 := Hf5.out b hb; omega
            · have h1 := (hO5.lt hb).1; omega
            · have h1 := Hf6.out b (.inl hb); omega
            · have h1 := Hf6.out b (.inr hb); omega
            · have h1 := hfe b hb; omega
            · have h1 := hfo b hb; omega
          obtain ⟨v', w', h41, hA⟩ := app_put infoRnd Tryz.underlying28 rfl (by decide) (by decide) 1 hG10 HOR hEr rfl (by simp [Value.oneCell']) (fun b hb h => by have h1 := st.hR.lt hb; have h2 := hfp b h; omega) (fun h => by have h1 := st.frS g h; omega) (fun h => by have h1 := hfp g h; omega) (fun h => by have h1 := st.hR.lt h; omega) (by omega) (by omega)
          have y2 := hG10.cell 1
          have r0 := hD10.cell 0
          have r1 := hD10.cell 1
          have r2 := hD10.cell 2
          have r3 := hD10.cell 3
          have r4 := hD10.cell 4
          have r5 := hD10.cell 5
          refine wp_region_flow [0, 1, 2, 3, 4, 5, 6] (fun w' => ∃ q, w' = Alt WA [g, w6.heap.size] q) (by kernel_rfl) (by kernel_rfl) (altC_drew _ _) ?_
          simp only [pickOps, List.getElem?_cons_zero, List.getElem?_cons_succ]
          repeat (go_big_quiet_step (fail))
          refine wpQuiet_nil ?_
          clear y2 r0 r1 r2 r3 r4 r5
          have hDl : ∀ b ∈ [g, w6.heap.size], b < WA.heap.size ∧ ¬ rn.ownBlock = some b := by
            intro b hb
            simp only [List.mem_cons, List.not_mem_nil, or_false] at hb
            rcases hb with rfl | rfl
            · exact ⟨hG10.lt, fun e => by have h1 := st.hR.lt e; omega⟩
            · exact ⟨hD10.lt, fun e => by have h1 := st.hR.lt e; omega⟩
          refine flow_one 7 (by kernel_rfl) rfl ?_
          go_wp2
          refine FlowPost.mk ⟨altC_below (((Below.refl _ _).alloc (Nat.le_refl _) _).drew) (fun b hb => (hDl b hb).1), ?_⟩
          refine flow_one 8 (by kernel_rfl) rfl ?_
          have Hrnb : Hid (∀ b, rn.ownBlock = some b → S0 ≤ b ∧ b < wr.heap.size) := fun b e => st.hR.lt e
          obtain ⟨Arn, nrn, crn, rfl⟩ : ∃ Arn nrn crn, rn = .slice Arn nrn crn := let ⟨A, c, e⟩ := st.hR.slice; ⟨A, _, c, e⟩
          go_wp2_with (at_builtin; refine list_app rfl rfl rfl rfl h41 ?_)
          refine FlowPost.mk ⟨altC_frame hA.fr1 hDl, ?_⟩
          refine flow_rest [9, 10, 11, 12] (by kernel_rfl) ?_
          simp only [pickOps, List.getElem?_cons_zero, List.getElem?_cons_succ]
          obtain ⟨Av', nv', cv', rfl⟩ : ∃ Av nv cv, v' = .slice Av nv cv := let ⟨A, c, e⟩ := hA.own.slice; ⟨A, _, c, e⟩
          have q1 := hA.hg.cell 1
          have f9 := hA.hg.free 1
          have hPut := hA.put
          have hOwn := hA.own
          have hF2 := hA.fr2
          have hBlk : Hid (∀ b, (Value.slice Av' nv' cv').ownBlock = some b → (S0 ≤ b ∧ b < wr.heap.size ∧ (Value.slice Arn nrn crn).ownBlock = some b) ∨ WA.heap.size ≤ b) := fun b e => by
            rcases hA.blk with h1 | ⟨b', h1, h2⟩
            · rw [h1] at e; have := Hrnb.out b e; exact .inl ⟨this.1, this.2, e⟩
            · rw [h1] at e; cases e; exact .inr h2
          have HB2 := Frame'.below HB hF2 (fun b h' => by have h1 := st.dis; rcases h' with h' | h'; omega; have h4 := Hrnb.out b h'; omega) HB.size
          have hnx := Hci.out.next Hlot.out (by rw [HHad.out]; exact Hwn.out)
          rw [HHad.out, HLost.out, Hx.out] at hnx
          have hlt := hnx.2
          have Hnx := hide hnx.1
          clear hnx
          have HOT2 := HOT.frame hF2 (fun b' hb h' => by
            rcases hft'.out b' hb with h1 | h1
            · exact h'.elim (fun e => by omega) (fun e => st.x1 b' e h1.1)
            · exact h'.elim (fun e => by omega) (fun e => by have := Hrnb.out b' e; omega)) (fun b' hb h' => by
            rcases hvt'.out b' hb with h1 | h1
            · exact h'.elim (fun e => by omega) (fun e => st.x3 b' e h1.1)
            · exact h'.elim (fun e => by omega) (fun e => by have := Hrnb.out b' e; omega))
          have hfp2 : ∀ b', fpR fp5 An nn Ad nd none 0 (some ⟨w13.heap.size, 0, none⟩) 1 (.slice A5 n5 c5) b' → b' < w8.heap.size ∨ b' = w13.heap.size := fun b' hb => by
            rcases hb with ((hb | hb) | hb | hb) | hb | hb
            · have h1 := hO5.fp_lt hb; omega
            · have h1 := (hO5.lt hb).2; omega
            · have h1 := hn6.on.1 b' hb; omega
            · have h1 := hd6.on.1 b' hb; omega
            · exact (fpS_none 0 b' hb).elim
            · exact .inr (fpS_some hb)
          have hst2 : CSt W0.heap.size S0 g b s C A2 n2 c2 lot W0 (w'.setCell ⟨g, 1, none⟩ (.slice Av' nv' cv')) (.slice Av' nv' cv') vt' Ad' nd' cd' (outS left (X : Int)) (bs.set X false) (rs ++ [rndS had lost [] [(X : Int)]]) (tiedS ts (mostS l C left) (X : Int)) (fun b' => fr b' ∨ fpR fp5 An nn Ad nd none 0 (some ⟨w13.heap.size, 0, none⟩) 1 (.slice A5 n5 c5) b') ft' := {
            hb := HB2
            bS := by have := hF2.size; omega
            hG := hPut
            hL := hLA.frame hF2 (fun b' hb h' => by rw [hqd, hq1] at hb; cases hb; rcases h' with e | e; omega; have := Hrnb.out _ e; omega)
            hq := hqd.trans hq1
            hS := hSA.frame hF2 (fun h' => by rcases h' with e | e; omega; have := Hrnb.out _ e; omega)
            hlot := (hLOTA.on.frame hF2 (fun b' hb h' => by have h1 := st.lotb b' hb; rcases h' with e | e; omega; have := Hrnb.out _ e; omega)).get
            lotb := st.lotb
            hR := hOwn
            hT := HOT2
            frS := fun b' hb => by rcases hb with hb | hb; exact st.frS b' hb; have := hfp b' hb; omega
            ftS := fun b' hb => by rcases hft'.out b' hb with h1 | h1 <;> omega
            dis := hdis
            x1 := fun b' e hb => by
              rcases hBlk.out b' e with h1 | h1
              · rcases hft'.out b' hb with h2 | h2
                · exact st.x1 b' h1.2.2 h2.1
                · omega
              · have := HOT.fp_lt hb; omega
            x2 := fun b' e hb => by
              rcases hb with hb | hb
              · rcases hvt'.out b' e with h1 | h1
                · exact st.x2 b' h1.1 hb
                · have := st.hR.fp_lt hb; omega
              · have h2 := hfp b' hb
                have h3 := hfp2 b' hb
                rcases hvt'.out b' e with h1 | h1
                · omega
                · omega
            x3 := fun b' e e2 => by
              rcases hBlk.out b' e with h1 | h1
              · rcases hvt'.out b' e2 with h2 | h2
                · exact st.x3 b' h1.2.2 h2.1
                · omega
              · have := (HOT.lt e2).2; omega }
          have Hst2 := hide hst2
          clear hst2 hPut hOwn HOT2 hA
          go_wp2
          go_roundg (outS left (X : Int)).length
          case measure => exact hlt
          case rel => exact ⟨_, _, _, _, _, _, _, _, _, _, _, rfl, rfl, Hnx.out, Hso2.out, Hst2.out⟩

set_option maxRecDepth 100000 in
set_option maxHeartbeats 2000000 in
theorem pcountB_any (c k : Int) (A : Option Addr) (n cp : Nat) (l : List Row) (seats : Int) (At : Option Addr) (nt ct : Nat) (lot : List Int) (w : World) (h : RRows w A n cp l) (h' : RInts w At nt ct lot) (hn : nt ≤ 1000) :
    Calls Tryz.prog 22 #[.agg #[.int .i64 c, .int .u8 k, .slice A n cp], .int .i64 seats, .slice At nt ct] w (OutPost w (runB c k l seats lot) (mayS c k l 1 seats 1 lot)) := by
  have hb0 : Below w.heap.size w (w.alloc (.cells #[.int .i64 c, .int .u8 k, .slice A n cp] 24)) := (Below.refl _ _).alloc (Nat.le_refl _) _
  have hH0 := Has.new w 24 #[.int .i64 c, .int .u8 k, .slice A n cp]
  generalize hV : World.alloc w _ = V at hb0 hH0
  have hbv : Below V.heap.size V (V.alloc (.cells #[.slice none 0 0, .slice none 0 0, .slice none 0 0] 31)) := (Below.refl _ _).alloc (Nat.le_refl _) _
  have hR0 := Has.new V 31 #[.slice none 0 0, .slice none 0 0, .slice none 0 0]
  have hP0 := hH0.below hbv hH0.lt
  have hb00 := Below_trans' hb0 hb0.size hbv
  generalize hW : World.alloc V _ = W0 at hbv hR0 hP0 hb00
  have hgw : w.heap.size < V.heap.size := hH0.lt
  have s0 := hP0.cell 0
  have s1 := hP0.cell 1
  have s2 := hP0.cell 2
  go_enter Tryz.func22, Tryz.ntmps22
  go_wp2_with fail
  try simp only [hV, hW]
  clear hV hW
  refine (ccheck_any c k A n cp l 1 seats 1 At nt ct lot W0 (h.below hb00) (h'.below hb00) hn).mono ?_
  rintro e w1 ⟨rfl, hb1⟩
  have hb01 := Below_trans' hb00 hb00.size hb1
  have hP1 := hP0.below hb1 hP0.lt
  have hR1 := hR0.below hb1 hR0.lt
  clear s0 s1 s2 hH0 hP0 hR0
  by_cases hE : mayS c k l 1 seats 1 lot = 0
  · have e1 : (mayS c k l 1 seats 1 lot != 0) = false := by simp [hE]
    obtain ⟨hc0, hk0, hs1, hs2, hs3, hlot⟩ := may_zero hE
    subst hk0
    have hcs := check_ok hc0
    obtain ⟨C, rfl⟩ : ∃ C : Nat, c = (C : Int) := ⟨c.toNat, by omega⟩
    have hrds := rounds_any C A n cp l At nt ct lot w1 (h.below hb01) (h'.below hb01) hc0 hlot hn
    have hro := hide (runB_ok hE)
    have hE0 := hide hE
    have r0 := hP1.cell 0
    have r1 := hP1.cell 1
    have r2 := hP1.cell 2
    clear hcs hE hc0 hlot
    go_wp2_with fail
    refine hrds.mono ?_
    rintro e w5 ⟨Ae, ne, ce, Ar, nr, cr, Av, nv, cv, rfl, hO, hb5⟩
    have hR5 := hR1.below hb5 hR1.lt
    have f0 := hR5.free 0
    have f1 := hR5.free 1
    have f2 := hR5.free 2
    have q0 := hR5.cell 0
    have q1 := hR5.cell 1
    have q2 := hR5.cell 2
    clear hrds r0 r1 r2
    go_wp2
    have hfr := frame3 w5 V.heap.size (.slice Ae ne ce) (.slice Ar nr cr) (.slice Av nv cv)
    refine retOut2 rfl rfl rfl (put3 hR5) rfl rfl ⟨Ae, ne, ce, Ar, nr, cr, Av, nv, cv, by rw [hE0.out]; rfl, ?_, below3 (Below_trans' hb01 hb01.size hb5) (by omega) _ _ _⟩
    rw [hro.out, Int.toNat_natCast]
    exact hO.far hR5 (fun b hb hne => hfr.block b hb hne)
  · have e1 : (mayS c k l 1 seats 1 lot != 0) = true := by simp [hE]
    have hro := hide (runB_bad hE)
    have q0 := hR1.cell 0
    have q1 := hR1.cell 1
    have q2 := hR1.cell 2
    have f0 := hR1.free 0
    have f1 := hR1.free 1
    have f2 := hR1.free 2
    go_wp2
    refine retOut2 rfl rfl rfl (put3 hR1) rfl rfl ⟨none, 0, 0, none, 0, 0, none, 0, 0, rfl, ?_, below3 hb01 (by omega) _ _ _⟩
    rw [hro.out]
    exact ROut.nil_ _
end Go.Proofs.YthkkadmgcicedaaGreat

namespace Go.Proofs.YthkkadmgcicedaaGreat
open Go.RowKit Go.Proofs Go.Shelf
attribute [local go_sem] cell?_more cell?_alloc_some cell?_setCell_far frozen?_alloc_some frozen?_more
def ex16p : List Row := [([0, 1, 2], 4), ([1, 0, 2], 3), ([2, 1, 0], 2)]
def ex16o : Outc := ([1], [rndS [4, 3, 2] 0 [] [2], rndS [4, 5, 0] 0 [1] []], [])
theorem ex16_m1 : mayS 3 1 ex16p 1 1 1 [0, 1, 2] = 0 := by kernel_rfl
theorem ex16_m3 : mayS 3 1 ex16p 1 2 1 [0, 1, 2] = 2 := by kernel_rfl
theorem ex16_o1 : runB 3 1 ex16p 1 [0, 1, 2] = ex16o := by kernel_rfl
theorem ex16_f1 : lastsL 3 1 ex16p [true, true, true] = [2, 0, 7] := by kernel_rfl
theorem ex16_f2 : lastsL 3 1 ex16p [true, true] = [5, 4, 0] := by kernel_rfl
theorem ex16_f3 : firstsE 3 1 ex16p = 0 := by kernel_rfl
theorem bools3 {w : World} {g t : Nat} {x y z : Bool} (h : Has w g t #[.bool x, .bool y, .bool z]) : RBools w (some ⟨g, 0, none⟩) 3 3 [x, y, z] := by
  refine ⟨rfl, Nat.le_refl _, by omega, fun _ => ⟨g, 0, rfl, fun i hi => ?_⟩⟩
  have : i = 0 ∨ i = 1 ∨ i = 2 := by omega
  rcases this with rfl | rfl | rfl
  · rw [h.cell]; rfl
  · rw [h.cell]; rfl
  · rw [h.cell]; rfl

set_option maxRecDepth 100000 in
set_option maxHeartbeats 8000000 in
theorem wakes16_any (w0 : World) : Calls Tryz.prog 20 #[] w0 fun e w' => e = .returned (.bool true) ∧ Below w0.heap.size w0 w' := by
  have i64 : ∀ x : Int, 0 ≤ x → x ≤ 100 → I64 x := fun x h1 h2 => ⟨by omega, by omega⟩
  have I64s := hide i64
  clear i64
  go_enter Tryz.func20, Tryz.ntmps20
  have hb0 : Below w0.heap.size w0 (w0.alloc (.cells #[.int .i64 0, .int .i64 1, .int .i64 2] 3)) := below_allocN
  have ha1 := Has.new w0 3 #[.int .i64 0, .int .i64 1, .int .i64 2]
  generalize hW0 : World.alloc w0 _ = w1 at hb0 ha1
  have ga1 : w0.heap.size < w1.heap.size := ha1.lt
  have ra1 := lit3 ha1 (I64s.out _ (by decide) (by decide)) (I64s.out _ (by decide) (by decide)) (I64s.out _ (by decide) (by decide))
  have hb1 : Below w1.heap.size w1 (w1.alloc (.cells #[.int .i64 1, .int .i64 0, .int .i64 2] 3)) := below_allocN
  have ha2 := Has.new w1 3 #[.int .i64 1, .int .i64 0, .int .i64 2]
  generalize hW1 : World.alloc w1 _ = w2 at hb1 ha2
  have ga2 : w1.heap.size < w2.heap.size := ha2.lt
  have ra2 := lit3 ha2 (I64s.out _ (by decide) (by decide)) (I64s.out _ (by decide) (by decide)) (I64s.out _ (by decide) (by decide))
  have hb2 : Below w2.heap.size w2 (w2.alloc (.cells #[.int .i64 2, .int .i64 1, .int .i64 0] 3)) := below_allocN
  have ha3 := Has.new w2 3 #[.int .i64 2, .int .i64 1, .int .i64 0]
  generalize hW2 : World.alloc w2 _ = w3 at hb2 ha3
  have ga3 : w2.heap.size < w3.heap.size := ha3.lt
  have ra3 := lit3 ha3 (I64s.out _ (by decide) (by decide)) (I64s.out _ (by decide) (by decide)) (I64s.out _ (by decide) (by decide))
  have hb3 : Below w3.heap.size w3 (w3.alloc (.cells #[.slice (some ⟨w0.heap.size, 0, none⟩) 3 3, .int .i64 4, .slice (some ⟨w1.heap.size, 0, none⟩) 3 3, .int .i64 3, .slice (some ⟨w2.heap.size, 0, none⟩) 3 3, .int .i64 2] 45)) := below_allocN
  have hrw := Has.new w3 45 #[.slice (some ⟨w0.heap.size, 0, none⟩) 3 3, .int .i64 4, .slice (some ⟨w1.heap.size, 0, none⟩) 3 3, .int .i64 3, .slice (some ⟨w2.heap.size, 0, none⟩) 3 3, .int .i64 2]
  generalize hW3 : World.alloc w3 _ = w4 at hb3 hrw
  have grw : w3.heap.size < w4.heap.size := hrw.lt
  have hB2_4 := Below_trans' hb2 hb2.size hb3
  have hB1_4 := Below_trans' hb1 hb1.size hB2_4
  have rP := rows3 (ra1.below hB1_4) (ra2.below hB2_4) (ra3.below hb3) (I64s.out _ (by decide) (by decide)) (I64s.out _ (by decide) (by decide)) (I64s.out _ (by decide) (by decide)) hrw
  have hb4 : Below w4.heap.size w4 (w4.alloc (.cells #[.int .i64 3, .int .u8 1, .slice (some ⟨w3.heap.size, 0, none⟩) 3 3] 24)) := below_allocN
  have hp := Has.new w4 24 #[.int .i64 3, .int .u8 1, .slice (some ⟨w3.heap.size, 0, none⟩) 3 3]
  generalize hW4 : World.alloc w4 _ = w5 at hb4 hp
  have gp : w4.heap.size < w5.heap.size := hp.lt
  go_upto_region 2 with fail
  try simp only [hW0, hW1, hW2, hW3, hW4]
  clear hW0 hW1 hW2 hW3 hW4
  have cp_0 := hp.cell 0
  have cp_1 := hp.cell 1
  have cp_2 := hp.cell 2
  have hb5 : Below w5.heap.size w5 (w5.alloc (.cells #[.int .i64 0, .int .i64 1, .int .i64 2] 3)) := below_allocN
  have hl1 := Has.new w5 3 #[.int .i64 0, .int .i64 1, .int .i64 2]
  generalize hW5 : World.alloc w5 _ = w6 at hb5 hl1
  have gl1 : w5.heap.size < w6.heap.size := hl1.lt
  have rl1 := lit3 hl1 (I64s.out _ (by decide) (by decide)) (I64s.out _ (by decide) (by decide)) (I64s.out _ (by decide) (by decide))
  go_wp2_with fail
  try simp only [hW5]
  clear hW5
  have hB4_6 := Below_trans' hb4 hb4.size hb5
  refine (pcountB_any 3 1 (some ⟨w3.heap.size, 0, none⟩) 3 3 ex16p 1 (some ⟨w5.heap.size, 0, none⟩) 3 3 [0, 1, 2] w6 (rP.below hB4_6) rl1 (by decide)).mono ?_
  rintro e w7 ⟨E1, ne1, ce1, R1, nr1, cr1, V1, nv1, cv1, rfl, hO1, hb6⟩
  clear cp_0 cp_1 cp_2
  rw [ex16_o1] at hO1
  rw [ex16_m1]
  have hb7 : Below w7.heap.size w7 (w7.alloc (.cells #[.slice E1 ne1 ce1, .slice R1 nr1 cr1, .slice V1 nv1 cv1] 31)) := below_allocN
  have ho1 := Has.new w7 31 #[.slice E1 ne1 ce1, .slice R1 nr1 cr1, .slice V1 nv1 cv1]
  generalize hW7 : World.alloc w7 _ = w8 at hb7 ho1
  have go1 : w7.heap.size < w8.heap.size := ho1.lt
  go_upto_region 3 with fail
  try simp only [hW7]
  clear hW7
  have hB6_8 := Below_trans' hb6 hb6.size hb7
  have hB5_8 := Below_trans' hb5 hb5.size hB6_8
  have cp_0 := (hp.below hB5_8 hp.lt).cell 0
  have cp_1 := (hp.below hB5_8 hp.lt).cell 1
  have cp_2 := (hp.below hB5_8 hp.lt).cell 2
  have hb8 : Below w8.heap.size w8 (w8.alloc (.cells #[.bool true, .bool true, .bool true] 4)) := below_allocN
  have hbl5 := Has.new w8 4 #[.bool true, .bool true, .bool true]
  generalize hW8 : World.alloc w8 _ = w9 at hb8 hbl5
  have gbl5 : w8.heap.size < w9.heap.size := hbl5.lt
  have rbl5 := bools3 hbl5
  go_wp2_with fail
  try simp only [hW8]
  clear hW8
  have hB7_9 := Below_trans' hb7 hb7.size hb8
  have hB6_9 := Below_trans' hb6 hb6.size hB7_9
  have hB5_9 := Below_trans' hb5 hb5.size hB6_9
  have hB4_9 := Below_trans' hb4 hb4.size hB5_9
  refine (plasts_any 3 1 (some ⟨w3.heap.size, 0, none⟩) 3 3 ex16p (some ⟨w8.heap.size, 0, none⟩) 3 3 [true, true, true] w9 (rP.below hB4_9) rbl5).mono ?_
  rintro e w10 ⟨v5, rfl, hF5, hb9⟩
  clear cp_0 cp_1 cp_2
  rw [ex16_f1] at hF5
  rw [ex16_f3]
  obtain ⟨A5, c5, rfl⟩ := hF5.slice
  have rF5 := hF5.ints (fun x hx => by simp at hx; omega)
  simp only [List.length_cons, List.length_nil] at rF5 hF5 ⊢
  clear hF5
  go_upto_region 4 with fail
  have hB8_10 := Below_trans' hb8 hb8.size hb9
  have hB7_10 := Below_trans' hb7 hb7.size hB8_10
  have hB6_10 := Below_trans' hb6 hb6.size hB7_10
  have hB5_10 := Below_trans' hb5 hb5.size hB6_10
  have cp_0 := (hp.below hB5_10 hp.lt).cell 0
  have cp_1 := (hp.below hB5_10 hp.lt).cell 1
  have cp_2 := (hp.below hB5_10 hp.lt).cell 2
  have hb10 : Below w10.heap.size w10 (w10.alloc (.cells #[.bool true, .bool true] 4)) := below_allocN
  have hbl6 := Has.new w10 4 #[.bool true, .bool true]
  generalize hW10 : World.alloc w10 _ = w11 at hb10 hbl6
  have gbl6 : w10.heap.size < w11.heap.size := hbl6.lt
  have rbl6 := bools2 hbl6
  go_wp2_with fail
  try simp only [hW10]
  clear hW10
  have hB9_11 := Below_trans' hb9 hb9.size hb10
  have hB8_11 := Below_trans' hb8 hb8.size hB9_11
  have hB7_11 := Below_trans' hb7 hb7.size hB8_11
  have hB6_11 := Below_trans' hb6 hb6.size hB7_11
  have hB5_11 := Below_trans' hb5 hb5.size hB6_11
  have hB4_11 := Below_trans' hb4 hb4.size hB5_11
  refine (plasts_any 3 1 (some ⟨w3.heap.size, 0, none⟩) 3 3 ex16p (some ⟨w10.heap.size, 0, none⟩) 2 2 [true, true] w11 (rP.below hB4_11) rbl6).mono ?_
  rintro e w12 ⟨v6, rfl, hF6, hb11⟩
  clear cp_0 cp_1 cp_2
  rw [ex16_f2] at hF6
  rw [ex16_f3]
  obtain ⟨A6, c6, rfl⟩ := hF6.slice
  have rF6 := hF6.ints (fun x hx => by simp at hx; omega)
  simp only [List.length_cons, List.length_nil] at rF6 hF6 ⊢
  clear hF6
  go_upto_region 5 with fail
  have hB10_12 := Below_trans' hb10 hb10.size hb11
  have hB9_12 := Below_trans' hb9 hb9.size hB10_12
  have hB8_12 := Below_trans' hb8 hb8.size hB9_12
  have hB7_12 := Below_trans' hb7 hb7.size hB8_12
  have hB6_12 := Below_trans' hb6 hb6.size hB7_12
  have hB5_12 := Below_trans' hb5 hb5.size hB6_12
  have cp_0 := (hp.below hB5_12 hp.lt).cell 0
  have cp_1 := (hp.below hB5_12 hp.lt).cell 1
  have cp_2 := (hp.below hB5_12 hp.lt).cell 2
  have hb12 : Below w12.heap.size w12 (w12.alloc (.cells #[.int .i64 0, .int .i64 1, .int .i64 2] 3)) := below_allocN
  have hl3 := Has.new w12 3 #[.int .i64 0, .int .i64 1, .int .i64 2]
  generalize hW12 : World.alloc w12 _ = w13 at hb12 hl3
  have gl3 : w12.heap.size < w13.heap.size := hl3.lt
  have rl3 := lit3 hl3 (I64s.out _ (by decide) (by decide)) (I64s.out _ (by decide) (by decide)) (I64s.out _ (by decide) (by decide))
  go_wp2_with fail
  try simp only [hW12]
  clear hW12
  have hB11_13 := Below_trans' hb11 hb11.size hb12
  have hB10_13 := Below_trans' hb10 hb10.size hB11_13
  have hB9_13 := Below_trans' hb9 hb9.size hB10_13
  have hB8_13 := Below_trans' hb8 hb8.size hB9_13
  have hB7_13 := Below_trans' hb7 hb7.size hB8_13
  have hB6_13 := Below_trans' hb6 hb6.size hB7_13
  have hB5_13 := Below_trans' hb5 hb5.size hB6_13
  have hB4_13 := Below_trans' hb4 hb4.size hB5_13
  refine (pcountB_any 3 1 (some ⟨w3.heap.size, 0, none⟩) 3 3 ex16p 2 (some ⟨w12.heap.size, 0, none⟩) 3 3 [0, 1, 2] w13 (rP.below hB4_13) rl3 (by decide)).mono ?_
  rintro e w14 ⟨E3, ne3, ce3, R3, nr3, cr3, V3, nv3, cv3, rfl, hO3, hb13⟩
  clear cp_0 cp_1 cp_2
  rw [runB_bad (by rw [ex16_m3]; decide)] at hO3
  rw [ex16_m3]
  have hb14 : Below w14.heap.size w14 (w14.alloc (.cells #[.slice E3 ne3 ce3, .slice R3 nr3 cr3, .slice V3 nv3 cv3] 31)) := below_allocN
  have ho3 := Has.new w14 31 #[.slice E3 ne3 ce3, .slice R3 nr3 cr3, .slice V3 nv3 cv3]
  generalize hW14 : World.alloc w14 _ = w15 at hb14 ho3
  have go3 : w14.heap.size < w15.heap.size := ho3.lt
  go_upto_region 6 with fail
  try simp only [hW14]
  clear hW14
  go_wp2_with fail
  refine (pcountB_any 0 0 none 0 0 [] 1 none 0 0 [] w15 (RRows.nil_ _) (RInts.nil_ _) (by decide)).mono ?_
  rintro e w16 ⟨E4, ne4, ce4, R4, nr4, cr4, V4, nv4, cv4, rfl, hO4, hb15⟩
  rw [ex15_m4]
  have hb16 : Below w16.heap.size w16 (w16.alloc (.cells #[.slice E4 ne4 ce4, .slice R4 nr4 cr4, .slice V4 nv4 cv4] 31)) := below_allocN
  have ho4 := Has.new w16 31 #[.slice E4 ne4 ce4, .slice R4 nr4 cr4, .slice V4 nv4 cv4]
  generalize hW16 : World.alloc w16 _ = w17 at hb16 ho4
  have go4 : w16.heap.size < w17.heap.size := ho4.lt
  go_upto_region 7 with fail
  try simp only [hW16]
  clear hW16
  go_wp2_with fail
  refine (plasts_any 1 2 none 0 0 [] none 0 0 [] w17 (RRows.nil_ _) bools_nil).mono ?_
  rintro e w18 ⟨v7, rfl, hF7, hb17⟩
  rw [ex15_f4]
  obtain ⟨A7, n7, c7, rfl⟩ : ∃ A n c, v7 = .slice A n c := let ⟨A, c, e⟩ := hF7.slice; ⟨A, _, c, e⟩
  clear hF7
  go_upto_region 8 with fail
  have hb18 : Below w18.heap.size w18 (w18.alloc (.cells #[.int .i64 1] 3)) := below_allocN
  have hxe := Has.new w18 3 #[.int .i64 1]
  generalize hW18 : World.alloc w18 _ = w19 at hb18 hxe
  have gxe : w18.heap.size < w19.heap.size := hxe.lt
  have rxe := lit_ints hxe (I64s.out _ (by decide) (by decide))
  have hb19 : Below w19.heap.size w19 (w19.alloc (.cells #[.int .i64 4, .int .i64 3, .int .i64 2] 3)) := below_allocN
  have hh1 := Has.new w19 3 #[.int .i64 4, .int .i64 3, .int .i64 2]
  generalize hW19 : World.alloc w19 _ = w20 at hb19 hh1
  have gh1 : w19.heap.size < w20.heap.size := hh1.lt
  have rh1 := lit3 hh1 (I64s.out _ (by decide) (by decide)) (I64s.out _ (by decide) (by decide)) (I64s.out _ (by decide) (by decide))
  go_wp2_with fail
  try simp only [hW18, hW19]
  clear hW18 hW19
  refine (rwholes_any (some ⟨w19.heap.size, 0, none⟩) 3 3 [4, 3, 2] w20 rh1 (by decide) (by decide)).mono ?_
  rintro e w21 ⟨vh1, fp1, rfl, hW1, hf1, hb20⟩
  obtain ⟨Ah1, nh1, ch1, rfl⟩ : ∃ A n c, vh1 = .slice A n c := let ⟨A, c, e⟩ := hW1.slice; ⟨A, _, c, e⟩
  clear hf1
  go_wp2_with fail
  refine (rwhole_any 0 w21 (by decide) (by decide)).mono ?_
  rintro e w22 ⟨An1, nn1, cn1, Ad1, nd1, cd1, rfl, hn1, hd1, hb21, _⟩
  have hb22 : Below w22.heap.size w22 (w22.alloc (.cells #[.int .i64 2] 3)) := below_allocN
  have hu1 := Has.new w22 3 #[.int .i64 2]
  generalize hW22 : World.alloc w22 _ = w23 at hb22 hu1
  have gu1 : w22.heap.size < w23.heap.size := hu1.lt
  have ru1 := lit_ints hu1 (I64s.out _ (by decide) (by decide))
  have hb23 : Below w23.heap.size w23 (w23.alloc (.cells #[.int .i64 4, .int .i64 5, .int .i64 0] 3)) := below_allocN
  have hh2 := Has.new w23 3 #[.int .i64 4, .int .i64 5, .int .i64 0]
  generalize hW23 : World.alloc w23 _ = w24 at hb23 hh2
  have gh2 : w23.heap.size < w24.heap.size := hh2.lt
  have rh2 := lit3 hh2 (I64s.out _ (by decide) (by decide)) (I64s.out _ (by decide) (by decide)) (I64s.out _ (by decide) (by decide))
  go_wp2_with fail
  try simp only [hW22, hW23]
  clear hW22 hW23
  refine (rwholes_any (some ⟨w23.heap.size, 0, none⟩) 3 3 [4, 5, 0] w24 rh2 (by decide) (by decide)).mono ?_
  rintro e w25 ⟨vh2, fp2, rfl, hW2, hf2, hb24⟩
  obtain ⟨Ah2, nh2, ch2, rfl⟩ : ∃ A n c, vh2 = .slice A n c := let ⟨A, c, e⟩ := hW2.slice; ⟨A, _, c, e⟩
  clear hf2
  go_wp2_with fail
  refine (rwhole_any 0 w25 (by decide) (by decide)).mono ?_
  rintro e w26 ⟨An2, nn2, cn2, Ad2, nd2, cd2, rfl, hn2, hd2, hb25, _⟩
  have hb26 : Below w26.heap.size w26 (w26.alloc (.cells #[.int .i64 1] 3)) := below_allocN
  have he2 := Has.new w26 3 #[.int .i64 1]
  generalize hW26 : World.alloc w26 _ = w27 at hb26 he2
  have ge2 : w26.heap.size < w27.heap.size := he2.lt
  have re2 := lit_ints he2 (I64s.out _ (by decide) (by decide))
  have hB25_27 := Below_trans' hb25 hb25.size hb26
  have hB24_27 := Below_trans' hb24 hb24.size hB25_27
  have hB23_27 := Below_trans' hb23 hb23.size hB24_27
  have hB22_27 := Below_trans' hb22 hb22.size hB23_27
  have hB21_27 := Below_trans' hb21 hb21.size hB22_27
  have hE1 := (rnd_on (lost := 0) (hW1.below hB21_27) (hn1.below hB22_27) (hd1.below hB22_27) (RInts.nil_ _) (ru1.below hB23_27)).get
  have hE2 := (rnd_on (lost := 0) (hW2.below hB25_27) (hn2.below hb26) (hd2.below hb26) re2 (RInts.nil_ _)).get
  have hb27 : Below w27.heap.size w27 (w27.alloc (.cells #[.slice Ah1 nh1 ch1, .bool false, .slice An1 nn1 cn1, .slice Ad1 nd1 cd1, .slice none 0 0, .slice (some ⟨w22.heap.size, 0, none⟩) 1 1, .slice Ah2 nh2 ch2, .bool false, .slice An2 nn2 cn2, .slice Ad2 nd2 cd2, .slice (some ⟨w26.heap.size, 0, none⟩) 1 1, .slice none 0 0] 41)) := below_allocN
  have hxr := Has.new w27 41 #[.slice Ah1 nh1 ch1, .bool false, .slice An1 nn1 cn1, .slice Ad1 nd1 cd1, .slice none 0 0, .slice (some ⟨w22.heap.size, 0, none⟩) 1 1, .slice Ah2 nh2 ch2, .bool false, .slice An2 nn2 cn2, .slice Ad2 nd2 cd2, .slice (some ⟨w26.heap.size, 0, none⟩) 1 1, .slice none 0 0]
  generalize hW27 : World.alloc w27 _ = w28 at hb27 hxr
  have gxr : w27.heap.size < w28.heap.size := hxr.lt
  have rrx := ragg2 (E := ERnd) (size := 6) (us := [.slice Ah1 nh1 ch1, .bool false, .slice An1 nn1 cn1, .slice Ad1 nd1 cd1, .slice none 0 0, .slice (some ⟨w22.heap.size, 0, none⟩) 1 1]) (vs := [.slice Ah2 nh2 ch2, .bool false, .slice An2 nn2 cn2, .slice Ad2 nd2 cd2, .slice (some ⟨w26.heap.size, 0, none⟩) 1 1, .slice none 0 0]) hxr rfl rfl (hE1.belowX hb27) (hE2.belowX hb27)
  go_upto_region 9 with fail
  try simp only [hW26, hW27]
  clear hW26 hW27
  have hb28 : Below w28.heap.size w28 (w28.alloc (.cells #[.slice (some ⟨w18.heap.size, 0, none⟩) 1 1, .slice (some ⟨w27.heap.size, 0, none⟩) 2 2, .slice none 0 0] 31)) := below_allocN
  have hx := Has.new w28 31 #[.slice (some ⟨w18.heap.size, 0, none⟩) 1 1, .slice (some ⟨w27.heap.size, 0, none⟩) 2 2, .slice none 0 0]
  generalize World.alloc w28 _ = w29 at hb28 hx ⊢
  have gx : w28.heap.size < w29.heap.size := hx.lt
  have hB27_29 := Below_trans' hb27 hb27.size hb28
  have hB26_29 := Below_trans' hb26 hb26.size hB27_29
  have hB25_29 := Below_trans' hb25 hb25.size hB26_29
  have hB24_29 := Below_trans' hb24 hb24.size hB25_29
  have hB23_29 := Below_trans' hb23 hb23.size hB24_29
  have hB22_29 := Below_trans' hb22 hb22.size hB23_29
  have hB21_29 := Below_trans' hb21 hb21.size hB22_29
  have hB20_29 := Below_trans' hb20 hb20.size hB21_29
  have hB19_29 := Below_trans' hb19 hb19.size hB20_29
  have hB18_29 := Below_trans' hb18 hb18.size hB19_29
  have hB17_29 := Below_trans' hb17 hb17.size hB18_29
  have hB16_29 := Below_trans' hb16 hb16.size hB17_29
  have hB15_29 := Below_trans' hb15 hb15.size hB16_29
  have hB14_29 := Below_trans' hb14 hb14.size hB15_29
  have hB13_29 := Below_trans' hb13 hb13.size hB14_29
  have hB12_29 := Below_trans' hb12 hb12.size hB13_29
  have hB11_29 := Below_trans' hb11 hb11.size hB12_29
  have hB10_29 := Below_trans' hb10 hb10.size hB11_29
  have hB9_29 := Below_trans' hb9 hb9.size hB10_29
  have hB8_29 := Below_trans' hb8 hb8.size hB9_29
  have co1_0 := (ho1.below hB8_29 ho1.lt).cell 0
  have co1_1 := (ho1.below hB8_29 ho1.lt).cell 1
  have co1_2 := (ho1.below hB8_29 ho1.lt).cell 2
  have cx_0 := hx.cell 0
  have cx_1 := hx.cell 1
  have cx_2 := hx.cell 2
  go_wp2_with fail
  have hB7_29 := Below_trans' hb7 hb7.size hB8_29
  refine (same_eq _ _ _ _ _ _ _ _ _ _ _ _ _ _ _ _ _ _ ex16o w29 (hO1.below hB7_29) ⟨(rxe.below hB19_29), (rrx.below below_rnd hb28), (RAgg.nil_ _ _ _)⟩).mono ?_
  rintro e w30 ⟨rfl, hb29⟩
  clear co1_0 co1_1 co1_2 cx_0 cx_1 cx_2
  have hb30 : Below w30.heap.size w30 (w30.alloc (.cells #[.int .i64 2, .int .i64 0, .int .i64 7] 3)) := below_allocN
  have hz := Has.new w30 3 #[.int .i64 2, .int .i64 0, .int .i64 7]
  generalize hW30 : World.alloc w30 _ = w31 at hb30 hz
  have gz : w30.heap.size < w31.heap.size := hz.lt
  have rz := lit3 hz (I64s.out _ (by decide) (by decide)) (I64s.out _ (by decide) (by decide)) (I64s.out _ (by decide) (by decide))
  go_wp2_with fail
  try simp only [hW30]
  clear hW30
  have hB29_31 := Below_trans' hb29 hb29.size hb30
  have hB28_31 := Below_trans' hb28 hb28.size hB29_31
  have hB27_31 := Below_trans' hb27 hb27.size hB28_31
  have hB26_31 := Below_trans' hb26 hb26.size hB27_31
  have hB25_31 := Below_trans' hb25 hb25.size hB26_31
  have hB24_31 := Below_trans' hb24 hb24.size hB25_31
  have hB23_31 := Below_trans' hb23 hb23.size hB24_31
  have hB22_31 := Below_trans' hb22 hb22.size hB23_31
  have hB21_31 := Below_trans' hb21 hb21.size hB22_31
  have hB20_31 := Below_trans' hb20 hb20.size hB21_31
  have hB19_31 := Below_trans' hb19 hb19.size hB20_31
  have hB18_31 := Below_trans' hb18 hb18.size hB19_31
  have hB17_31 := Below_trans' hb17 hb17.size hB18_31
  have hB16_31 := Below_trans' hb16 hb16.size hB17_31
  have hB15_31 := Below_trans' hb15 hb15.size hB16_31
  have hB14_31 := Below_trans' hb14 hb14.size hB15_31
  have hB13_31 := Below_trans' hb13 hb13.size hB14_31
  have hB12_31 := Below_trans' hb12 hb12.size hB13_31
  have hB11_31 := Below_trans' hb11 hb11.size hB12_31
  have hB10_31 := Below_trans' hb10 hb10.size hB11_31
  refine (ints_eq _ _ _ _ _ _ [2, 0, 7] w31 (rF5.below hB10_31) rz).mono ?_
  rintro e w32 ⟨rfl, hb31⟩
  have hb32 : Below w32.heap.size w32 (w32.alloc (.cells #[.int .i64 5, .int .i64 4, .int .i64 0] 3)) := below_allocN
  have hy := Has.new w32 3 #[.int .i64 5, .int .i64 4, .int .i64 0]
  generalize hW32 : World.alloc w32 _ = w33 at hb32 hy
  have gy : w32.heap.size < w33.heap.size := hy.lt
  have ry := lit3 hy (I64s.out _ (by decide) (by decide)) (I64s.out _ (by decide) (by decide)) (I64s.out _ (by decide) (by decide))
  go_wp2_with fail
  try simp only [hW32]
  clear hW32
  have hB31_33 := Below_trans' hb31 hb31.size hb32
  have hB30_33 := Below_trans' hb30 hb30.size hB31_33
  have hB29_33 := Below_trans' hb29 hb29.size hB30_33
  have hB28_33 := Below_trans' hb28 hb28.size hB29_33
  have hB27_33 := Below_trans' hb27 hb27.size hB28_33
  have hB26_33 := Below_trans' hb26 hb26.size hB27_33
  have hB25_33 := Below_trans' hb25 hb25.size hB26_33
  have hB24_33 := Below_trans' hb24 hb24.size hB25_33
  have hB23_33 := Below_trans' hb23 hb23.size hB24_33
  have hB22_33 := Below_trans' hb22 hb22.size hB23_33
  have hB21_33 := Below_trans' hb21 hb21.size hB22_33
  have hB20_33 := Below_trans' hb20 hb20.size hB21_33
  have hB19_33 := Below_trans' hb19 hb19.size hB20_33
  have hB18_33 := Below_trans' hb18 hb18.size hB19_33
  have hB17_33 := Below_trans' hb17 hb17.size hB18_33
  have hB16_33 := Below_trans' hb16 hb16.size hB17_33
  have hB15_33 := Below_trans' hb15 hb15.size hB16_33
  have hB14_33 := Below_trans' hb14 hb14.size hB15_33
  have hB13_33 := Below_trans' hb13 hb13.size hB14_33
  have hB12_33 := Below_trans' hb12 hb12.size hB13_33
  refine (ints_eq _ _ _ _ _ _ [5, 4, 0] w33 (rF6.below hB12_33) ry).mono ?_
  rintro e w34 ⟨rfl, hb33⟩
  go_wp2
  go_ret
  have hB32_34 := Below_trans' hb32 hb32.size hb33
  have hB31_34 := Below_trans' hb31 hb31.size hB32_34
  have hB30_34 := Below_trans' hb30 hb30.size hB31_34
  have hB29_34 := Below_trans' hb29 hb29.size hB30_34
  have hB28_34 := Below_trans' hb28 hb28.size hB29_34
  have hB27_34 := Below_trans' hb27 hb27.size hB28_34
  have hB26_34 := Below_trans' hb26 hb26.size hB27_34
  have hB25_34 := Below_trans' hb25 hb25.size hB26_34
  have hB24_34 := Below_trans' hb24 hb24.size hB25_34
  have hB23_34 := Below_trans' hb23 hb23.size hB24_34
  have hB22_34 := Below_trans' hb22 hb22.size hB23_34
  have hB21_34 := Below_trans' hb21 hb21.size hB22_34
  have hB20_34 := Below_trans' hb20 hb20.size hB21_34
  have hB19_34 := Below_trans' hb19 hb19.size hB20_34
  have hB18_34 := Below_trans' hb18 hb18.size hB19_34
  have hB17_34 := Below_trans' hb17 hb17.size hB18_34
  have hB16_34 := Below_trans' hb16 hb16.size hB17_34
  have hB15_34 := Below_trans' hb15 hb15.size hB16_34
  have hB14_34 := Below_trans' hb14 hb14.size hB15_34
  have hB13_34 := Below_trans' hb13 hb13.size hB14_34
  have hB12_34 := Below_trans' hb12 hb12.size hB13_34
  have hB11_34 := Below_trans' hb11 hb11.size hB12_34
  have hB10_34 := Below_trans' hb10 hb10.size hB11_34
  have hB9_34 := Below_trans' hb9 hb9.size hB10_34
  have hB8_34 := Below_trans' hb8 hb8.size hB9_34
  have hB7_34 := Below_trans' hb7 hb7.size hB8_34
  have hB6_34 := Below_trans' hb6 hb6.size hB7_34
  have hB5_34 := Below_trans' hb5 hb5.size hB6_34
  have hB4_34 := Below_trans' hb4 hb4.size hB5_34
  have hB3_34 := Below_trans' hb3 hb3.size hB4_34
  have hB2_34 := Below_trans' hb2 hb2.size hB3_34
  have hB1_34 := Below_trans' hb1 hb1.size hB2_34
  have hB0_34 := Below_trans' hb0 hb0.size hB1_34
  exact ⟨rfl, hB0_34⟩
end Go.Proofs.YthkkadmgcicedaaGreat
