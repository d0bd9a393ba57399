/-
  Count, of the program's runoff.
  Literals of the chapters' examples: rounds, ties, rows.
-/
import Derived.Test.YthkkadmgcicedaaGreatW15d
import Derived.Deep.LoopGhost
import Derived.Test.YthkkadmgcicedaaGreatW11h
namespace Go.Proofs.YthkkadmgcicedaaGreat
open Go.RowKit Go.Proofs Go.Shelf
attribute [local go_sem] cell?_alt cell?_more cell?_alloc_some cell?_setCell_far frozen?_alloc_some frozen?_more
/-- What a count hands back. -/
def OutPost (w : World) (o : Outc) (err : Int) (e : Ending) (w' : World) : Prop :=
  ∃ Ae ne ce Ar nr cr Av nv cv, e = .returned (.tuple #[.agg #[.slice Ae ne ce, .slice Ar nr cr, .slice Av nv cv], .int .i64 err]) ∧ ROut w' Ae ne ce Ar nr cr Av nv cv o ∧ Below w.heap.size w w'
def runO (c k : Int) (l : List Row) (seats : Int) (lot : List Int) : Outc := if mayS c k l 1 seats 1 lot = 0 then countS l c.toNat lot c.toNat (rangeI c.toNat) [] [] else ([], [], [])
theorem runO_ok {c k : Int} {l : List Row} {seats : Int} {lot : List Int} (h : mayS c k l 1 seats 1 lot = 0) : runO c k l seats lot = countS l c.toNat lot c.toNat (rangeI c.toNat) [] [] := if_pos h
theorem runO_bad {c k : Int} {l : List Row} {seats : Int} {lot : List Int} (h : mayS c k l 1 seats 1 lot ≠ 0) : runO c k l seats lot = ([], [], []) := if_neg h

theorem sizeOut : (Tryz.prog.info? 31).map (·.size) = some 3 := by kernel_rfl
theorem retOut2 {fn : Func} {R : Ending → World → Prop} {a : Act} {w : World} {p q g : Nat} {C : Array Value} {v : Value} (hr : fn.results = #[.cell p 31, .tmp q]) (hp : a.tmps.getD p undef = .pointer (some ⟨g, 0, none⟩))
    (hq : a.tmps.getD q undef = v) (hg : Has w g 31 C) (hs : C.size = 3) (hd : a.defers = []) (hR : R (.returned (.tuple #[.agg C, v])) w) : bodyPost Tryz.prog fn R .ret a w := by
  have hl := run_loadVar_row (P := Tryz.prog) w g _ 31 C (0, 0) _ hg Tryz.underlying31 rfl (sizeOut.trans (by rw [hs]))
  refine bodyPost_ret (v := .tuple #[.agg C, v]) ?_ hd hR
  have hp' : a.tmps[p]?.getD undef = .pointer (some ⟨g, 0, none⟩) := by simpa using hp
  have hq' : a.tmps[q]?.getD undef = v := by simpa using hq
  simp [results, hr, hp', hq', asAddr, hl]

theorem may_zero {c k : Int} {l : List Row} {kind seats most : Int} {lot : List Int} (h : mayS c k l kind seats most lot = 0) : checkS c k l = 0 ∧ k = kind ∧ 1 ≤ seats ∧ seats ≤ most ∧ seats ≤ 10 ∧ lotS lot c = true := by
  unfold mayS at h
  split at h
  · omega
  · rename_i h1
    split at h
    · omega
    · rename_i h2
      have h3 : lotS lot c = true := by
        cases hl : lotS lot c with
        | true => rfl
        | false => exact absurd (.inr (.inr (.inr hl))) h2
      refine ⟨?_, ?_, by omega, by omega, by omega, h3⟩
      · exact Decidable.byContradiction fun e => h1 (.inl e)
      · exact Decidable.byContradiction fun e => h1 (.inr e)
theorem win_of_one {left had : List Int} (h : left.length = 1) : winS left had ≠ none := by
  obtain ⟨a, rfl⟩ := List.length_eq_one_iff.1 h
  simp [winS]
theorem countS_some {l : List Row} {n : Nat} {lot : List Int} {f : Nat} {left : List Int} {rs : List Rnd} {ts : List Row} {x : Int} (h : winS left (hadL (inL left) l n) = some x) :
    countS l n lot (f + 1) left rs ts = ([x], rs ++ [rndS (hadL (inL left) l n) (lostS (inL left) l) [x] []], ts) := by simp only [countS, h]
theorem countS_none {l : List Row} {n : Nat} {lot : List Int} {f : Nat} {left : List Int} {rs : List Rnd} {ts : List Row} (h : winS left (hadL (inL left) l n) = none) :
    countS l n lot (f + 1) left rs ts = countS l n lot f (outS left (lastS lot (leastS (hadL (inL left) l n) left)))
        (rs ++ [rndS (hadL (inL left) l n) (lostS (inL left) l) [] [lastS lot (leastS (hadL (inL left) l n) left)]])
        (tiedS ts (leastS (hadL (inL left) l n) left) (lastS lot (leastS (hadL (inL left) l n) left))) := by simp only [countS, h]
theorem length_tiedS (ts : List Row) (among : List Int) (x : Int) : (tiedS ts among x).length ≤ ts.length + 1 := by unfold tiedS; split <;> simp
/-- A state of the rounds: who is left, what has been. -/
structure CtInv (l : List Row) (C : Nat) (lot left : List Int) (rs : List Rnd) (ts : List Row) : Prop where
  sub : left.Sublist (rangeI C)
  ne : left ≠ []
  nrs : rs.length + left.length ≤ C
  nts : ts.length + left.length ≤ C
  out : countS l C lot left.length left rs ts = countS l C lot C (rangeI C) [] []
theorem CtInv.start (l : List Row) {C : Nat} (lot : List Int) (h : 1 ≤ C) : CtInv l C lot (rangeI C) [] [] :=
  ⟨List.Sublist.refl _, fun e => by have := congrArg List.length e; rw [length_rangeI] at this; simp at this; omega, by simp [length_rangeI], by simp [length_rangeI], by rw [length_rangeI]⟩
theorem CtInv.won {l : List Row} {C : Nat} {lot left : List Int} {rs : List Rnd} {ts : List Row} (h : CtInv l C lot left rs ts) {x : Int} (hw : winS left (hadL (inL left) l C) = some x) : countS l C lot C (rangeI C) [] [] = ([x], rs ++ [rndS (hadL (inL left) l C) (lostS (inL left) l) [x] []], ts) := by
  rw [← h.out]
  obtain ⟨f, e⟩ : ∃ f, left.length = f + 1 := ⟨left.length - 1, by have := List.length_pos_iff.2 h.ne; omega⟩
  rw [e, countS_some hw]
theorem CtInv.next {l : List Row} {C : Nat} {lot left : List Int} {rs : List Rnd} {ts : List Row} (h : CtInv l C lot left rs ts) (hlot : lotS lot C = true) (hw : winS left (hadL (inL left) l C) = none) :
    CtInv l C lot (outS left (lastS lot (leastS (hadL (inL left) l C) left)))
        (rs ++ [rndS (hadL (inL left) l C) (lostS (inL left) l) [] [lastS lot (leastS (hadL (inL left) l C) left)]])
        (tiedS ts (leastS (hadL (inL left) l C) left) (lastS lot (leastS (hadL (inL left) l C) left))) ∧ (outS left (lastS lot (leastS (hadL (inL left) l C) left))).length < left.length := by
  have hsl : (leastS (hadL (inL left) l C) left).Sublist left := bestS_sub _ _
  have hm := hsl.subset (lastS_mem (lot := lot) (bestS_ne (f := fun c => - getI (hadL (inL left) l C) c) h.ne) fun x hx => lot_in hlot (h.sub.subset (hsl.subset hx)))
  have hl := length_outS ((nodup_rangeI C).sublist h.sub) hm
  have hn1 : left.length ≠ 1 := fun e => win_of_one e hw
  have hp := List.length_pos_iff.2 h.ne
  have ht := length_tiedS ts (leastS (hadL (inL left) l C) left) (lastS lot (leastS (hadL (inL left) l C) left))
  have h1 := h.nrs
  have h2 := h.nts
  refine ⟨⟨(outS_sub _ _).trans h.sub, List.length_pos_iff.1 (by omega), by rw [List.length_append]; simp; omega, by omega, ?_⟩, by omega⟩
  rw [← h.out, show left.length = (outS left (lastS lot (leastS (hadL (inL left) l C) left))).length + 1 by omega, countS_none hw]
theorem Own.fps {w : World} {B : Nat} {A : Option Addr} {n c b : Nat} {xs : List Int} (h : Own w B (.slice A n c) xs) (hb : fpS A n b) : (Value.slice A n c).ownBlock = some b := by
  obtain ⟨_, off, e⟩ := hb
  rcases h.2 with ⟨h1, _⟩ | ⟨g, cap, cur, h1, _⟩
  · cases h1; cases e
  · cases h1; cases e; rfl
set_option maxRecDepth 100000 in
set_option maxHeartbeats 2000000 in
theorem pcount_any (c k : Int) (A : Option Addr) (n cp : Nat) (l : List Row) (seats : Int) (At : Option Addr) (nt ct : Nat) (lot : List Int) (w : World) (h : RRows w A n cp l) (h' : RInts w At nt ct lot) (hn : nt ≤ 1000) :
    Calls Tryz.prog 7 #[.agg #[.int .i64 c, .int .u8 k, .slice A n cp], .int .i64 seats, .slice At nt ct] w (OutPost w (runO c k l seats lot) (mayS c k l 1 seats 1 lot)) := by
  have hb0 : Below w.heap.size w (w.alloc (.cells #[.int .i64 c, .int .u8 k, .slice A n cp] 24)) := (Below.refl _ _).alloc (Nat.le_refl _) _
  have hH0 := Has.new w 24 #[.int .i64 c, .int .u8 k, .slice A n cp]
  generalize hV : World.alloc w _ = V at hb0 hH0
  have hbv : Below V.heap.size V (V.alloc (.cells #[.slice none 0 0, .slice none 0 0, .slice none 0 0] 31)) := (Below.refl _ _).alloc (Nat.le_refl _) _
  have hR0 := Has.new V 31 #[.slice none 0 0, .slice none 0 0, .slice none 0 0]
  have hP0 := hH0.below hbv hH0.lt
  have hb00 := Below_trans' hb0 hb0.size hbv
  generalize hW : World.alloc V _ = W0 at hbv hR0 hP0 hb00
  have hgw : w.heap.size < V.heap.size := hH0.lt
  have s0 := hP0.cell 0
  have s1 := hP0.cell 1
  have s2 := hP0.cell 2
  go_enter Tryz.func7, Tryz.ntmps7
  go_wp2_with fail
  try simp only [hV, hW]
  clear hV hW
  refine (ccheck_any c k A n cp l 1 seats 1 At nt ct lot W0 (h.below hb00) (h'.below hb00) hn).mono ?_
  rintro e w1 ⟨rfl, hb1⟩
  have hb01 := Below_trans' hb00 hb00.size hb1
  have hP1 := hP0.below hb1 hP0.lt
  have hR1 := hR0.below hb1 hR0.lt
  clear s0 s1 s2 hH0 hP0 hR0
  by_cases hE : mayS c k l 1 seats 1 lot = 0
  · have e1 : (mayS c k l 1 seats 1 lot != 0) = false := by simp [hE]
    obtain ⟨hc0, hk0, hs1, hs2, hs3, hlot⟩ := may_zero hE
    subst hk0
    have hcs := check_ok hc0
    obtain ⟨C, rfl⟩ : ∃ C : Nat, c = (C : Int) := ⟨c.toNat, by omega⟩
    have hRk := hide (rank_ok hc0)
    have Hlot := hide hlot
    have hro := hide (runO_ok hE)
    have hE0 := hide hE
    have hC10 : C ≤ 10 := (rank_ok hc0).c10
    have hC1 : 1 ≤ C := (rank_ok hc0).c1
    clear hcs hE hc0 hlot
    have r0 := hP1.cell 0
    have r1 := hP1.cell 1
    have r2 := hP1.cell 2
    have hof := fun W (hb : Below w1.heap.size w1 W) => cof_any At nt ct lot W ((h'.below hb01).below hb) hn
    go_upto_region 4 with fail
    refine wp_region_flow [0, 2, 3, 4] (fun w' => ∃ q, w' = Alt w1 [w.heap.size] q) (by kernel_rfl) (by kernel_rfl) (altC_drew _ _) ?_
    simp only [pickOps, List.getElem?_cons_zero, List.getElem?_cons_succ]
    repeat (go_big_quiet_step (fail))
    refine wpQuiet_nil ?_
    clear r0 r1 r2
    refine flow_one 1 (by kernel_rfl) rfl ?_
    go_wp2_with fail
    refine (hof _ (Below.refl _ _).drew).mono ?_
    rintro e w2 ⟨g, A2, n2, c2, rfl, hG2, hO2, hg2, hog, hb2⟩
    have hb2 : Below w1.heap.size w1 w2 := Below_trans' (Below.refl _ _).drew (Nat.le_refl _) hb2
    have Hog := hide hog
    have hg2 : w1.heap.size ≤ g := hg2
    clear hog hof
    go_wp2
    refine FlowPost.mk ⟨altC_below hb2 (fun b hb => by simp at hb; subst hb; exact hP1.lt), ?_⟩
    refine flow_one 5 (by kernel_rfl) rfl ?_
    go_wp2_with fail
    refine (pall_any C w2 (by omega)).mono ?_
    rintro e w3 ⟨vl, rfl, hO3, hb3⟩
    obtain ⟨Al, cl, rfl⟩ := hO3.slice
    rw [length_rangeI] at hO3 ⊢
    have hb13 := Below_trans' hb2 hb2.size hb3
    go_wp2
    refine FlowPost.mk ⟨altC_below hb13 (fun b hb => by simp at hb; subst hb; exact hP1.lt), ?_⟩
    refine flow_rest [6, 7, 8] (by kernel_rfl) ?_
    simp only [pickOps, List.getElem?_cons_zero, List.getElem?_cons_succ]
    go_wp2
    have hb4 : Below w3.heap.size w3 (w3.alloc (.cells #[.pointer (some ⟨g, 0, none⟩), .int .i64 C, .int .u8 1, .slice A n cp, .slice Al C cl] 71)) := (Below.refl _ _).alloc (Nat.le_refl _) _
    have hP4 := Has.new w3 71 #[.pointer (some ⟨g, 0, none⟩), .int .i64 C, .int .u8 1, .slice A n cp, .slice Al C cl]
    generalize World.alloc w3 _ = w4 at hb4 hP4 ⊢
    have hb14 := Below_trans' hb13 hb13.size hb4
    have hz2 := hb2.size
    have hz3 := hb3.size
    have hg2lt := hG2.lt
    obtain ⟨b, off, eA, _⟩ := hO3.new (show 0 < C by omega)
    have hqb := hO3.fps (b := b) ⟨by omega, off, eA⟩
    have hql := hO3.own_lt hqb
    have hst : PSt w1.heap.size (w3.heap.size + 1) w3.heap.size g b C A n cp A2 n2 c2 lot w1 w4 (.slice none 0 0) (.slice none 0 0) (.slice none 0 0) Al C cl (rangeI C) [] [] (fun _ => False) (fun _ => False) := {
      hb := hb14
      bS := hP4.lt
      hP := hP4
      hG := (hG2.below hb3 hG2.lt).below hb4 (hG2.below hb3 hG2.lt).lt
      hL := (hO3.mono hz2).below hb4
      hq := hqb
      hlot := ((hO2.ints (fun x hx => h'.bd hx)).below hb3).below hb4
      lotb := fun b' hb' => by
        have e := hO2.fps hb'
        have h1 := Hog.out b' e
        have h2 := (hO2.own_lt e).2
        omega
      hR := OAgg.nil_ _ _ _ _ _
      hT := OAgg.nil_ _ _ _ _ _
      frS := fun _ h => h.elim
      ftS := fun _ h => h.elim
      dis := by omega
      x1 := fun _ e => by cases e
      x2 := fun _ e => by cases e
      x3 := fun _ e => by cases e }
    have hci := CtInv.start l lot hC1
    have hP14 := hP1.below hb14 hP1.lt
    have HR14 := hR1
    have hw1 := hP1.lt
    have hV1 := hR1.lt
    generalize hh : w3.heap.size = hc at hst ⊢
    generalize hS : hc + 1 = S0 at hst
    have Hrow := h.below hb01
    clear hG2 hO2 hO3 hP4 hh hS hP14 eA hqb hql Hog hb4 hb3 hb13 hb14 hb2 hz3
    go_loopg [27] C (fun kk v wr => ∃ left rs ts rn vt Al nl cl fr ft, kk = left.length ∧ CtInv l C lot left rs ts ∧ PSt w1.heap.size S0 hc g b C A n cp A2 n2 c2 lot w1 wr (.slice none 0 0) rn vt Al nl cl left rs ts fr ft)
    case atStart => exact ⟨rangeI C, [], [], _, _, _, _, _, _, _, (length_rangeI C).symm, hci, hst⟩
    case round =>
      obtain ⟨left, rs, ts, rn, vt, Al', nl', cl', fr, ft, rfl, hci', hst'⟩ := hrel
      have hround := round_any w1.heap.size S0 hc g b C A n cp A2 n2 c2 lot w1 wr rn vt Al' nl' cl' left rs ts fr ft l hst' Hrow rfl hRk.out hci'.sub hci'.ne Hlot.out (by have := hci'.nrs; omega) (by have := hci'.nts; omega)
      have Hci := hide hci'
      clear hst' hci' hst hci
      go_wp2_with fail
      refine hround.mono ?_
      intro e w5 hp
      rcases hp with ⟨x, hwn, rfl, hW⟩ | ⟨hwn, rfl, rn', vt', Al2, nl2, cl2, fr', ft', hst2⟩
      · obtain ⟨Ae, ne, ce, Ar, nr, cr, Av, nv, cv, y1, y2, y3, y4, hG5, ⟨fp, hfp, hOn⟩, hH5, hb5⟩ := hW
        have hx := hide (Hci.out.won hwn)
        have hR5 := hR1.below hb5 hR1.lt
        have p0 := hH5.cell 0
        have q0 := hG5.cell 0
        have q1 := hG5.cell 1
        have q2 := hG5.cell 2
        have r0 := hR5.cell 0
        have r1 := hR5.cell 1
        have r2 := hR5.cell 2
        have f0 := hR5.free 0
        have f1 := hR5.free 1
        have f2 := hR5.free 2
        clear hwn hround Hci
        go_wp2
        have hfr : Frame' (fun b => b = V.heap.size) w5 (((w5.setCell ⟨V.heap.size, 0, none⟩ (.slice Ae ne ce)).setCell ⟨V.heap.size, 1, none⟩ (.slice Ar nr cr)).setCell ⟨V.heap.size, 2, none⟩ (.slice Av nv cv)) := ((Frame'.refl (fun b => b = V.heap.size) w5).setCell (p := ⟨V.heap.size, 0, none⟩) (.inl rfl) _ |>.setCell (p := ⟨V.heap.size, 1, none⟩) (.inl rfl) _).setCell (p := ⟨V.heap.size, 2, none⟩) (.inl rfl) _
        refine retOut2 rfl rfl rfl (put3 hR5) rfl rfl ⟨Ae, ne, ce, Ar, nr, cr, Av, nv, cv, by rw [hE0.out]; rfl, ?_, below3 (Below_trans' hb01 hb01.size hb5) (by omega) _ _ _⟩
        have ho : runO C 1 l seats lot = ([x], rs ++ [rndS (hadL (inL left) l C) (lostS (inL left) l) [x] []], ts) := by rw [hro.out, Int.toNat_natCast]; exact hx.out
        rw [ho]
        exact (hOn.frame hfr (fun b hb e => by have := hfp b hb; omega)).get
      · have hnx := Hci.out.next Hlot.out hwn
        have hlt := hnx.2
        have hnx' := hide hnx.1
        have Hst := hide hst2
        clear hst2 hnx hwn hround
        go_wp2
        go_roundg (outS left (lastS lot (leastS (hadL (inL left) l C) left))).length
        case measure => exact hlt
        case rel => exact ⟨_, _, _, rn', vt', Al2, nl2, cl2, fr', ft', rfl, hnx'.out, Hst.out⟩
  · have e1 : (mayS c k l 1 seats 1 lot != 0) = true := by simp [hE]
    have hro := hide (runO_bad hE)
    have q0 := hR1.cell 0
    have q1 := hR1.cell 1
    have q2 := hR1.cell 2
    have f0 := hR1.free 0
    have f1 := hR1.free 1
    have f2 := hR1.free 2
    go_wp2
    refine retOut2 rfl rfl rfl (put3 hR1) rfl rfl ⟨none, 0, 0, none, 0, 0, none, 0, 0, rfl, ?_, below3 hb01 (by omega) _ _ _⟩
    rw [hro.out]
    exact ROut.nil_ _
end Go.Proofs.YthkkadmgcicedaaGreat

namespace Go.Proofs.YthkkadmgcicedaaGreat
open Go.RowKit Go.Proofs Go.Shelf
attribute [local go_sem] cell?_more cell?_alloc_some cell?_setCell_far frozen?_alloc_some frozen?_more
theorem rows3 {w : World} {g t : Nat} {A1 A2 A3 : Option Addr} {n1 n2 n3 c1 c2 c3 : Nat} {m1 m2 m3 : List Int} {y1 y2 y3 : Int} (h1 : RInts w A1 n1 c1 m1) (h2 : RInts w A2 n2 c2 m2) (h3 : RInts w A3 n3 c3 m3) (i1 : I64 y1) (i2 : I64 y2) (i3 : I64 y3)
    (hg : Has w g t #[.slice A1 n1 c1, .int .i64 y1, .slice A2 n2 c2, .int .i64 y2, .slice A3 n3 c3, .int .i64 y3]) : RRows w (some ⟨g, 0, none⟩) 3 3 [(m1, y1), (m2, y2), (m3, y3)] := by
  refine ⟨rfl, Nat.le_refl _, by omega, fun _ => ⟨g, 0, rfl, fun i hi => ?_⟩⟩
  have : i = 0 ∨ i = 1 ∨ i = 2 := by omega
  rcases this with rfl | rfl | rfl
  · exact ⟨_, n1, c1, hg.cell 0, h1, hg.cell 1, i1.1, i1.2⟩
  · exact ⟨_, n2, c2, hg.cell 2, h2, hg.cell 3, i2.1, i2.2⟩
  · exact ⟨_, n3, c3, hg.cell 4, h3, hg.cell 5, i3.1, i3.2⟩
theorem rows2 {w : World} {g t : Nat} {A1 A2 : Option Addr} {n1 n2 c1 c2 : Nat} {m1 m2 : List Int} {y1 y2 : Int} (h1 : RInts w A1 n1 c1 m1) (h2 : RInts w A2 n2 c2 m2) (i1 : I64 y1) (i2 : I64 y2)
    (hg : Has w g t #[.slice A1 n1 c1, .int .i64 y1, .slice A2 n2 c2, .int .i64 y2]) : RRows w (some ⟨g, 0, none⟩) 2 2 [(m1, y1), (m2, y2)] := by
  refine ⟨rfl, Nat.le_refl _, by omega, fun _ => ⟨g, 0, rfl, fun i hi => ?_⟩⟩
  have : i = 0 ∨ i = 1 := by omega
  rcases this with rfl | rfl
  · exact ⟨_, n1, c1, hg.cell 0, h1, hg.cell 1, i1.1, i1.2⟩
  · exact ⟨_, n2, c2, hg.cell 2, h2, hg.cell 3, i2.1, i2.2⟩
theorem ints_lit {w : World} {g t : Nat} (xs : List Int) (h : Has w g t (icells xs)) (hn : xs.length ≤ 9223372036854775807) (hx : ∀ x ∈ xs, I64 x) : RInts w (some ⟨g, 0, none⟩) xs.length xs.length xs := by
  refine ⟨rfl, Nat.le_refl _, hn, hx, fun _ => ⟨g, 0, rfl, fun i hi => ?_⟩⟩
  rw [Nat.zero_add, h.cell]
  simp [icells, List.getD, hi]
theorem lit2 {w : World} {g t : Nat} {x y : Int} (h : Has w g t #[.int .i64 x, .int .i64 y]) (hx : I64 x) (hy : I64 y) : RInts w (some ⟨g, 0, none⟩) 2 2 [x, y] :=
  ints_lit [x, y] h (by simp) (by intro z hz; simp at hz; rcases hz with rfl | rfl; exact hx; exact hy)
theorem lit3 {w : World} {g t : Nat} {x y z : Int} (h : Has w g t #[.int .i64 x, .int .i64 y, .int .i64 z]) (hx : I64 x) (hy : I64 y) (hz : I64 z) : RInts w (some ⟨g, 0, none⟩) 3 3 [x, y, z] :=
  ints_lit [x, y, z] h (by simp) (by intro u hu; simp at hu; rcases hu with rfl | rfl | rfl; exact hx; exact hy; exact hz)
theorem ragg1 {α : Type} {E : World → List Value → α → Prop} {size : Nat} {w : World} {g t : Nat} {us : List Value} {x : α} (hg : Has w g t us.toArray) (hu : us.length = size) (h1 : E w us x) : RAgg E size w (some ⟨g, 0, none⟩) 1 1 [x] := by
  refine ⟨rfl, Nat.le_refl _, by omega, fun _ => ⟨g, 0, rfl, fun i hi => ?_⟩⟩
  obtain rfl : i = 0 := by omega
  exact ⟨us, x, rfl, hu, fun j u hj => by rw [hg.cell]; simpa using hj, h1⟩
theorem ragg2 {α : Type} {E : World → List Value → α → Prop} {size : Nat} {w : World} {g t : Nat} {us vs : List Value} {x y : α} (hg : Has w g t (us ++ vs).toArray) (hu : us.length = size) (hv : vs.length = size) (h1 : E w us x) (h2 : E w vs y) : RAgg E size w (some ⟨g, 0, none⟩) 2 2 [x, y] := by
  refine ⟨rfl, Nat.le_refl _, by omega, fun _ => ⟨g, 0, rfl, fun i hi => ?_⟩⟩
  have : i = 0 ∨ i = 1 := by omega
  rcases this with rfl | rfl
  · refine ⟨us, x, rfl, hu, fun j u hj => ?_, h1⟩
    have hjl := (List.getElem?_eq_some_iff.1 hj).1
    rw [hg.cell, ← Array.getElem?_toList]
    simp only [Nat.zero_mul, Nat.zero_add]
    rw [List.getElem?_append_left hjl]; exact hj
  · refine ⟨vs, y, rfl, hv, fun j u hj => ?_, h2⟩
    rw [hg.cell, ← Array.getElem?_toList]
    simp only [Nat.one_mul, Nat.zero_add]
    rw [List.getElem?_append_right (by omega), hu, show size + j - size = j by omega]; exact hj
theorem sizeRnd : (Tryz.prog.info? 41).map (·.size) = some 6 := by kernel_rfl
theorem retRndEnd {fn : Func} {R : Ending → World → Prop} {a : Act} {w : World} {p g : Nat} {C : Array Value} (hr : fn.results = #[.cell p 41]) (hp : a.tmps.getD p undef = .pointer (some ⟨g, 0, none⟩))
    (hg : Has w g 41 C) (hs : C.size = 6) (hd : a.defers = []) (hR : R (.returned (.agg C)) w) : bodyPost Tryz.prog fn R .ret a w :=
  bodyPost_ret (results_cell_row hr _ _ g _ C _ _ hp hg Tryz.underlying41 rfl (sizeRnd.trans (by rw [hs]))) hd hR
theorem put6 {w : World} {g : Nat} {t : TypeId} {x1 x2 x3 x4 x5 x6 y1 y2 y3 y4 y5 y6 : Value} (h : Has w g t #[x1, x2, x3, x4, x5, x6]) :
    Has ((((((w.setCell ⟨g, 0, none⟩ y1).setCell ⟨g, 1, none⟩ y2).setCell ⟨g, 2, none⟩ y3).setCell ⟨g, 3, none⟩ y4).setCell ⟨g, 4, none⟩ y5).setCell ⟨g, 5, none⟩ y6) g t #[y1, y2, y3, y4, y5, y6] := (((((h.put 0 y1).put 1 y2).put 2 y3).put 3 y4).put 4 y5).put 5 y6
theorem frame6 (w : World) (g : Nat) (y1 y2 y3 y4 y5 y6 : Value) : Frame' (fun b => b = g) w ((((((w.setCell ⟨g, 0, none⟩ y1).setCell ⟨g, 1, none⟩ y2).setCell ⟨g, 2, none⟩ y3).setCell ⟨g, 3, none⟩ y4).setCell ⟨g, 4, none⟩ y5).setCell ⟨g, 5, none⟩ y6) :=
  ((((((Frame'.refl (fun b => b = g) w).setCell (p := ⟨g, 0, none⟩) (.inl rfl) y1).setCell (p := ⟨g, 1, none⟩) (.inl rfl) y2).setCell (p := ⟨g, 2, none⟩) (.inl rfl) y3).setCell (p := ⟨g, 3, none⟩) (.inl rfl) y4).setCell (p := ⟨g, 4, none⟩) (.inl rfl) y5).setCell (p := ⟨g, 5, none⟩) (.inl rfl) y6

/-- What makes a round. -/
def RndPost (w : World) (had : List Int) (lost : Int) (A1 : Option Addr) (n1 c1 : Nat) (el : List Int) (A2 : Option Addr) (n2 c2 : Nat) (out : List Int) (e : Ending) (w' : World) : Prop :=
  ∃ A5 n5 c5 An nn cn Ad nd cd, e = .returned (.agg #[.slice A5 n5 c5, .bool false, .slice An nn cn, .slice Ad nd cd, .slice A1 n1 c1, .slice A2 n2 c2]) ∧ ERnd w' [.slice A5 n5 c5, .bool false, .slice An nn cn, .slice Ad nd cd, .slice A1 n1 c1, .slice A2 n2 c2] (rndS had lost el out) ∧ Below w.heap.size w w'
set_option maxRecDepth 100000 in
theorem rnd15_any (A : Option Addr) (n c : Nat) (had : List Int) (lost : Int) (A1 : Option Addr) (n1 c1 : Nat) (el : List Int) (A2 : Option Addr) (n2 c2 : Nat) (out : List Int) (w : World) (h : RInts w A n c had) (h1 : RInts w A1 n1 c1 el) (h2 : RInts w A2 n2 c2 out)
    (hn : n ≤ 1000) (hx : ∀ x ∈ had, 0 ≤ x ∧ x ≤ 4294967295) (hl0 : 0 ≤ lost) (hl1 : lost ≤ 4294967295) : Calls Tryz.prog 28 #[.slice A n c, .int .i64 lost, .slice A1 n1 c1, .slice A2 n2 c2] w (RndPost w had lost A1 n1 c1 el A2 n2 c2 out) := by
  have hb0 : Below w.heap.size w (w.alloc (.cells #[.slice none 0 0, .bool false, .slice none 0 0, .slice none 0 0, .slice none 0 0, .slice none 0 0] 41)) := below_allocN
  have hX0 := Has.new w 41 #[.slice none 0 0, .bool false, .slice none 0 0, .slice none 0 0, .slice none 0 0, .slice none 0 0]
  generalize hV : World.alloc w _ = V at hb0 hX0
  have Hx := hide hx
  clear hx
  go_enter Tryz.func28, Tryz.ntmps28
  go_wp2_with fail
  try simp only [hV]
  clear hV
  refine (rwholes_any A n c had V (h.below hb0) hn Hx.out).mono ?_
  rintro e w5 ⟨v5, fp5, rfl, hO5, hf5, hb5⟩
  have Hf5 := hide hf5
  clear hf5
  obtain ⟨A5, n5, c5, rfl⟩ : ∃ A n c, v5 = .slice A n c := let ⟨A, c, e⟩ := hO5.slice; ⟨A, _, c, e⟩
  go_wp2_with fail
  refine (rwhole_any lost w5 hl0 hl1).mono ?_
  rintro e w6 ⟨An, nn, cn, Ad, nd, cd, rfl, hn6, hd6, hb6, hf6⟩
  have Hf6 := hide hf6
  clear hf6
  have hb06 := Below_trans' hb0 hb0.size (Below_trans' hb5 hb5.size hb6)
  have hX6 := hX0.below (Below_trans' hb5 hb5.size hb6) hX0.lt
  have hV0 := hX0.lt
  have hz5 := hb5.size
  have f0 := hX6.free 0
  have f1 := hX6.free 1
  have f2 := hX6.free 2
  have f3 := hX6.free 3
  have f4 := hX6.free 4
  have f5 := hX6.free 5
  have q0 := hX6.cell 0
  have q1 := hX6.cell 1
  have q2 := hX6.cell 2
  have q3 := hX6.cell 3
  have q4 := hX6.cell 4
  have q5 := hX6.cell 5
  go_wp2
  have hfr := frame6 w6 w.heap.size (.slice A5 n5 c5) (.bool false) (.slice An nn cn) (.slice Ad nd cd) (.slice A1 n1 c1) (.slice A2 n2 c2)
  have hE := rnd_on (hO5.below hb6) hn6 hd6 (h1.below hb06) (h2.below hb06)
  have hfp : ∀ b, fpR fp5 An nn Ad nd A1 n1 A2 n2 (.slice A5 n5 c5) b → b < w.heap.size ∨ w.heap.size < b := fun b hb => by
    rcases hb with ((hb | hb) | hb | hb) | hb | hb
    · have h1 := Hf5.out b hb; omega
    · have h1 := (hO5.lt hb).1; omega
    · have h1 := Hf6.out b (.inl hb); omega
    · have h1 := Hf6.out b (.inr hb); omega
    · exact .inl (h1.on.1 b hb)
    · exact .inl (h2.on.1 b hb)
  exact retRndEnd rfl rfl (put6 hX6) rfl rfl ⟨A5, n5, c5, An, nn, cn, Ad, nd, cd, rfl, (hE.frame hfr (fun b hb e => by have := hfp b hb; omega)).get, Frame'.below hb06 hfr (fun b e => by omega) hb06.size⟩
end Go.Proofs.YthkkadmgcicedaaGreat
