/-
  The layer condorcet: count, over whatever says who has how much.
  The layer condorcet: Copeland and minimax.
-/
import Derived.Test.YtkhclcdmehjfkaaGreatSpecCo
import Derived.Test.YtkhclcdmehjfkaaGreatW3c
import Derived.Test.YtkhclcdmehjfkaaGreatW13e
import Derived.Test.YtkhclcdmehjfkaaGreatW15h
import Derived.Test.YtkhclcdmehjfkaaGreatFlow2
import Derived.Deep.CutRange
namespace Go.Proofs.YtkhclcdmehjfkaaGreat
open Go.RowKit Go.Proofs Go.Shelf
attribute [local go_sem ↓] ldm_fold
attribute [local go_sem] run_LDM run_LDM_more run_LDM_drew
attribute [local go_sem] cell?_alt cell?_more cell?_alloc_some cell?_setCell_far frozen?_alloc_some frozen?_more
theorem QPost.on {w : World} {x : Rat3} {A : Option Addr} {n c : Nat} {A' : Option Addr} {n' c' : Nat} (h : RWrds w A n c x.2.1) (h' : RWrds w A' n' c' x.2.2) :
    On (fun b => fpS A n b ∨ fpS A' n' b) w fun W => ERat W [.bool x.1, .slice A n c, .slice A' n' c'] x :=
  (h.on.and h'.on).imp fun _ hW => ⟨A, n, c, A', n', c', rfl, hW.1, hW.2⟩

/-- The closure of count: what has says of x. -/
theorem ccount1_any (FH : FuncId) (egH : ∀ args w, (callFunc FH args).run Tryz.prog w = .ok (.enter FH args) w) (lbH : Array Value) (D : Array Value) (hs : D.size = 100) (v : Int) (x : Int) (bh bm : Nat) (w : World)
    (hh : w.cell? ⟨bh, 0, none⟩ = some (.func (.func FH) #[] lbH)) (hm : Has w bm 24 D) (hc : Calls Tryz.prog FH (#[.agg D, .int .i64 x] ++ lbH) w fun e w' => e = .returned (.int .i64 v) ∧ Below w.heap.size w w') :
    Calls Tryz.prog 129 #[.int .i64 x, .pointer (some ⟨bh, 0, none⟩), .pointer (some ⟨bm, 0, none⟩)] w fun e w' => e = .returned (.int .i64 v) ∧ Below w.heap.size w w' := by
  go_enter Tryz.func129, Tryz.ntmps129
  go_wp2_with (first | (refine ldMat rfl rfl rfl hm hs ?_) | (go_at_fn FH; refine hc.mono ?_; rintro e w' ⟨rfl, hb'⟩))
  go_ret
  exact ⟨rfl, hb'⟩

/-- How count stands: the numbers of the first Y. -/
structure CntAt (g : Int → Rat3) (f : Int → Int) (rb B : Nat) (r1 r2 r3 r4 r5 : Value) (wL : World) (Y : Nat) (wr : World) : Prop where
  hb : Frame' (fun b => b = rb ∨ B ≤ b) wL wr
  has : ∃ vh fp, Has wr rb 53 #[vh, r1, r2, r3, r4, r5] ∧ OAgg ERat 51 3 fp wr B vh ((rangeI Y).map fun y => g (f y)) ∧ ∀ b, fp b → B ≤ b

/-- Behind the two stores. -/
def CutP (wr : World) (gc : Nat) (vt vl : Value) (x : Int) (R : Array Value) (be br : Nat) (W : World) : Prop :=
  Has W gc 92 #[.slice (some ⟨be, 0, none⟩) 1 1, .slice (some ⟨br, 0, none⟩) 1 1, vt, vl] ∧ Has W be 3 #[.int .i64 x] ∧ Has W br 53 R ∧ wr.heap.size ≤ be ∧ wr.heap.size ≤ br ∧ Frame' (fun b => b = gc) wr W
theorem cut_end {wr W2 : World} {gc be br : Nat} {s1 s2 vt vl : Value} {x : Int} {R : Array Value} (hb : Below wr.heap.size wr W2) (hC : Has wr gc 92 #[s1, s2, vt, vl]) (hX : Has W2 be 3 #[.int .i64 x]) (hN : Has W2 br 53 R) (hbe : wr.heap.size ≤ be) (hbr : wr.heap.size ≤ br) :
    CutP wr gc vt vl x R be br ((W2.setCell ⟨gc, 0, none⟩ (.slice (some ⟨be, 0, none⟩) 1 1)).setCell ⟨gc, 1, none⟩ (.slice (some ⟨br, 0, none⟩) 1 1)) := by
  have hl := hC.lt
  have k : Frame' (fun b => b = gc) W2 ((W2.setCell ⟨gc, 0, none⟩ (.slice (some ⟨be, 0, none⟩) 1 1)).setCell ⟨gc, 1, none⟩ (.slice (some ⟨br, 0, none⟩) 1 1)) := ((Frame'.refl (fun b => b = gc) W2).setCell (p := ⟨gc, 0, none⟩) (.inl rfl) _).setCell (p := ⟨gc, 1, none⟩) (.inl rfl) _
  exact ⟨((hC.below hb hl).put 0 _).put 1 _, k.has hX (by omega), k.has hN (by omega), hbe, hbr, (Frame'.of_below hb).trans k⟩
theorem cut_end2 {wr W1 : World} {gc be : Nat} {s1 s2 vt vl : Value} {x : Int} {us : Array Value} (hb : Below wr.heap.size wr W1) (hC : Has wr gc 92 #[s1, s2, vt, vl]) (hX : Has W1 be 3 #[.int .i64 x]) (hbe : wr.heap.size ≤ be) (br : Nat) (hbr : br = W1.heap.size) :
    CutP wr gc vt vl x us be br (((W1.setCell ⟨gc, 0, none⟩ (.slice (some ⟨be, 0, none⟩) 1 1)).alloc (.cells us 53)).setCell ⟨gc, 1, none⟩ (.slice (some ⟨br, 0, none⟩) 1 1)) := by
  have hl := hC.lt
  have hz := hb.size
  have k1 : Frame' (fun b => b = gc) W1 (W1.setCell ⟨gc, 0, none⟩ (.slice (some ⟨be, 0, none⟩) 1 1)) := (Frame'.refl (fun b => b = gc) W1).setCell (p := ⟨gc, 0, none⟩) (.inl rfl) _
  have hs : (W1.setCell ⟨gc, 0, none⟩ (.slice (some ⟨be, 0, none⟩) 1 1)).heap.size = W1.heap.size := by simp [World.setCell]
  have hC1 : Has (W1.setCell ⟨gc, 0, none⟩ (.slice (some ⟨be, 0, none⟩) 1 1)) gc 92 #[.slice (some ⟨be, 0, none⟩) 1 1, s2, vt, vl] := (hC.below hb hl).put 0 _
  have hX1 := k1.has hX (show ¬ be = gc by omega)
  generalize World.setCell W1 _ _ = W2 at k1 hs hC1 hX1 ⊢
  have hN : Has (W2.alloc (.cells us 53)) br 53 us := by rw [hbr, ← hs]; exact Has.new _ _ _
  have hb2 : Below W2.heap.size W2 (W2.alloc (.cells us 53)) := below_allocN
  have hC2 := hC1.below hb2 hC1.lt
  have hX2 := hX1.below hb2 hX1.lt
  generalize World.alloc W2 _ = W3 at hN hb2 hC2 hX2 ⊢
  have k3 : Frame' (fun b => b = gc) W3 (W3.setCell ⟨gc, 1, none⟩ (.slice (some ⟨br, 0, none⟩) 1 1)) := (Frame'.refl (fun b => b = gc) W3).setCell (p := ⟨gc, 1, none⟩) (.inl rfl) _
  exact ⟨hC2.put 1 _, k3.has hX2 (by omega), k3.has hN (by omega), hbe, by omega, ((Frame'.of_below hb).trans k1).trans ((Frame'.of_below hb2).trans k3)⟩
theorem rangeI_snoc (n : Nat) (h : Int → Rat3) : (rangeI (n + 1)).map h = (rangeI n).map h ++ [h n] := by rw [rangeI_succ, List.map_append]; rfl
set_option maxRecDepth 100000 in
set_option maxHeartbeats 4000000 in
theorem ccount_any (c k : Int) (A : Option Addr) (n cp : Nat) (l : List Row) (seats : Int) (At : Option Addr) (nt ct : Nat) (lot : List Int) (FH FT : FuncId) (egH : ∀ args w, (callFunc FH args).run Tryz.prog w = .ok (.enter FH args) w) (egT : ∀ args w, (callFunc FT args).run Tryz.prog w = .ok (.enter FT args) w) (lbH lbT : Array Value) (f : Int → Int) (g : Int → Rat3)
    (w : World) (h : RRows w A n cp l) (h' : RInts w At nt ct lot) (hn : nt ≤ 1000)
    (hH : mayS c k l 1 seats 1 lot = 0 → ∀ D W, Mat D (ofR c k l) → Below w.heap.size w W → ∀ x, 0 ≤ x → x < c → Calls Tryz.prog FH (#[.agg D, .int .i64 x] ++ lbH) W fun e w' => e = .returned (.int .i64 (f x)) ∧ Below W.heap.size W w')
    (hT : mayS c k l 1 seats 1 lot = 0 → ∀ W, Below w.heap.size w W → ∀ y, 0 ≤ y → y < c → Calls Tryz.prog FT (#[.int .i64 (f y)] ++ lbT) W (QPost W (g (f y)))) :
    Calls Tryz.prog 86 #[.agg #[.int .i64 c, .int .u8 k, .slice A n cp], .int .i64 seats, .slice At nt ct, .func (.func FH) #[] lbH, .func (.func FT) #[] lbT] w (OutPost w (cmostR f g c k l seats lot) (mayS c k l 1 seats 1 lot)) := by
  have HH := hide hH
  have HT := hide hT
  clear hH hT
  have hP0 : Has (((w.alloc (.cells #[.int .i64 c, .int .u8 k, .slice A n cp] 28)).alloc (.cells #[.func (.func FH) #[] lbH] 111)).alloc (.cells #[.slice none 0 0, .slice none 0 0, .slice none 0 0] 38)) w.heap.size 28 #[.int .i64 c, .int .u8 k, .slice A n cp] := ((Has.new _ _ _).alloc _).alloc _
  have hF0 : Has (((w.alloc (.cells #[.int .i64 c, .int .u8 k, .slice A n cp] 28)).alloc (.cells #[.func (.func FH) #[] lbH] 111)).alloc (.cells #[.slice none 0 0, .slice none 0 0, .slice none 0 0] 38)) (w.heap.size + 1) 111 #[.func (.func FH) #[] lbH] := (Has.new2 _ _ _ _).alloc _
  have hR0 : Has (((w.alloc (.cells #[.int .i64 c, .int .u8 k, .slice A n cp] 28)).alloc (.cells #[.func (.func FH) #[] lbH] 111)).alloc (.cells #[.slice none 0 0, .slice none 0 0, .slice none 0 0] 38)) (w.heap.size + 1 + 1) 38 #[.slice none 0 0, .slice none 0 0, .slice none 0 0] := Has.new3 _ _ _ _ _
  have hb0 : Below w.heap.size w (((w.alloc (.cells #[.int .i64 c, .int .u8 k, .slice A n cp] 28)).alloc (.cells #[.func (.func FH) #[] lbH] 111)).alloc (.cells #[.slice none 0 0, .slice none 0 0, .slice none 0 0] 38)) := (((Below.refl _ _).alloc (Nat.le_refl _) _).alloc (by simp) _).alloc (by simp; omega) _
  go_enter Tryz.func86, Tryz.ntmps86
  go_upto_region 1 with fail
  generalize World.alloc (World.alloc (World.alloc w _) _) _ = W0 at hP0 hF0 hR0 hb0 ⊢
  have p0 := hP0.cell 0
  have p1 := hP0.cell 1
  have p2 := hP0.cell 2
  go_wp2_with fail
  refine (ccheck_any c k A n cp l 1 seats 1 At nt ct lot W0 (h.below hb0) (h'.below hb0) hn).mono ?_
  rintro e w1 ⟨rfl, hb1⟩
  have hb01 := Below_trans' hb0 hb0.size hb1
  have hP1 := hP0.below hb1 hP0.lt
  have hF1 := hF0.below hb1 hF0.lt
  have hR1 := hR0.below hb1 hR0.lt
  clear p0 p1 p2 hP0 hR0 hF0
  by_cases hE : mayS c k l 1 seats 1 lot = 0
  · have e1 : (mayS c k l 1 seats 1 lot != 0) = false := by simp [hE]
    have HH2 := hide (HH.out hE)
    have HT2 := hide (HT.out hE)
    clear HH HT
    obtain ⟨hc0, hk0, hs1, hs2, hs3, hlot⟩ := may_zero hE
    subst hk0
    have hcs := check_ok hc0
    obtain ⟨C, rfl⟩ : ∃ C : Nat, c = (C : Int) := ⟨c.toNat, by omega⟩
    have Hlot := hide hlot
    have hE0 := hide hE
    have hC10 : C ≤ 10 := (rank_ok hc0).c10
    have hC1 : 1 ≤ C := (rank_ok hc0).c1
    have hpo := pof_any C 1 A n cp l w1 (h.below hb01)
    unfold POfPost at hpo
    rw [hc0] at hpo
    clear hcs hE hc0 hlot
    have p0 := hP1.cell 0
    have p1 := hP1.cell 1
    have p2 := hP1.cell 2
    go_wp2_with fail
    refine hpo.mono ?_
    rintro e w2 ⟨D, rfl, hD, hb2⟩
    clear hpo p0 p1 p2
    have hDs := hD.size
    have hb02 := Below_trans' hb01 hb01.size hb2
    have hZ2 : Has (w2.alloc (.cells Tryz.zeroCells24 24)) w2.heap.size 24 Tryz.zeroCells24 := Has.new _ _ _
    have hM3 : Has ((w2.alloc (.cells Tryz.zeroCells24 24)).setRow w2.heap.size D) w2.heap.size 24 D := hZ2.setRow _
    have hb23 : Below w2.heap.size w2 ((w2.alloc (.cells Tryz.zeroCells24 24)).setRow w2.heap.size D) := below_setRow ((Below.refl _ _).alloc (Nat.le_refl _) _) (Nat.le_refl _) _
    go_upto_region 5 with (refine stMat rfl rfl rfl rfl hZ2 zeroMat.size hDs hD.one ?_)
    generalize World.setRow (World.alloc w2 _) _ _ = w3 at hM3 hb23 ⊢
    clear hZ2
    have hb03 := Below_trans' hb02 hb02.size hb23
    have hb13 := Below_trans' hb2 hb2.size hb23
    have hP3 := hP1.below hb13 hP1.lt
    have hF3 := hF1.below hb13 hF1.lt
    have hR3 := hR1.below hb13 hR1.lt
    have hgM : w.heap.size + 2 < w2.heap.size := Nat.lt_of_lt_of_le hR1.lt hb2.size
    generalize hmb : w2.heap.size = mb at hM3 hgM ⊢
    clear hmb hP1 hF1 hR1 hb2 hb1 hb23 hb13 hb01 hb02
    have egc : ∀ args w, (callFunc 129 args).run Tryz.prog w = .ok (.enter 129 args) w := enters_of Tryz.func129 (by kernel_rfl) rfl
    go_wp2_with fail
    refine (cof_any At nt ct lot w3 (h'.below hb03) hn).mono ?_
    rintro e w8 ⟨gc, A2, n2, c2, rfl, hC8, hO8, hgE, hog, hb8⟩
    have p0 := (hP3.below hb8 hP3.lt).cell 0
    go_wp2_with fail
    refine (pall_any C w8 (by omega)).mono ?_
    rintro e w9 ⟨vl, rfl, hO9, hb9⟩
    clear p0
    obtain ⟨Al, cl, rfl⟩ := hO9.slice
    rw [length_rangeI] at hO9 ⊢
    have hI9 := hO9.ints (fun y hy => by have := mem_rangeI.1 hy; omega)
    have hb39 := Below_trans' hb8 hb8.size hb9
    have hb09 := Below_trans' hb03 hb03.size hb39
    have hbt := best_at 129 egc f #[.pointer (some ⟨w.heap.size + 1, 0, none⟩), .pointer (some ⟨mb, 0, none⟩)] Al C cl (rangeI C) w9 hI9 (by omega) (fun W hbW x hx => by
      have rx := mem_rangeI.1 hx
      have hb3W := Below_trans' hb39 hb39.size hbW
      exact ccount1_any FH egH lbH D hDs (f x) x (w.heap.size + 1) mb W ((hF3.below hb3W hF3.lt).cell 0) (hM3.below hb3W hM3.lt) (HH2.out D W hD (Below_trans' hb03 hb03.size hb3W) x rx.1 rx.2))
    go_wp2_with fail
    refine hbt.mono ?_
    rintro e w10 ⟨vb, rfl, hO10, hb10⟩
    clear hbt
    obtain ⟨Ab, cb, rfl⟩ := hO10.slice
    have hbs : (bestS f (rangeI C)).Sublist (rangeI C) := bestS_sub _ _
    have hbn : bestS f (rangeI C) ≠ [] := bestS_ne (fun e => by have := congrArg List.length e; rw [length_rangeI] at this; simp at this; omega)
    have htm : ∀ y ∈ bestS f (rangeI C), 0 ≤ y ∧ y < C := fun y hy => mem_rangeI.1 (hbs.subset hy)
    have hI10 := hO10.ints (fun y hy => by have := htm y hy; omega)
    have hb310 := Below_trans' hb39 hb39.size hb10
    have hb810 := Below_trans' hb9 hb9.size hb10
    have hC10' := hC8.below hb810 hC8.lt
    have hL10 := (hO8.ints (fun x hx => h'.bd hx)).below hb810
    have hn2 : n2 ≤ 1000 := by have h1 := hL10.len; have h2 := h'.len; omega
    have htl : (bestS f (rangeI C)).length ≤ C := by have := hbs.length_le; rw [length_rangeI] at this; exact this
    have htp := List.length_pos_iff.2 hbn
    have hfi := pfirst_any gc w10.heap.size (.slice none 0 0) (.slice none 0 0) (.slice none 0 0) A2 n2 c2 lot (fun _ => False) [] Ab _ cb (bestS f (rangeI C)) w10 hC10' (Nat.le_refl _) (OAgg.nil_ _ _ _ _ _) (fun h => h) (by simp [Value.ownBlock]) hL10 hn2 hI10 (by omega) htp ((le_rangeI C).sublist hbs) (fun x hx => lot_in Hlot.out (hbs.subset hx)) (by simp)
    have hxm : frstS lot (bestS f (rangeI C)) ∈ bestS f (rangeI C) := by
      obtain ⟨a, ha⟩ := List.exists_mem_of_ne_nil _ hbn
      unfold frstS
      cases hf : lot.find? (inL (bestS f (rangeI C))) with
      | none => exact absurd (inL_iff.2 ha) (by have := List.find?_eq_none.1 hf a (lot_in Hlot.out (hbs.subset ha)); simpa using this)
      | some y => exact inL_iff.1 (by simpa using List.find?_some hf)
    have hxr := htm _ hxm
    have hout := hide (show mostO f g C lot = ([frstS lot (bestS f (rangeI C))], [((rangeI C).map fun y => g (f y), wholeS 0, [frstS lot (bestS f (rangeI C))], [])], tiedS [] (bestS f (rangeI C)) (frstS lot (bestS f (rangeI C)))) from rfl)
    clear htm hxm hbs hbn
    go_wp2_with fail
    refine hfi.mono ?_
    rintro e w11 ⟨rfl, vt', fp', hC11, hT11, hfp, hvb, hF11⟩
    clear hfi
    generalize frstS lot (bestS f (rangeI C)) = x at *
    have hb10w : Below w.heap.size w w10 := Below_trans' hb03 hb03.size hb310
    have hgw : mb < gc := by have := hM3.lt; omega
    have hb11w : Below w.heap.size w w11 := Frame'.below hb10w hF11 (fun b e => by rcases e with e | e; omega; cases e) hb10w.size
    have hFE11 : Frame' (fun b => b = gc) w3 w11 := (Frame'.of_below hb310).trans (hF11.mono fun b _ e => by rcases e with e | e; exact e; cases e)
    have hP11 := hFE11.has hP3 (by omega)
    have hF11' := hFE11.has hF3 (by omega)
    have hR11 := hFE11.has hR3 (by omega)
    have hM11 := hFE11.has hM3 (by omega)
    have hg100 := hide hC10'.lt
    clear hF11 hFE11 hC10' hC8 hL10 hO8 hI10 hO10 hO9 hI9 hb39 hb09 hb310 hb810 hb8 hb9 hb10 hP3 hF3 hR3 hM3 hb10w hb03 hb0
    go_wp2_with fail
    refine (pwhole_any 0 w11 (by omega) (by omega)).mono ?_
    rintro e w12 ⟨An, nn, cn, Ad, nd, cd, rfl, hn12, hd12, hb12, hf12⟩
    have Hf12 := hide hf12
    clear hf12
    have hX13 : Has ((w12.alloc (.cells #[.int .i64 x] 3)).alloc (.cells #[.slice none 0 0, .bool false, .slice An nn cn, .slice Ad nd cd, .slice (some ⟨w12.heap.size, 0, none⟩) 1 1, .slice none 0 0] 53)) w12.heap.size 3 #[.int .i64 x] := (Has.new _ _ _).alloc _
    have hN13 : Has ((w12.alloc (.cells #[.int .i64 x] 3)).alloc (.cells #[.slice none 0 0, .bool false, .slice An nn cn, .slice Ad nd cd, .slice (some ⟨w12.heap.size, 0, none⟩) 1 1, .slice none 0 0] 53)) (w12.heap.size + 1) 53 #[.slice none 0 0, .bool false, .slice An nn cn, .slice Ad nd cd, .slice (some ⟨w12.heap.size, 0, none⟩) 1 1, .slice none 0 0] := Has.new2 _ _ _ _
    have hb13 : Below w12.heap.size w12 ((w12.alloc (.cells #[.int .i64 x] 3)).alloc (.cells #[.slice none 0 0, .bool false, .slice An nn cn, .slice Ad nd cd, .slice (some ⟨w12.heap.size, 0, none⟩) 1 1, .slice none 0 0] 53)) := ((Below.refl _ _).alloc (Nat.le_refl _) _).alloc (by simp) _
    go_upto_region 8 with fail
    generalize World.alloc (World.alloc w12 _) _ = wL at hX13 hN13 hb13 ⊢
    have hb1L := Below_trans' hb12 hb12.size hb13
    have hPL := hP11.below hb1L hP11.lt
    have hFL := hF11'.below hb1L hF11'.lt
    have hRL := hR11.below hb1L hR11.lt
    have hML := hM11.below hb1L hM11.lt
    have hCL := hC11.below hb1L hC11.lt
    have hTL := hT11.below hb1L
    have hnL := hn12.below hb13
    have hdL := hd12.below hb13
    have hbwL := Below_trans' hb11w hb11w.size hb1L
    have hg12 : gc < w12.heap.size := Nat.lt_of_lt_of_le hC11.lt hb12.size
    have hfnd : Hid (∀ b, fpS An nn b ∨ fpS Ad nd b → w11.heap.size ≤ b ∧ b < w12.heap.size) := fun b hb => ⟨Hf12.out b hb, hb.elim (hn12.on.1 b) (hd12.on.1 b)⟩
    have hft : Hid (∀ b, fp' b → w10.heap.size ≤ b ∧ b < w11.heap.size) := fun b hb => ⟨(hfp b hb).elim (fun h => h.elim) id, hT11.fp_lt hb⟩
    have hg10 : gc < w11.heap.size := hC11.lt
    have hvt : Hid (∀ b, vt'.ownBlock = some b → w10.heap.size ≤ b ∧ b < w11.heap.size) := fun b hb => hT11.lt hb
    have hz112 := hb12.size
    clear hP11 hF11' hR11 hM11 hC11 hT11 hn12 hd12 hb13 hb12 hb1L hfp hvb
    obtain ⟨rb, hrb⟩ : ∃ rb, rb = w12.heap.size + 1 := ⟨_, rfl⟩
    rw [← hrb] at hN13 ⊢
    have hrL : rb < wL.heap.size := hN13.lt
    have hr12 : w12.heap.size < rb := by omega
    have Hrb := hide hrb
    clear hrb
    have hI0 : CntAt g f rb wL.heap.size (.bool false) (.slice An nn cn) (.slice Ad nd cd) (.slice (some ⟨w12.heap.size, 0, none⟩) 1 1) (.slice none 0 0) wL 0 wL := ⟨Frame'.refl _ _, _, _, hN13, OAgg.nil_ _ _ _ _ _, fun b h => h.elim⟩
    have p0 := hPL.cell 0
    go_wp2
    clear p0
    go_loopw [47] (fun i wr => ∃ Y : Nat, Y ≤ C ∧ i = .int .i64 Y ∧ CntAt g f rb wL.heap.size (.bool false) (.slice An nn cn) (.slice Ad nd cd) (.slice (some ⟨w12.heap.size, 0, none⟩) 1 1) (.slice none 0 0) wL Y wr) (fun i _ => C - (intOf i).toNat)
    case atStart => exact ⟨0, Nat.zero_le _, rfl, hI0⟩
    case round =>
      clear hI0
      obtain ⟨Y, hY, rfl, hF, vh, fp, hRr, hOr, hfpB⟩ := hrel
      have Hfp := hide hfpB
      clear hfpB
      obtain ⟨Ah, ch, rfl⟩ := hOr.slice
      rw [List.length_map, length_rangeI] at hOr hRr
      have hFr := hF.has hFL (by omega)
      have hMr := hF.has hML (by omega)
      have hbwr : Below w.heap.size w wr := Frame'.below hbwL hF (fun b e => by rcases e with e | e; omega; have := hbwL.size; omega) hbwL.size
      by_cases hYC : Y < C
      · have r0 := hRr.cell 0
        have h0 := hFr.cell 0
        have gd1 := good_of hMr hDs
        have gc1 := cells_eq hMr
        go_upto_region 11 with fail
        refine wp_region_flowz [0, 1, 2, 3, 4, 5] [0, 1, 2, 3, 4, 5] (fun w' => ∃ q, w' = More wr q) (by kernel_rfl) (by kernel_rfl) (below_more ((Below.refl wr.heap.size wr).drew)) ?_
        simp only [pickOps, List.getElem?_cons_zero, List.getElem?_cons_succ]
        repeat (go_big_quiet_step (fail))
        refine wpQuiet_nil ?_
        have hdr : Below wr.heap.size wr wr.drew := (Below.refl _ _).drew
        clear r0 h0 gd1 gc1
        refine flow_one 6 (by kernel_rfl) rfl ?_
        have hca := HH2.out D wr.drew hD (hbwr.drew) Y (by omega) (by omega)
        go_wp2_with (go_at_fn FH; refine hca.mono ?_; rintro e wa ⟨rfl, hba⟩)
        have hbra : Below wr.heap.size wr wa := Below_trans' hdr (Nat.le_refl _) hba
        refine FlowPost.mk ⟨below_more hbra, ?_⟩
        refine flow_one 7 (by kernel_rfl) rfl ?_
        have hcb := HT2.out wa (Below_trans' hbwr hbwr.size hbra) Y (by omega) (by omega)
        go_wp2_with (go_at_fn FT; refine hcb.mono ?_; rintro e wb ⟨Aq, nq, cq, Ar, nr, cr, rfl, hq1, hq2, hbb, hqf⟩)
        have hbrb := Below_trans' hbra hbra.size hbb
        refine FlowPost.mk ⟨below_more hbrb, ?_⟩
        refine flow_one 8 (by kernel_rfl) rfl ?_
        have hRb := hRr.below hbrb hRr.lt
        have hOb := hOr.below hbrb
        have hzb := hbrb.size
        have hzr : wL.heap.size ≤ wr.heap.size := hF.size
        have Hqf := hide hqf
        clear hqf
        have hN9 : Has (wb.alloc (.cells #[.bool (g (f Y)).1, .slice Aq nq cq, .slice Ar nr cr] 51)) wb.heap.size 51 #[.bool (g (f Y)).1, .slice Aq nq cq, .slice Ar nr cr] := Has.new _ _ _
        have hfx : ∀ b, (fpS Aq nq b ∨ fpS Ar nr b) → wr.heap.size ≤ b := fun b hb => Nat.le_trans hbra.size (Hqf.out b hb)
        have hvo : ∀ b, (Value.slice Ah Y ch).ownBlock = some b → wL.heap.size ≤ b ∧ b < wr.heap.size := fun b hb => hOr.lt hb
        obtain ⟨v', w', h41, hA⟩ := app_put_at infoRat Tryz.underlying48 rfl (by decide) (by decide) 0 hRb hOb (QPost.on hq1 hq2) rfl (by simp [Value.oneCell']) (fun b hb h => by have := hvo b hb; have := hfx b h; omega) (fun h => by have := Hfp.out _ h; omega) (fun h => by have := hfx _ h; omega) (fun h => by have := hvo _ h; omega) (by omega) (by rw [List.length_map, length_rangeI]; omega) below_allocN hN9
        obtain ⟨Av, nv, cv, rfl⟩ : ∃ Av nv cv, v' = .slice Av nv cv := let ⟨A, c, e⟩ := hA.own.slice; ⟨A, _, c, e⟩
        have q0 := hA.hg.cell 0
        have q1 := hA.hg.free 0
        go_wp2
        refine FlowPost.mk ⟨below_more (hbrb.alloc hzb _), ?_⟩
        refine flow_rest [9, 10, 11] (by kernel_rfl) ?_
        simp only [pickOps, List.getElem?_cons_zero, List.getElem?_cons_succ]
        go_wp2_with (at_builtin; refine list_app rfl rfl rfl rfl h41 ?_)
        clear h41
        have hsn := hide (rangeI_snoc Y (fun y => g (f y)))
        have Hvo := hide hvo
        have Hfx := hide hfx
        clear hvo hfx
        go_wp2
        go_roundw
        case rel =>
          refine ⟨Y + 1, by omega, by go_num, ⟨hF.trans ((Frame'.of_below hbrb).trans (hA.fr2.mono fun b _ e => ?_)), _, _, hA.put, by rw [hsn.out]; exact hA.own, fun b hb => ?_⟩⟩
          · rcases e with e | e
            · exact .inl e
            · exact .inr (Hvo.out b e).1
          · rcases hb with hb | hb
            · exact Hfp.out b hb
            · have := Hfx.out b hb; omega
        case measure => simp [intOf] <;> omega
      · obtain rfl : C = Y := by omega
        have hCr := hF.has hCL (by omega)
        have hRes := hF.has hRL (by omega)
        have hXr := hF.has hX13 (by omega)
        have r0 := hRr.cell 0
        have r1 := hRr.cell 1
        have r2 := hRr.cell 2
        have r3 := hRr.cell 3
        have r4 := hRr.cell 4
        have r5 := hRr.cell 5
        go_upto_region 13 with fail
        go_cut [62] from 62 to 73 (fun _ wx => ∃ be br, CutP wr gc vt' (.slice A2 n2 c2) x #[.slice Ah C ch, .bool false, .slice An nn cn, .slice Ad nd cd, .slice (some ⟨w12.heap.size, 0, none⟩) 1 1, .slice none 0 0] be br wx)
        case first =>
          have hg0 := hCr.cell 0
          have hg1 := hCr.cell 1
          have hk0 := hCr.free 0
          have hk1 := hCr.free 1
          have hgl := hCr.lt
          have hrl := hRr.lt
          refine wp_region_flowz [0, 1, 2, 4] [0, 1, 2, 4, 6, 7, 8, 10, 11, 12] (fun w' => ∃ q, w' = Alt wr [rb] q) (by kernel_rfl) (by kernel_rfl) (altC_drew _ _) ?_
          simp only [pickOps, List.getElem?_cons_zero, List.getElem?_cons_succ]
          repeat (go_big_quiet_step (fail))
          refine wpQuiet_nil ?_
          clear r0 r1 r2 r3 r4 r5
          refine flow_two 3 5 (by kernel_rfl) rfl rfl ?_ ?_
          · have hb1 : Below wr.heap.size wr (wr.alloc (.cells #[.int .i64 x] 3)).drew := ((Below.refl _ _).alloc (Nat.le_refl _) _).drew
            have hX1 : Has (wr.alloc (.cells #[.int .i64 x] 3)).drew wr.heap.size 3 #[.int .i64 x] := (Has.new wr 3 #[.int .i64 x]).drew
            clear hg0 hg1 hk0 hk1
            go_wp2
            generalize World.drew _ = W1 at hb1 hX1 ⊢
            have hal : ∀ b ∈ [rb], b < wr.heap.size := fun b hb => by simp at hb; omega
            refine FlowPost.mk ⟨altC_below hb1 hal, ?_⟩
            refine flow_pure [6, 7, 8] (by kernel_rfl) (altC_below hb1 hal) ?_
            simp only [pickOps, List.getElem?_cons_zero, List.getElem?_cons_succ]
            repeat (go_big_quiet_step (fail))
            refine wpQuiet_nil ?_
            refine flow_two 5 9 (by kernel_rfl) rfl rfl ?_ ?_
            · have hb2 : Below W1.heap.size W1 (W1.alloc (.cells #[.slice Ah C ch, .bool false, .slice An nn cn, .slice Ad nd cd, .slice (some ⟨w12.heap.size, 0, none⟩) 1 1, .slice none 0 0] 53)) := below_allocN
              have hN2 : Has (W1.alloc (.cells #[.slice Ah C ch, .bool false, .slice An nn cn, .slice Ad nd cd, .slice (some ⟨w12.heap.size, 0, none⟩) 1 1, .slice none 0 0] 53)) W1.heap.size 53 #[.slice Ah C ch, .bool false, .slice An nn cn, .slice Ad nd cd, .slice (some ⟨w12.heap.size, 0, none⟩) 1 1, .slice none 0 0] := Has.new _ _ _
              go_wp2
              generalize World.alloc W1 _ = W2 at hb2 hN2 ⊢
              have hb02 := Below_trans' hb1 hb1.size hb2
              have hce := cut_end hb02 hCr (hX1.below hb2 hX1.lt) hN2 (Nat.le_refl _) hb1.size
              refine FlowPost.mk ⟨altC_below hb02 hal, ?_⟩
              refine flow_one 9 (by kernel_rfl) rfl ?_
              have hC2 := hCr.below hb02 hCr.lt
              have q0 := hC2.cell 0
              have q1 := hC2.cell 1
              have k0 := hC2.free 0
              have k1 := hC2.free 1
              have hfr := (Frame'.of_below (S := fun b => b = gc) hb02).trans (Frame'.setCell (p := ⟨gc, 0, none⟩) (Frame'.refl (fun b => b = gc) W2) (.inl rfl) (.slice (some ⟨wr.heap.size, 0, none⟩) 1 1))
              have hac := altC_frame (D := [rb]) hfr (fun b hb => by simp at hb; exact ⟨by omega, by omega⟩)
              go_wp2
              refine FlowPost.mk ⟨hac, ?_⟩
              refine flow_pure [10, 11, 12] (by kernel_rfl) hac ?_
              simp only [pickOps, List.getElem?_cons_zero, List.getElem?_cons_succ]
              repeat (go_big_quiet_step (fail))
              refine wpQuiet_nil ?_
              refine flow_rest [13] (by kernel_rfl) ?_
              simp only [pickOps, List.getElem?_cons_zero, List.getElem?_cons_succ]
              go_wp2
              go_meet
              exact ⟨_, _, hce⟩
            · have hce := fun us => cut_end2 (us := us) hb1 hCr hX1 (Nat.le_refl _) W1.heap.size rfl
              have hC2 := hCr.below hb1 hCr.lt
              have q0 := hC2.cell 0
              have q1 := hC2.cell 1
              have k0 := hC2.free 0
              have k1 := hC2.free 1
              have hfr := (Frame'.of_below (S := fun b => b = gc) hb1).trans (Frame'.setCell (p := ⟨gc, 0, none⟩) (Frame'.refl (fun b => b = gc) W1) (.inl rfl) (.slice (some ⟨wr.heap.size, 0, none⟩) 1 1))
              have hac := altC_frame (D := [rb]) hfr (fun b hb => by simp at hb; exact ⟨by omega, by omega⟩)
              have hac2 := fun o => altC_frame (D := [rb]) (hfr.alloc o) (fun b hb => by simp at hb; exact ⟨by omega, by omega⟩)
              go_wp2
              refine FlowPost.mk ⟨hac, ?_⟩
              refine flow_one 5 (by kernel_rfl) rfl ?_
              go_wp2
              refine FlowPost.mk ⟨hac2 _, ?_⟩
              refine flow_pure [10, 11, 12] (by kernel_rfl) (hac2 _) ?_
              simp only [pickOps, List.getElem?_cons_zero, List.getElem?_cons_succ]
              repeat (go_big_quiet_step (fail))
              refine wpQuiet_nil ?_
              refine flow_rest [13] (by kernel_rfl) ?_
              simp only [pickOps, List.getElem?_cons_zero, List.getElem?_cons_succ]
              go_wp2
              go_meet
              exact ⟨_, _, hce _⟩
          · have hb1 : Below wr.heap.size wr (wr.alloc (.cells #[.slice Ah C ch, .bool false, .slice An nn cn, .slice Ad nd cd, .slice (some ⟨w12.heap.size, 0, none⟩) 1 1, .slice none 0 0] 53)).drew := ((Below.refl _ _).alloc (Nat.le_refl _) _).drew
            have hN1 : Has (wr.alloc (.cells #[.slice Ah C ch, .bool false, .slice An nn cn, .slice Ad nd cd, .slice (some ⟨w12.heap.size, 0, none⟩) 1 1, .slice none 0 0] 53)).drew wr.heap.size 53 #[.slice Ah C ch, .bool false, .slice An nn cn, .slice Ad nd cd, .slice (some ⟨w12.heap.size, 0, none⟩) 1 1, .slice none 0 0] := (Has.new wr _ _).drew
            clear hg0 hg1 hk0 hk1
            go_wp2
            generalize World.drew _ = W1 at hb1 hN1 ⊢
            have hal : ∀ b ∈ [rb], b < wr.heap.size := fun b hb => by simp at hb; omega
            refine FlowPost.mk ⟨altC_below hb1 hal, ?_⟩
            refine flow_one 3 (by kernel_rfl) rfl ?_
            have hb2 : Below W1.heap.size W1 (W1.alloc (.cells #[.int .i64 x] 3)) := below_allocN
            have hX2 : Has (W1.alloc (.cells #[.int .i64 x] 3)) W1.heap.size 3 #[.int .i64 x] := Has.new _ _ _
            go_wp2
            generalize World.alloc W1 _ = W2 at hb2 hX2 ⊢
            have hb02 := Below_trans' hb1 hb1.size hb2
            have hce := cut_end hb02 hCr hX2 (hN1.below hb2 hN1.lt) hb1.size (Nat.le_refl _)
            refine FlowPost.mk ⟨altC_below hb02 hal, ?_⟩
            refine flow_pure [6, 7, 8] (by kernel_rfl) (altC_below hb02 hal) ?_
            simp only [pickOps, List.getElem?_cons_zero, List.getElem?_cons_succ]
            repeat (go_big_quiet_step (fail))
            refine wpQuiet_nil ?_
            refine flow_one 9 (by kernel_rfl) rfl ?_
            have hC2 := hCr.below hb02 hCr.lt
            have q0 := hC2.cell 0
            have q1 := hC2.cell 1
            have k0 := hC2.free 0
            have k1 := hC2.free 1
            have hfr := (Frame'.of_below (S := fun b => b = gc) hb02).trans (Frame'.setCell (p := ⟨gc, 0, none⟩) (Frame'.refl (fun b => b = gc) W2) (.inl rfl) (.slice (some ⟨W1.heap.size, 0, none⟩) 1 1))
            have hac := altC_frame (D := [rb]) hfr (fun b hb => by simp at hb; exact ⟨by omega, by omega⟩)
            go_wp2
            refine FlowPost.mk ⟨hac, ?_⟩
            refine flow_pure [10, 11, 12] (by kernel_rfl) hac ?_
            simp only [pickOps, List.getElem?_cons_zero, List.getElem?_cons_succ]
            repeat (go_big_quiet_step (fail))
            refine wpQuiet_nil ?_
            refine flow_rest [13] (by kernel_rfl) ?_
            simp only [pickOps, List.getElem?_cons_zero, List.getElem?_cons_succ]
            go_wp2
            go_meet
            exact ⟨_, _, hce⟩
        case rest =>
          obtain ⟨be, br, hC4, hX4, hN4, hbe, hbr, hF4⟩ := hcut
          clear r0 r1 r2 r3 r4 r5
          have hgl := hCr.lt
          have hrl := hRr.lt
          have hz4 := hF4.size
          obtain ⟨Av, cv, rfl⟩ := hTL.slice
          generalize hnt : (tiedS [] (bestS f (rangeI C)) x).length = nv at *
          have Hnt := hide hnt
          clear hnt
          have hR4 := hF4.has hRes (by omega)
          have q0 := hC4.cell 0
          have q1 := hC4.cell 1
          have q2 := hC4.cell 2
          have r0 := hR4.cell 0
          have r1 := hR4.cell 1
          have r2 := hR4.cell 2
          have f0 := hR4.free 0
          have f1 := hR4.free 1
          have f2 := hR4.free 2
          have hbw4 : Below w.heap.size w wc := Frame'.below hbwr hF4 (fun b e => by omega) hbwr.size
          have k5 := frame3 wc (w.heap.size + 1 + 1) (.slice (some ⟨be, 0, none⟩) 1 1) (.slice (some ⟨br, 0, none⟩) 1 1) (.slice Av nv cv)
          have kT : Frame' (fun b => b = rb ∨ wL.heap.size ≤ b ∨ b = gc ∨ b = w.heap.size + 1 + 1) wL _ := ((hF.mono fun b _ e => by rcases e with e | e; exact .inl e; exact .inr (.inl e)).trans (hF4.mono fun b _ e => .inr (.inr (.inl e)))).trans (k5.mono fun b _ e => .inr (.inr (.inr e)))
          have kR : Frame' (fun b => b = gc ∨ b = w.heap.size + 1 + 1) wr _ := (hF4.mono fun b _ e => .inl e).trans (k5.mono fun b _ e => .inr e)
          have hxI : ∀ z ∈ [x], I64 z := fun z hz => by rw [List.mem_singleton.1 hz]; unfold I64; omega
          have hwL : w.heap.size + 1 + 1 < wL.heap.size := hRL.lt
          have hlr := hF.size
          have H10 := hg100.out
          have hm0 : w.heap.size + 1 + 1 < gc := by omega
          go_wp2
          refine retOut2 rfl rfl rfl (put3 hR4) rfl rfl ⟨_, 1, 1, _, 1, 1, Av, nv, cv, by rw [hE0.out]; rfl, ?_, below3 hbw4 (by omega) _ _ _⟩
          rw [cmostR_ok hE0.out, Int.toNat_natCast, hout.out]
          refine ⟨ints_lit [x] (k5.has hX4 (by omega)) (by simp) hxI, ragg1 (k5.has hN4 (by omega)) rfl ?_, ?_⟩
          · refine ⟨Ah, C, ch, _, _, _, _, 1, 1, none, 0, 0, rfl, ?_, ⟨An, nn, cn, Ad, nd, cd, rfl, ?_, ?_⟩, ints_lit [x] (kT.has hX13 (by omega)) (by simp) hxI, RInts.nil_ _⟩
            · exact (hOr.frame kR (fun b hb e => by have := Hfp.out b hb; omega) (fun b hb e => by have := (hOr.lt hb).1; omega)).reads
            · exact hnL.frame kT (fun b hb e => by have := hfnd.out b (.inl hb); omega)
            · exact hdL.frame kT (fun b hb e => by have := hfnd.out b (.inr hb); omega)
          · exact (hTL.frame kT (fun b hb e => by have := hft.out b hb; omega) (fun b hb e => by have := hvt.out b hb; omega)).reads
  · have e1 : (mayS c k l 1 seats 1 lot != 0) = true := by simp [hE]
    have q0 := hR1.cell 0
    have q1 := hR1.cell 1
    have q2 := hR1.cell 2
    have f0 := hR1.free 0
    have f1 := hR1.free 1
    have f2 := hR1.free 2
    have HE := hide hE
    clear hE
    go_wp2
    refine retOut2 rfl rfl rfl (put3 hR1) rfl rfl ⟨none, 0, 0, none, 0, 0, none, 0, 0, rfl, ?_, below3 hb01 (by omega) _ _ _⟩
    rw [cmostR_bad HE.out]
    exact ROut.nil_ _
end Go.Proofs.YtkhclcdmehjfkaaGreat

namespace Go.Proofs.YtkhclcdmehjfkaaGreat
open Go.RowKit Go.Proofs Go.Shelf
attribute [local go_sem] cell?_alt cell?_more cell?_alloc_some cell?_setCell_far frozen?_alloc_some frozen?_more
theorem margin_at {m : M} (hr : rightS m 10 = true) {X Y : Nat} (hX : X < 10) (hY : Y < 10) : marginS m X Y = m X Y - m Y X := by
  unfold marginS
  rw [if_pos ⟨inR_iff.2 (by omega), inR_iff.2 (by omega), hr⟩]
  simp
set_option maxRecDepth 100000 in
set_option maxHeartbeats 1000000 in
theorem halves_any (D : Array Value) (m : M) (hD : Mat D m) (C X bp : Nat) (v1 v2 : Value) (w : World) (hP : Has w bp 28 #[.int .i64 C, v1, v2]) (hX : X < C) (hC : C ≤ 10) (hr : rightS m 10 = true) :
    Calls Tryz.prog 84 #[.agg D, .int .i64 X, .pointer (some ⟨bp, 0, none⟩)] w fun e w' => e = .returned (.int .i64 (copP m X C)) ∧ Below w.heap.size w w' := by
  have hs := hD.size
  have hM0 : Has (w.alloc (.cells D 24)) w.heap.size 24 D := Has.new _ _ _
  have hb0 : Below w.heap.size w (w.alloc (.cells D 24)) := below_allocN
  have hP0 := hP.below hb0 hP.lt
  go_enter Tryz.func84, Tryz.ntmps84
  go_upto_region 1 with fail
  generalize World.alloc w _ = w0 at hM0 hb0 hP0 ⊢
  have p0 := hP0.cell 0
  go_wp2
  clear p0
  go_loopw [5, 10] (fun n i wr => ∃ Y : Nat, Y ≤ C ∧ i = .int .i64 Y ∧ n = .int .i64 (copP m X Y) ∧ Below w0.heap.size w0 wr) (fun _ i _ => C - (intOf i).toNat)
  case atStart => exact ⟨0, Nat.zero_le _, rfl, rfl, Below.refl _ _⟩
  case round =>
    obtain ⟨Y, hY, rfl, rfl, hb⟩ := hrel
    by_cases hYC : Y < C
    · have hMr := hM0.below hb hM0.lt
      have hmg := hide (margin_at hr (X := X) (Y := Y) (by omega) (by omega))
      have hcs := hide (copP_succ m X Y)
      have hcb := copP_bd m X Y
      have hmc := margin_any D m hD X Y wr
      rw [hmg.out] at hmc
      generalize copP m X Y = n at *
      go_wp2_with (refine ldMat rfl rfl rfl hMr hs ?_)
      refine hmc.mono ?_
      rintro e w2 ⟨rfl, hb2⟩
      clear hmc
      by_cases h1 : m Y X < m X Y
      · have hn : Hid (copP m X (Y + 1) = n + 2) := by unfold Hid; rw [hcs.out, if_pos h1]
        have d1 : 0 < m X Y - m Y X := by omega
        generalize m X Y - m Y X = v at d1 ⊢
        clear h1
        go_wp2
        go_roundw
        case rel => exact ⟨Y + 1, by omega, by go_num, by rw [hn.out], Below_trans' hb hb.size hb2⟩
        case measure => simp [intOf] <;> omega
      · by_cases h2 : m X Y = m Y X ∧ X ≠ Y
        · have hn : Hid (copP m X (Y + 1) = n + 1) := by unfold Hid; rw [hcs.out, if_neg h1, if_pos h2]
          have d1 : ¬ 0 < m X Y - m Y X := by omega
          have d2 : (m X Y - m Y X == 0) = true := by simp; omega
          have d3 : ((X : Int) != (Y : Int)) = true := by simp; omega
          generalize m X Y - m Y X = v at d1 d2 ⊢
          clear h1 h2
          go_wp2
          go_roundw
          case rel => exact ⟨Y + 1, by omega, by go_num, by rw [hn.out], Below_trans' hb hb.size hb2⟩
          case measure => simp [intOf] <;> omega
        · have hn : Hid (copP m X (Y + 1) = n) := by unfold Hid; rw [hcs.out, if_neg h1, if_neg h2]; omega
          have d1 : ¬ 0 < m X Y - m Y X := by omega
          by_cases h3 : m X Y = m Y X
          · have d2 : (m X Y - m Y X == 0) = true := by simp; omega
            have d3 : ((X : Int) != (Y : Int)) = false := by simp; omega
            generalize m X Y - m Y X = v at d1 d2 ⊢
            clear h1 h2 h3
            go_wp2
            go_roundw
            case rel => exact ⟨Y + 1, by omega, by go_num, by rw [hn.out], Below_trans' hb hb.size hb2⟩
            case measure => simp [intOf] <;> omega
          · have d2 : (m X Y - m Y X == 0) = false := by simp; omega
            generalize m X Y - m Y X = v at d1 d2 ⊢
            clear h1 h2 h3
            go_wp2
            go_roundw
            case rel => exact ⟨Y + 1, by omega, by go_num, by rw [hn.out], Below_trans' hb hb.size hb2⟩
            case measure => simp [intOf] <;> omega
    · obtain rfl : C = Y := by omega
      generalize hn : copP m X C = n at *
      have Hn := hide hn
      clear hn
      go_wp2
      go_ret
      exact ⟨ret_i Hn.out.symm, Below_trans' hb0 hb0.size hb⟩
set_option maxRecDepth 100000 in
set_option maxHeartbeats 1000000 in
theorem worst_any (D : Array Value) (m : M) (hD : Mat D m) (C X bp : Nat) (v1 v2 : Value) (w : World) (hP : Has w bp 28 #[.int .i64 C, v1, v2]) (hX : X < C) (hC : C ≤ 10) (hr : rightS m 10 = true) :
    Calls Tryz.prog 90 #[.agg D, .int .i64 X, .pointer (some ⟨bp, 0, none⟩)] w fun e w' => e = .returned (.int .i64 (worP m X C)) ∧ Below w.heap.size w w' := by
  have hs := hD.size
  have hM0 : Has (w.alloc (.cells D 24)) w.heap.size 24 D := Has.new _ _ _
  have hb0 : Below w.heap.size w (w.alloc (.cells D 24)) := below_allocN
  have hP0 := hP.below hb0 hP.lt
  go_enter Tryz.func90, Tryz.ntmps90
  go_upto_region 1 with fail
  generalize World.alloc w _ = w0 at hM0 hb0 hP0 ⊢
  have p0 := hP0.cell 0
  go_wp2
  clear p0
  go_loopw [5, 9] (fun n i wr => ∃ Y : Nat, Y ≤ C ∧ i = .int .i64 Y ∧ n = .int .i64 (worP m X Y) ∧ Below w0.heap.size w0 wr) (fun _ i _ => C - (intOf i).toNat)
  case atStart => exact ⟨0, Nat.zero_le _, rfl, rfl, Below.refl _ _⟩
  case round =>
    obtain ⟨Y, hY, rfl, rfl, hb⟩ := hrel
    by_cases hYC : Y < C
    · have hMr := hM0.below hb hM0.lt
      have hmg := hide (margin_at hr (X := X) (Y := Y) (by omega) (by omega))
      have hcs := hide (worP_succ m X Y)
      have hmc := margin_any D m hD X Y wr
      rw [hmg.out] at hmc
      generalize worP m X Y = n at *
      generalize m X Y - m Y X = v at *
      go_wp2_with (first | (refine ldMat rfl rfl rfl hMr hs ?_) | (go_at_call 85; refine hmc.mono ?_; rintro e w2 ⟨rfl, hb2⟩))
      go_roundw
      case rel => exact ⟨Y + 1, by omega, by go_num, by rw [hcs.out], Below_trans' hb hb.size hb2⟩
      case measure => simp [intOf] <;> omega
    · obtain rfl : C = Y := by omega
      generalize hn : worP m X C = n at *
      have Hn := hide hn
      clear hn
      go_wp2
      go_ret
      exact ⟨ret_i Hn.out.symm, Below_trans' hb0 hb0.size hb⟩
theorem wholeM_any (a : Int) (w : World) (ha : 0 ≤ a) (hab : a ≤ 4294967295) :
    Calls Tryz.prog 91 #[.int .i64 (-a)] w (QPost w (wholeS a)) := by
  have e1 : - -a = a := by omega
  go_enter Tryz.func91, Tryz.ntmps91
  have hb0 : Below w.heap.size w (w.alloc (.cells #[.bool false, .slice none 0 0, .slice none 0 0] 51)) := (Below.refl _ _).alloc (Nat.le_refl _) _
  have hz0 : w.heap.size < (w.alloc (.cells #[.bool false, .slice none 0 0, .slice none 0 0] 51)).heap.size := by simp
  have hH0 := Has.new w 51 #[.bool false, .slice none 0 0, .slice none 0 0]
  go_upto_region 1 with fail
  generalize World.alloc w _ = W0 at hb0 hH0 hz0 ⊢
  go_wp2_with fail
  refine (pwhole_any a W0 ha hab).mono ?_
  rintro e w3 ⟨A3, n3, c3, A4, n4, c4, rfl, h3, h4, hb3, hf⟩
  have hb03 := Below_trans' hb0 hb0.size hb3
  have hf' := hide hf
  clear hf
  have hH3 := hH0.below hb3 hH0.lt
  have q1 := hH3.cell 0
  have q2 := hH3.cell 1
  have q3 := hH3.cell 2
  have p1 := hH3.free 0
  have p2 := hH3.free 1
  have p3 := hH3.free 2
  go_wp2
  have k := frame3 w3 w.heap.size (.bool false) (.slice A3 n3 c3) (.slice A4 n4 c4)
  have g3 : ∀ b, fpS A3 n3 b ∨ fpS A4 n4 b → w.heap.size < b := fun b hb => Nat.lt_of_lt_of_le hz0 (hf'.out b hb)
  refine retRat rfl rfl (put3 hH3) rfl rfl ⟨A3, n3, c3, A4, n4, c4, rfl, h3.frame k fun b hb e => ?_, h4.frame k fun b hb e => ?_, below3 hb03 (Nat.le_refl _) _ _ _, fun b hb => Nat.le_of_lt (g3 b hb)⟩
  · have := g3 b (.inl hb); omega
  · have := g3 b (.inr hb); omega
theorem halfT_any (a : Nat) (w : World) (ha : a ≤ 4294967295) :
    Calls Tryz.prog 87 #[.int .i64 a] w (QPost w (halfS a)) := by
  go_enter Tryz.func87, Tryz.ntmps87
  have hb0 : Below w.heap.size w (w.alloc (.cells #[.bool false, .slice none 0 0, .slice none 0 0] 51)) := (Below.refl _ _).alloc (Nat.le_refl _) _
  have hz0 : w.heap.size < (w.alloc (.cells #[.bool false, .slice none 0 0, .slice none 0 0] 51)).heap.size := by simp
  have hH0 := Has.new w 51 #[.bool false, .slice none 0 0, .slice none 0 0]
  go_upto_region 1 with fail
  generalize World.alloc w _ = W0 at hb0 hH0 hz0 ⊢
  have hof := pofd_any a 2 W0 ha (by omega) (by omega)
  go_wp2_with fail
  refine hof.mono ?_
  rintro e w3 ⟨A3, n3, c3, A4, n4, c4, rfl, h3, h4, hb3, hf⟩
  clear hof
  have hb03 := Below_trans' hb0 hb0.size hb3
  have hf' := hide hf
  clear hf
  have hb34 : Below w3.heap.size w3 (w3.alloc (.cells #[.bool false, .slice A3 n3 c3, .slice A4 n4 c4] 51)) := below_allocN
  have hG := Has.new w3 51 #[.bool false, .slice A3 n3 c3, .slice A4 n4 c4]
  go_upto_region 2 with fail
  generalize World.alloc w3 _ = w4 at hb34 hG ⊢
  have hb04 := Below_trans' hb3 hb3.size hb34
  have hH4 := hH0.below hb04 hH0.lt
  have h3' := h3.below hb34
  have h4' := h4.below hb34
  have g0 := hG.cell 0
  have g1 := hG.cell 1
  have g2 := hG.cell 2
  have q1 := hH4.cell 0
  have q2 := hH4.cell 1
  have q3 := hH4.cell 2
  have p1 := hH4.free 0
  have p2 := hH4.free 1
  have p3 := hH4.free 2
  go_wp2
  have k := frame3 w4 w.heap.size (.bool false) (.slice A3 n3 c3) (.slice A4 n4 c4)
  have g3 : ∀ b, fpS A3 n3 b ∨ fpS A4 n4 b → w.heap.size < b := fun b hb => Nat.lt_of_lt_of_le hz0 (hf'.out b hb)
  refine retRat rfl rfl (put3 hH4) rfl rfl ⟨A3, n3, c3, A4, n4, c4, rfl, h3'.frame k fun b hb e => ?_, h4'.frame k fun b hb e => ?_, below3 (Below_trans' hb0 hb0.size hb04) (Nat.le_refl _) _ _ _, fun b hb => Nat.le_of_lt (g3 b hb)⟩
  · have := g3 b (.inl hb); omega
  · have := g3 b (.inr hb); omega
set_option maxRecDepth 100000 in
set_option maxHeartbeats 1000000 in
theorem copeland_any (c k : Int) (A : Option Addr) (n cp : Nat) (l : List Row) (seats : Int) (At : Option Addr) (nt ct : Nat) (lot : List Int) (w : World) (h : RRows w A n cp l) (h' : RInts w At nt ct lot) (hn : nt ≤ 1000) :
    Calls Tryz.prog 41 #[.agg #[.int .i64 c, .int .u8 k, .slice A n cp], .int .i64 seats, .slice At nt ct] w (OutPost w (copR c k l seats lot) (mayS c k l 1 seats 1 lot)) := by
  have hP0 : Has ((w.alloc (.cells #[.int .i64 c, .int .u8 k, .slice A n cp] 28)).alloc (.cells #[.slice none 0 0, .slice none 0 0, .slice none 0 0] 38)) w.heap.size 28 #[.int .i64 c, .int .u8 k, .slice A n cp] := (Has.new _ _ _).alloc _
  have hR0 : Has ((w.alloc (.cells #[.int .i64 c, .int .u8 k, .slice A n cp] 28)).alloc (.cells #[.slice none 0 0, .slice none 0 0, .slice none 0 0] 38)) (w.heap.size + 1) 38 #[.slice none 0 0, .slice none 0 0, .slice none 0 0] := Has.new2 _ _ _ _
  have hb0 : Below w.heap.size w ((w.alloc (.cells #[.int .i64 c, .int .u8 k, .slice A n cp] 28)).alloc (.cells #[.slice none 0 0, .slice none 0 0, .slice none 0 0] 38)) := ((Below.refl _ _).alloc (Nat.le_refl _) _).alloc (by simp) _
  go_enter Tryz.func41, Tryz.ntmps41
  go_upto_region 1 with fail
  generalize World.alloc (World.alloc w _) _ = W0 at hP0 hR0 hb0 ⊢
  have hcc := ccount_any c k A n cp l seats At nt ct lot 84 87 (enters_of Tryz.func84 (by kernel_rfl) rfl) (enters_of Tryz.func87 (by kernel_rfl) rfl) #[.pointer (some ⟨w.heap.size, 0, none⟩)] #[] (copF (ofR c k l) c.toNat) halfS W0 (h.below hb0) (h'.below hb0) hn
    (fun hE D W hD hW x hx0 hx1 => by
      obtain ⟨hc0, hk0, _, _, _, _⟩ := may_zero hE
      subst hk0
      have hcs := check_ok hc0
      obtain ⟨C, rfl⟩ : ∃ C : Nat, c = (C : Int) := ⟨c.toNat, by omega⟩
      obtain ⟨X, rfl⟩ : ∃ X : Nat, x = X := ⟨x.toNat, by omega⟩
      exact halves_any D _ hD C X w.heap.size _ _ W (hP0.below hW hP0.lt) (by omega) (rank_ok hc0).c10 (ofR_right hc0 (by have := (rank_ok hc0).c10; omega) (Int.le_refl _)))
    (fun hE W hW y hy0 hy1 => by
      obtain ⟨hc0, hk0, _, _, _, _⟩ := may_zero hE
      subst hk0
      have hcs := check_ok hc0
      obtain ⟨C, rfl⟩ : ∃ C : Nat, c = (C : Int) := ⟨c.toNat, by omega⟩
      have hC10 := (rank_ok hc0).c10
      obtain ⟨Y, rfl⟩ : ∃ Y : Nat, y = Y := ⟨y.toNat, by omega⟩
      have hb := copP_bd (ofR C 1 l) Y C; obtain ⟨a, ha⟩ : ∃ a : Nat, copP (ofR C 1 l) Y C = a := ⟨(copP (ofR C 1 l) Y C).toNat, by omega⟩; have := halfT_any a W (by omega); unfold copF; rw [Int.toNat_natCast, Int.toNat_natCast, ha]; exact this)
  have p0 := hP0.cell 0
  have p1 := hP0.cell 1
  have p2 := hP0.cell 2
  go_wp2_with fail
  refine hcc.mono ?_
  rintro e w1 ⟨Ae, ne, ce, Ar, nr, cr, Av, nv, cv, rfl, hO, hb1⟩
  clear hcc p0 p1 p2
  have hb01 := Below_trans' hb0 hb0.size hb1
  have hR1 := hR0.below hb1 hR0.lt
  have q0 := hR1.cell 0
  have q1 := hR1.cell 1
  have q2 := hR1.cell 2
  have f0 := hR1.free 0
  have f1 := hR1.free 1
  have f2 := hR1.free 2
  have hF := frame3 w1 (w.heap.size + 1) (.slice Ae ne ce) (.slice Ar nr cr) (.slice Av nv cv)
  have hO2 := hO.far hR1 (fun b hb hne => hF.block b hb hne)
  go_wp2
  exact retOut2 rfl rfl rfl (put3 hR1) rfl rfl ⟨Ae, ne, ce, Ar, nr, cr, Av, nv, cv, rfl, hO2, below3 hb01 (by omega) _ _ _⟩
set_option maxRecDepth 100000 in
set_option maxHeartbeats 1000000 in
theorem minimax_any (c k : Int) (A : Option Addr) (n cp : Nat) (l : List Row) (seats : Int) (At : Option Addr) (nt ct : Nat) (lot : List Int) (w : World) (h : RRows w A n cp l) (h' : RInts w At nt ct lot) (hn : nt ≤ 1000) :
    Calls Tryz.prog 43 #[.agg #[.int .i64 c, .int .u8 k, .slice A n cp], .int .i64 seats, .slice At nt ct] w (OutPost w (minR c k l seats lot) (mayS c k l 1 seats 1 lot)) := by
  have hP0 : Has ((w.alloc (.cells #[.int .i64 c, .int .u8 k, .slice A n cp] 28)).alloc (.cells #[.slice none 0 0, .slice none 0 0, .slice none 0 0] 38)) w.heap.size 28 #[.int .i64 c, .int .u8 k, .slice A n cp] := (Has.new _ _ _).alloc _
  have hR0 : Has ((w.alloc (.cells #[.int .i64 c, .int .u8 k, .slice A n cp] 28)).alloc (.cells #[.slice none 0 0, .slice none 0 0, .slice none 0 0] 38)) (w.heap.size + 1) 38 #[.slice none 0 0, .slice none 0 0, .slice none 0 0] := Has.new2 _ _ _ _
  have hb0 : Below w.heap.size w ((w.alloc (.cells #[.int .i64 c, .int .u8 k, .slice A n cp] 28)).alloc (.cells #[.slice none 0 0, .slice none 0 0, .slice none 0 0] 38)) := ((Below.refl _ _).alloc (Nat.le_refl _) _).alloc (by simp) _
  go_enter Tryz.func43, Tryz.ntmps43
  go_upto_region 1 with fail
  generalize World.alloc (World.alloc w _) _ = W0 at hP0 hR0 hb0 ⊢
  have hcc := ccount_any c k A n cp l seats At nt ct lot 90 91 (enters_of Tryz.func90 (by kernel_rfl) rfl) (enters_of Tryz.func91 (by kernel_rfl) rfl) #[.pointer (some ⟨w.heap.size, 0, none⟩)] #[] (worF (ofR c k l) c.toNat) (fun n => wholeS (-n)) W0 (h.below hb0) (h'.below hb0) hn
    (fun hE D W hD hW x hx0 hx1 => by
      obtain ⟨hc0, hk0, _, _, _, _⟩ := may_zero hE
      subst hk0
      have hcs := check_ok hc0
      obtain ⟨C, rfl⟩ : ∃ C : Nat, c = (C : Int) := ⟨c.toNat, by omega⟩
      obtain ⟨X, rfl⟩ : ∃ X : Nat, x = X := ⟨x.toNat, by omega⟩
      exact worst_any D _ hD C X w.heap.size _ _ W (hP0.below hW hP0.lt) (by omega) (rank_ok hc0).c10 (ofR_right hc0 (by have := (rank_ok hc0).c10; omega) (Int.le_refl _)))
    (fun hE W hW y hy0 hy1 => by
      obtain ⟨hc0, hk0, _, _, _, _⟩ := may_zero hE
      subst hk0
      have hcs := check_ok hc0
      obtain ⟨C, rfl⟩ : ∃ C : Nat, c = (C : Int) := ⟨c.toNat, by omega⟩
      have hC10 := (rank_ok hc0).c10
      obtain ⟨Y, rfl⟩ : ∃ Y : Nat, y = Y := ⟨y.toNat, by omega⟩
      have hb := worP_bd (right_bd (ofR_right hc0 (Int.le_refl _) (by omega))) (x := Y) (by omega) (Y := C) (by omega); have := wholeM_any (-(worP (ofR C 1 l) Y C)) W (by omega) (by omega); unfold worF; rw [Int.toNat_natCast, Int.toNat_natCast]; rw [Int.neg_neg] at this; exact this)
  have p0 := hP0.cell 0
  have p1 := hP0.cell 1
  have p2 := hP0.cell 2
  go_wp2_with fail
  refine hcc.mono ?_
  rintro e w1 ⟨Ae, ne, ce, Ar, nr, cr, Av, nv, cv, rfl, hO, hb1⟩
  clear hcc p0 p1 p2
  have hb01 := Below_trans' hb0 hb0.size hb1
  have hR1 := hR0.below hb1 hR0.lt
  have q0 := hR1.cell 0
  have q1 := hR1.cell 1
  have q2 := hR1.cell 2
  have f0 := hR1.free 0
  have f1 := hR1.free 1
  have f2 := hR1.free 2
  have hF := frame3 w1 (w.heap.size + 1) (.slice Ae ne ce) (.slice Ar nr cr) (.slice Av nv cv)
  have hO2 := hO.far hR1 (fun b hb hne => hF.block b hb hne)
  go_wp2
  exact retOut2 rfl rfl rfl (put3 hR1) rfl rfl ⟨Ae, ne, ce, Ar, nr, cr, Av, nv, cv, rfl, hO2, below3 hb01 (by omega) _ _ _⟩
end Go.Proofs.YtkhclcdmehjfkaaGreat
