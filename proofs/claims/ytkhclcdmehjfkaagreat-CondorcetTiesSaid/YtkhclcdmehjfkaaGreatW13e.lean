/-
  Who comes first in the lot; the layer paths: Count.
-/
import Derived.Test.YtkhclcdmehjfkaaGreatW13a
import Derived.Test.YtkhclcdmehjfkaaGreatW15e
import Derived.Test.YtkhclcdmehjfkaaGreatW11g
namespace Go.Proofs.YtkhclcdmehjfkaaGreat
open Go.RowKit Go.Proofs Go.Shelf
attribute [local go_sem] cell?_more cell?_alloc_some cell?_setCell_far frozen?_alloc_some frozen?_more
/-- The outcome of the method, errors included. -/
def pathR (c k : Int) (l : List Row) (seats : Int) (lot : List Int) : Outc := if mayS c k l 1 seats 1 lot = 0 then pathO (strV (ofR c k l) c) c.toNat lot else ([], [], [])
theorem pathR_ok {c k : Int} {l : List Row} {seats : Int} {lot : List Int} (h : mayS c k l 1 seats 1 lot = 0) : pathR c k l seats lot = pathO (strV (ofR c k l) c) c.toNat lot := if_pos h
theorem pathR_bad {c k : Int} {l : List Row} {seats : Int} {lot : List Int} (h : mayS c k l 1 seats 1 lot ≠ 0) : pathR c k l seats lot = ([], [], []) := if_neg h
/-- The numbers as they are being counted. -/
def hadT (S : M) (C X Y : Nat) : List Int := (List.range C).map fun i : Nat => if i < X then (hadP S i C : Int) else if i = X then (hadP S i Y : Int) else 0
theorem length_hadT (S : M) (C X Y : Nat) : (hadT S C X Y).length = C := by simp [hadT]
theorem get_hadT (S : M) {C X Y i : Nat} (h : i < C) : (hadT S C X Y)[i]? = some (if i < X then (hadP S i C : Int) else if i = X then (hadP S i Y : Int) else 0) := by
  unfold hadT; rw [List.getElem?_map, List.getElem?_range h]; rfl
theorem hadT_zero (S : M) (C : Nat) : hadT S C 0 0 = List.replicate C 0 := by
  refine List.ext_getElem? fun i => ?_
  by_cases hi : i < C
  · rw [get_hadT S hi, if_neg (Nat.not_lt_zero _), List.getElem?_replicate, if_pos hi]
    split <;> rfl
  · rw [List.getElem?_eq_none (by rw [length_hadT]; omega), List.getElem?_eq_none (by simp; omega)]
theorem hadT_row {S : M} {C X : Nat} : hadT S C X C = hadT S C (X + 1) 0 := by
  refine List.ext_getElem? fun i => ?_
  by_cases hi : i < C
  · rw [get_hadT S hi, get_hadT S hi]
    by_cases h1 : i < X
    · rw [if_pos h1, if_pos (by omega)]
    · rw [if_neg h1]
      by_cases h2 : i = X
      · rw [if_pos h2, if_pos (by omega)]
      · rw [if_neg h2, if_neg (by omega)]
        split
        · rename_i h3; simp [hadP]
        · rfl
  · rw [List.getElem?_eq_none (by rw [length_hadT]; omega), List.getElem?_eq_none (by rw [length_hadT]; omega)]
theorem hadT_yes {S : M} {C X Y : Nat} (hX : X < C) (h : X ≠ Y ∧ S Y X ≤ S X Y) : hadT S C X (Y + 1) = (hadT S C X Y).set X ((hadP S X Y : Int) + 1) := by
  refine List.ext_getElem? fun i => ?_
  by_cases hi : i < C
  · rw [get_hadT S hi, List.getElem?_set]
    by_cases e : X = i
    · subst e
      rw [if_neg (by omega), if_pos rfl, if_pos rfl, if_pos (by rw [length_hadT]; exact hX), hadP_succ, if_pos h]
      congr 1
    · rw [if_neg e, get_hadT S hi, if_neg (Ne.symm e), if_neg (Ne.symm e)]
  · rw [List.getElem?_eq_none (by rw [length_hadT]; omega), List.getElem?_eq_none (by rw [List.length_set, length_hadT]; omega)]
theorem hadT_no {S : M} {C X Y : Nat} (h : ¬ (X ≠ Y ∧ S Y X ≤ S X Y)) : hadT S C X (Y + 1) = hadT S C X Y := by
  refine List.ext_getElem? fun i => ?_
  by_cases hi : i < C
  · rw [get_hadT S hi, get_hadT S hi]
    by_cases h1 : i < X
    · rw [if_pos h1, if_pos h1]
    · rw [if_neg h1, if_neg h1]
      by_cases h2 : i = X
      · subst h2; rw [if_pos rfl, if_pos rfl, hadP_succ, if_neg h]; rfl
      · rw [if_neg h2, if_neg h2]
  · rw [List.getElem?_eq_none (by rw [length_hadT]; omega), List.getElem?_eq_none (by rw [length_hadT]; omega)]
theorem hadT_end {S : M} {C : Nat} : hadT S C C 0 = hadPL S C := by
  refine List.ext_getElem? fun i => ?_
  by_cases hi : i < C
  · rw [get_hadT S hi, get_hadPL S hi, if_pos hi]
  · rw [List.getElem?_eq_none (by rw [length_hadT]; omega), List.getElem?_eq_none (by rw [length_hadPL]; omega)]

set_option maxRecDepth 100000 in
theorem pfirst_any (g B : Nat) (el rn vt : Value) (Al : Option Addr) (nl cl : Nat) (lot : List Int) (fp : Nat → Prop) (ts : List Row) (A : Option Addr) (n c : Nat) (among : List Int) (w : World) (hg : Has w g 92 #[el, rn, vt, .slice Al nl cl]) (hB : B ≤ w.heap.size) (hO : OAgg ETie 101 2 fp w B vt ts)
    (hgf : ¬ fp g) (hgv : vt.ownBlock ≠ some g) (hL : RInts w Al nl cl lot) (hnl : nl ≤ 1000) (h : RInts w A n c among) (hn : n ≤ 1000) (h0 : 0 < n) (hs : among.Pairwise (· ≤ ·)) (hin : ∀ x ∈ among, x ∈ lot) (hts : ts.length ≤ 1000) :
    Calls Tryz.prog 63 #[.pointer (some ⟨g, 0, none⟩), .slice A n c] w (TellPost w g B el rn vt (.slice Al nl cl) fp ts among (frstS lot among)) := by
  have hbd := hide (fun y (hy : y ∈ among) => h.bd hy)
  have Hs := hide hs
  have Hin := hide hin
  have Hgf := hide hgf
  have Hgv := hide hgv
  clear hs hin hgf hgv
  go_enter Tryz.func63, Tryz.ntmps63
  go_wp2_with fail
  refine (cfirst_any g _ _ _ Al nl cl lot A n c among w hg hL h h0 hnl).mono ?_
  rintro e3 w3 ⟨m, rfl, ⟨hm1, hm2⟩, hb3⟩
  have hfind : frstS lot among = m := by
    unfold frstS
    rw [first_find hm1 (Hin.out m hm1) hm2]; rfl
  have hI : I64 m := hbd.out m hm1
  have ht := tell_any g B el rn vt (.slice Al nl cl) fp ts A n c among m w3 (hg.below hb3 hg.lt) (Nat.le_trans hB hb3.size) (hO.below hb3) Hgf.out Hgv.out (h.below hb3) hn Hs.out hI hts
  have Hf := hide hfind
  clear hm1 hm2 hfind hI
  go_wp2_with fail
  refine ht.mono ?_
  intro e4 w4 hp
  obtain ⟨he, hr⟩ := hp
  subst he
  go_wp2
  go_ret
  rw [Hf.out]
  exact TellPost.start hb3 ⟨rfl, hr⟩

theorem scount1_any (x : Int) (bl : Nat) (A : Option Addr) (n c : Nat) (had : List Int) (w : World) (h0 : 0 ≤ x) (h1 : x < n) (hc : w.cell? ⟨bl, 0, none⟩ = some (.slice A n c)) (h : RInts w A n c had) :
    Calls Tryz.prog 66 #[.int .i64 x, .pointer (some ⟨bl, 0, none⟩)] w fun e w' => e = .returned (.int .i64 (getI had x)) ∧ w = w' := by
  obtain ⟨X, rfl⟩ : ∃ X : Nat, x = X := ⟨x.toNat, by omega⟩
  obtain ⟨b, off, v, rfl, hk, _, hat, _⟩ := h.step (show X < n by omega)
  have hg := hide (getI_of hat.out)
  clear hat
  go_enter Tryz.func66, Tryz.ntmps66
  go_wp2
  go_ret
  exact ⟨ret_i (by rw [hg.out]), rfl⟩
theorem top_sub (S : M) (C : Nat) : (topS S C).Sublist (rangeI C) := List.filter_sublist
theorem hadPL_bd {S : M} {C : Nat} (hC : C ≤ 1000) : ∀ y ∈ hadPL S C, 0 ≤ y ∧ y ≤ 1000 := fun y hy => by
  obtain ⟨x, _, rfl⟩ := List.mem_map.1 hy
  have := (hadP_le S x C).1
  omega
theorem le_rangeI (t : Nat) : (rangeI t).Pairwise (· ≤ ·) := (lt_rangeI t).imp fun h => Int.le_of_lt h
set_option maxRecDepth 100000 in
set_option maxHeartbeats 4000000 in
theorem schulze_any (c k : Int) (A : Option Addr) (n cp : Nat) (l : List Row) (seats : Int) (At : Option Addr) (nt ct : Nat) (lot : List Int) (w : World) (h : RRows w A n cp l) (h' : RInts w At nt ct lot) (hn : nt ≤ 1000) :
    Calls Tryz.prog 19 #[.agg #[.int .i64 c, .int .u8 k, .slice A n cp], .int .i64 seats, .slice At nt ct] w (OutPost w (pathR c k l seats lot) (mayS c k l 1 seats 1 lot)) := by
  have hP0 : Has ((w.alloc (.cells #[.int .i64 c, .int .u8 k, .slice A n cp] 28)).alloc (.cells #[.slice none 0 0, .slice none 0 0, .slice none 0 0] 38)) w.heap.size 28 #[.int .i64 c, .int .u8 k, .slice A n cp] := (Has.new _ _ _).alloc _
  have hR0 : Has ((w.alloc (.cells #[.int .i64 c, .int .u8 k, .slice A n cp] 28)).alloc (.cells #[.slice none 0 0, .slice none 0 0, .slice none 0 0] 38)) (w.heap.size + 1) 38 #[.slice none 0 0, .slice none 0 0, .slice none 0 0] := Has.new2 _ _ _ _
  have hb0 : Below w.heap.size w ((w.alloc (.cells #[.int .i64 c, .int .u8 k, .slice A n cp] 28)).alloc (.cells #[.slice none 0 0, .slice none 0 0, .slice none 0 0] 38)) := ((Below.refl _ _).alloc (Nat.le_refl _) _).alloc (by simp) _
  go_enter Tryz.func19, Tryz.ntmps19
  go_upto_region 1 with fail
  generalize World.alloc (World.alloc w _) _ = W0 at hP0 hR0 hb0 ⊢
  have p0 := hP0.cell 0
  have p1 := hP0.cell 1
  have p2 := hP0.cell 2
  go_wp2_with fail
  refine (ccheck_any c k A n cp l 1 seats 1 At nt ct lot W0 (h.below hb0) (h'.below hb0) hn).mono ?_
  rintro e w1 ⟨rfl, hb1⟩
  have hb01 := Below_trans' hb0 hb0.size hb1
  have hP1 := hP0.below hb1 hP0.lt
  have hR1 := hR0.below hb1 hR0.lt
  clear p0 p1 p2 hP0 hR0
  by_cases hE : mayS c k l 1 seats 1 lot = 0
  · have e1 : (mayS c k l 1 seats 1 lot != 0) = false := by simp [hE]
    obtain ⟨hc0, hk0, hs1, hs2, hs3, hlot⟩ := may_zero hE
    subst hk0
    have hcs := check_ok hc0
    obtain ⟨C, rfl⟩ : ∃ C : Nat, c = (C : Int) := ⟨c.toNat, by omega⟩
    have hRk := hide (rank_ok hc0)
    have Hlot := hide hlot
    have hro := hide (pathR_ok hE)
    have hE0 := hide hE
    have hC10 : C ≤ 10 := (rank_ok hc0).c10
    have hC1 : 1 ≤ C := (rank_ok hc0).c1
    have hrt := hide (ofR_right (k := 1) hc0 (c' := (C : Int)) (Int.le_refl _) (by omega))
    have hse : strErr (ofR C 1 l) C = 0 := strErr_ok hrt.out
    have hst := strV_ok hrt.out
    have Hse := hide hse
    have Hst := hide hst
    have hpo := pof_any C 1 A n cp l w1 (h.below hb01)
    unfold POfPost at hpo
    clear hcs hE hc0 hlot hse hst
    have p0 := hP1.cell 0
    have p1 := hP1.cell 1
    have p2 := hP1.cell 2
    go_wp2_with fail
    refine hpo.mono ?_
    rintro e w2 ⟨D, rfl, hD, hb2⟩
    clear hpo p0 p1 p2
    have hDs := hD.size
    have hb02 := Below_trans' hb01 hb01.size hb2
    have hZ2 : Has (w2.alloc (.cells Tryz.zeroCells24 24)) w2.heap.size 24 Tryz.zeroCells24 := Has.new _ _ _
    have hM3 : Has ((w2.alloc (.cells Tryz.zeroCells24 24)).setRow w2.heap.size D) w2.heap.size 24 D := hZ2.setRow _
    have hb23 : Below w2.heap.size w2 ((w2.alloc (.cells Tryz.zeroCells24 24)).setRow w2.heap.size D) := below_setRow ((Below.refl _ _).alloc (Nat.le_refl _) _) (Nat.le_refl _) _
    go_upto_region 5 with (refine stMat rfl rfl rfl rfl hZ2 zeroMat.size hDs hD.one ?_)
    generalize World.setRow (World.alloc w2 _) _ _ = w3 at hM3 hb23 ⊢
    clear hZ2
    have hb03 := Below_trans' hb02 hb02.size hb23
    have hb13 := Below_trans' hb2 hb2.size hb23
    have hP3 := hP1.below hb13 hP1.lt
    have hR3 := hR1.below hb13 hR1.lt
    have p0 := hP3.cell 0
    go_wp2_with (refine ldMat rfl rfl rfl hM3 hDs ?_)
    refine (strengths_any D _ hD C w3).mono ?_
    rintro e w4 ⟨S, rfl, hS, hb4⟩
    clear p0
    rw [Hse.out]
    have hSs := hS.size
    have hb04 := Below_trans' hb03 hb03.size hb4
    have hZ4 : Has (w4.alloc (.cells Tryz.zeroCells24 24)) w4.heap.size 24 Tryz.zeroCells24 := Has.new _ _ _
    have hS5 : Has ((w4.alloc (.cells Tryz.zeroCells24 24)).setRow w4.heap.size S) w4.heap.size 24 S := hZ4.setRow _
    have hb45 : Below w4.heap.size w4 ((w4.alloc (.cells Tryz.zeroCells24 24)).setRow w4.heap.size S) := below_setRow ((Below.refl _ _).alloc (Nat.le_refl _) _) (Nat.le_refl _) _
    go_upto_region 6 with (refine stMat rfl rfl rfl rfl hZ4 zeroMat.size hSs hS.one ?_)
    generalize World.setRow (World.alloc w4 _) _ _ = w5 at hS5 hb45 ⊢
    clear hZ4
    have hb05 := Below_trans' hb04 hb04.size hb45
    have hb35 := Below_trans' hb4 hb4.size hb45
    have hP5 := hP3.below hb35 hP3.lt
    have hR5 := hR3.below hb35 hR3.lt
    generalize strV (ofR C 1 l) C = SV at *
    have hmk := run_make_row' (P := Tryz.prog) 25 3 (.int .i64 0) 8 Tryz.underlying25 info3 rfl .i64 .i64 C (by omega) (by omega)
    have hM6 := Own.made w5 w5.heap.size C (Nat.le_refl _) (by omega)
    have hb56 : Below w5.heap.size w5 (w5.alloc (.cells (madeCells #[.int .i64 0] C) 3)) := below_allocN
    have hz6 : Hid ((w5.alloc (.cells (madeCells #[.int .i64 0] C) 3)).heap.size = w5.heap.size + 1) := by unfold Hid; simp
    have p0 := hP5.cell 0
    go_upto_region 7 with fail
    generalize World.alloc w5 _ = w6 at hM6 hb56 hz6 ⊢
    have hG7 : Has (w6.alloc (.cells #[.slice (some ⟨w5.heap.size, 0, none⟩) C C] 25)) (w5.heap.size + 1) 25 #[.slice (some ⟨w5.heap.size, 0, none⟩) C C] := by
      rw [← hz6.out]; exact Has.new _ _ _
    have hb67 : Below w6.heap.size w6 (w6.alloc (.cells #[.slice (some ⟨w5.heap.size, 0, none⟩) C C] 25)) := below_allocN
    generalize World.alloc w6 _ = w7 at hG7 hb67 ⊢
    clear p0 hmk
    have hM7 := hM6.below hb67
    have hb57 := Below_trans' hb56 hb56.size hb67
    have hgr : w.heap.size + 1 < w5.heap.size := hR5.lt
    have hg7 : w5.heap.size + 1 < w7.heap.size := hG7.lt
    have hS7 := hS5.below hb57 hS5.lt
    have hR7 := hR5.below hb57 hR5.lt
    have hP7 := hP5.below hb57 hP5.lt
    have hb07 := Below_trans' hb05 hb05.size hb57
    have hgs : Hid (w4.heap.size < w5.heap.size) := hS5.lt
    have hb27 : Below w5.heap.size w7 w7 := Below.refl _ _
    generalize w5.heap.size = gh at hM7 hG7 hgr hg7 hgs hb27 ⊢
    clear hM6 hb56 hb67 hz6 hb01 hb02 hb03 hb04 hb05 hb13 hb23 hb35 hb45 hb4 hb2 hM3 hR1 hR3 hR5 hP1 hP3 hP5 hS5 hb57 hb1 hb0
    have q7 := hG7.cell 0
    go_wp2
    clear q7
    go_loopw [43] (fun i wr => ∃ X : Nat, X ≤ C ∧ i = .int .i64 X ∧ Own wr gh (.slice (some ⟨gh, 0, none⟩) C C) (hadT SV C X 0) ∧ Has wr (gh + 1) 25 #[.slice (some ⟨gh, 0, none⟩) C C] ∧ Below gh w7 wr) (fun i _ => C - (intOf i).toNat)
    case atStart => exact ⟨0, Nat.zero_le _, rfl, by rw [hadT_zero]; exact hM7, hG7, hb27⟩
    case round =>
      clear hM7 hG7 hb27
      obtain ⟨X, hX, rfl, hO, hG, hb⟩ := hrel
      obtain ⟨wo, rfl⟩ : ∃ wo : World, wo = wr := ⟨_, rfl⟩
      have q := hG.cell 0
      by_cases hXC : X < C
      · have hX10 : X < 10 := by omega
        have b1 : (X : Int) < 10 := by omega
        go_wp2
        clear q
        go_loopw [48] (fun i wr => ∃ Y : Nat, Y ≤ C ∧ i = .int .i64 Y ∧ Own wr gh (.slice (some ⟨gh, 0, none⟩) C C) (hadT SV C X Y) ∧ Has wr (gh + 1) 25 #[.slice (some ⟨gh, 0, none⟩) C C] ∧ Below gh w7 wr) (fun i _ => C - (intOf i).toNat)
        case atStart => exact ⟨0, Nat.zero_le _, rfl, hO, hG, hb⟩
        case round =>
          clear hO hG hb
          obtain ⟨Y, hY, rfl, hO, hG, hb⟩ := hrel
          have hSr := hS7.below hb hgs.out
          by_cases hYC : Y < C
          · have hY10 : Y < 10 := by omega
            have b2 : (Y : Int) < 10 := by omega
            have hgz : gh ≤ wr.heap.size := by have := hG.lt; omega
            by_cases hne : X = Y
            · have f13 : ((X : Int) != (Y : Int)) = false := by simp [hne]
              have hno := hide (hadT_no (S := SV) (C := C) (X := X) (Y := Y) (fun h => h.1 hne))
              clear hne
              go_upto_region 13 with fail
              refine wp_region_more (by kernel_rfl) (by kernel_rfl) ?_
              repeat (go_big_quiet_step (fail))
              refine wpQuiet_nil ?_
              rintro w2 ⟨qw2, hww2⟩
              have hbw2 := below_of_eq hww2
              clear hww2 qw2
              have hO2 := hO.below hbw2
              have hG2 := hG.below hbw2 hG.lt
              have hb2 := Below_trans' hb hgz hbw2
              go_wp2
              go_roundw
              case rel => exact ⟨Y + 1, by omega, by go_num, by rw [hno.out]; exact hO2, hG2, hb2⟩
              case measure => simp [intOf] <;> omega
            · have f13 : ((X : Int) != (Y : Int)) = true := by simp; omega
              have hyes := hide (fun (hle : SV Y X ≤ SV X Y) => hadT_yes (S := SV) (C := C) (X := X) (Y := Y) hXC ⟨hne, hle⟩)
              have hno := hide (fun (hle : ¬ SV Y X ≤ SV X Y) => hadT_no (S := SV) (C := C) (X := X) (Y := Y) (fun h => hle h.2))
              clear hne
              have hc1 := (hSr.cell (X * 10 + Y)).trans (hS.at_ X Y hX10 hY10)
              have hc2 := (hSr.cell (Y * 10 + X)).trans (hS.at_ Y X hY10 hX10)
              generalize SV X Y = v at hc1 hyes hno
              generalize SV Y X = u at hc2 hyes hno
              by_cases hle : u ≤ v
              · have d1 : decide (u ≤ v) = true := by simpa using hle
                have hset := hide (hyes.out hle)
                clear hyes hno
                go_upto_region 13 with fail
                refine wp_region_more (by kernel_rfl) (by kernel_rfl) ?_
                repeat (go_big_quiet_step (fail))
                refine wpQuiet_nil ?_
                rintro w2 ⟨qw2, hww2⟩
                have hbw2 := below_of_eq hww2
                clear hww2 qw2
                clear hc1 hc2
                have hO2 := hO.below hbw2
                have hG2 := hG.below hbw2 hG.lt
                have hb2 := Below_trans' hb hgz hbw2
                have hlen := length_hadT SV C X Y
                obtain ⟨x, hx, hcx, hfx⟩ := hO2.at hlen hXC
                obtain rfl : (hadP SV X Y : Int) = x := by
                  have e := hx.out; rw [get_hadT SV hXC, if_neg (by omega), if_pos rfl] at e; exact Option.some.inj e
                have q := hG2.cell 0
                have hpb := (hadP_le SV X Y).1
                have hO3 := hO2.set hlen X ((hadP SV X Y : Int) + 1)
                have hG3 := hG2.far (p := ⟨gh, X, none⟩) (by show gh + 1 ≠ gh; omega) (.int .i64 ((hadP SV X Y : Int) + 1))
                have hb3 := hb2.setCell (p := ⟨gh, X, none⟩) (Nat.le_refl _) (.int .i64 ((hadP SV X Y : Int) + 1))
                clear hx hlen hle
                go_wp2
                go_roundw
                case rel => exact ⟨Y + 1, by omega, by go_num, by rw [hset.out]; exact hO3, hG3, hb3⟩
                case measure => simp [intOf] <;> omega
              · have d1 : decide (u ≤ v) = false := by simpa using hle
                have hset := hide (hno.out hle)
                clear hyes hno
                go_upto_region 13 with fail
                refine wp_region_more (by kernel_rfl) (by kernel_rfl) ?_
                repeat (go_big_quiet_step (fail))
                refine wpQuiet_nil ?_
                rintro w2 ⟨qw2, hww2⟩
                have hbw2 := below_of_eq hww2
                clear hww2 qw2
                clear hc1 hc2
                have hO2 := hO.below hbw2
                have hG2 := hG.below hbw2 hG.lt
                have hb2 := Below_trans' hb hgz hbw2
                go_wp2
                go_roundw
                case rel => exact ⟨Y + 1, by omega, by go_num, by rw [hset.out]; exact hO2, hG2, hb2⟩
                case measure => simp [intOf] <;> omega
          · obtain rfl : C = Y := by omega
            have hrow := hide (hadT_row (S := SV) (C := C) (X := X))
            go_wp2
            go_roundw
            case rel => exact ⟨X + 1, by omega, by go_num, by rw [← hrow.out]; exact hO, hG, hb⟩
            case measure => simp [intOf] <;> omega
      · obtain rfl : C = X := by omega
        rw [hadT_end] at hO
        obtain ⟨wE, rfl⟩ : ∃ wE : World, wE = wo := ⟨_, rfl⟩
        have hgzE : gh + 1 < wE.heap.size := hG.lt
        have hbE : Below w.heap.size w wE := hb07.trans (hb.mono (by omega))
        have hPE := hP7.below hb (show w.heap.size < gh by omega)
        have hRE := hR7.below hb hgr
        have hRI := hO.ints (fun y hy => by have := hadPL_bd (S := SV) (C := C) (by omega) y hy; omega)
        have hbt0 := hide (best_top Hst.out (show 0 < C by omega) hC10)
        have eg : ∀ args w, (callFunc 66 args).run Tryz.prog w = .ok (.enter 66 args) w := enters_of Tryz.func66 (by kernel_rfl) rfl
        clear hP7 hR7 hS7 hb07 hgs hb hX hXC hO
        go_wp2_with fail
        refine (cof_any At nt ct lot wE (h'.below hbE) hn).mono ?_
        rintro e w8 ⟨g, A2, n2, c2, rfl, hC8, hO8, hgE, hog, hb8⟩
        clear q
        have p0 := (hPE.below hb8 hPE.lt).cell 0
        go_wp2_with fail
        refine (pall_any C w8 (by omega)).mono ?_
        rintro e w9 ⟨vl, rfl, hO9, hb9⟩
        clear p0
        obtain ⟨Al, cl, rfl⟩ := hO9.slice
        rw [length_rangeI] at hO9 ⊢
        have hI9 := hO9.ints (fun y hy => by have := mem_rangeI.1 hy; omega)
        have hb89 := Below_trans' hb8 hb8.size hb9
        have hbt := best_at 66 eg (getI (hadPL SV C)) #[.pointer (some ⟨gh + 1, 0, none⟩)] Al C cl (rangeI C) w9 hI9 (by omega) (fun W hbW x hx => by
          have rx := mem_rangeI.1 hx
          have hbEW := Below_trans' hb89 hb89.size hbW
          exact (scount1_any x (gh + 1) (some ⟨gh, 0, none⟩) C C (hadPL SV C) W rx.1 rx.2 ((hG.below hbEW hG.lt).cell 0) (hRI.below hbEW)).mono fun e w' ⟨he, hw⟩ => ⟨he, by rw [← hw]; exact Below.refl _ _⟩)
        rw [hbt0.out] at hbt
        go_wp2_with fail
        refine hbt.mono ?_
        rintro e w10 ⟨vb, rfl, hO10, hb10⟩
        clear hbt
        obtain ⟨Ab, cb, rfl⟩ := hO10.slice
        have htm : ∀ y ∈ topS SV C, 0 ≤ y ∧ y < C := fun y hy => mem_rangeI.1 ((top_sub SV C).subset hy)
        have hI10 := hO10.ints (fun y hy => by have := htm y hy; omega)
        have hbE10 := Below_trans' hb89 hb89.size hb10
        have hb810 := Below_trans' hb9 hb9.size hb10
        have hC10' := hC8.below hb810 hC8.lt
        have hL10 := (hO8.ints (fun x hx => h'.bd hx)).below hb810
        have hn2 : n2 ≤ 1000 := by have h1 := hL10.len; have h2 := h'.len; omega
        have htl : (topS SV C).length ≤ C := by have := (top_sub SV C).length_le; rw [length_rangeI] at this; exact this
        have htp := List.length_pos_iff.2 (topS_ne Hst.out (show 0 < C by omega) hC10)
        have hfi := pfirst_any g w10.heap.size (.slice none 0 0) (.slice none 0 0) (.slice none 0 0) A2 n2 c2 lot (fun _ => False) [] Ab _ cb (topS SV C) w10 hC10' (Nat.le_refl _) (OAgg.nil_ _ _ _ _ _) (fun h => h) (by simp [Value.ownBlock]) hL10 hn2 hI10 (by omega) htp ((le_rangeI C).sublist (top_sub SV C)) (fun x hx => lot_in Hlot.out ((top_sub SV C).subset hx)) (by simp)
        have hxm : frstS lot (topS SV C) ∈ topS SV C := by
          obtain ⟨a, ha⟩ := List.exists_mem_of_ne_nil _ (topS_ne Hst.out (show 0 < C by omega) hC10)
          unfold frstS
          cases hf : lot.find? (inL (topS SV C)) with
          | none => exact absurd (inL_iff.2 ha) (by have := List.find?_eq_none.1 hf a (lot_in Hlot.out ((top_sub SV C).subset ha)); simpa using this)
          | some y => exact inL_iff.1 (by simpa using List.find?_some hf)
        have hxr := htm _ hxm
        have hpath := hide (show pathO SV C lot = ([frstS lot (topS SV C)], [rndS (hadPL SV C) 0 [frstS lot (topS SV C)] []], tiedS [] (topS SV C) (frstS lot (topS SV C))) from rfl)
        have Htm := hide htm
        clear htm hxm
        go_wp2_with fail
        refine hfi.mono ?_
        rintro e w11 ⟨rfl, vt', fp', hC11, hT11, hfp, hvb, hF11⟩
        clear hfi hbt0
        generalize frstS lot (topS SV C) = x at *
        have q0 := hC11.cell 0
        have f0 := hC11.free 0
        go_upto_region 20 with fail
        clear q0 f0
        have hb10w : Below w.heap.size w w10 := Below_trans' hbE hbE.size hbE10
        have hgw : w.heap.size + 1 < g := by have := hRE.lt; omega
        have hggh : gh + 1 < g := by omega
        have hb11w : Below w.heap.size w w11 := Frame'.below hb10w hF11 (fun b e => by rcases e with e | e; omega; cases e) hb10w.size
        have hb12a : Below w11.heap.size w11 (w11.alloc (.cells #[.int .i64 x] 3)) := below_allocN
        have hE12a := Has.new w11 3 #[.int .i64 x]
        have hgl := hC11.lt
        have hC12 : Has ((w11.alloc (.cells #[.int .i64 x] 3)).setCell ⟨g, 0, none⟩ (.slice (some ⟨w11.heap.size, 0, none⟩) 1 1)) g 92 #[.slice (some ⟨w11.heap.size, 0, none⟩) 1 1, .slice none 0 0, vt', .slice A2 n2 c2] := (hC11.below hb12a hC11.lt).put 0 _
        have hF12 : Frame' (fun b => b = g) w11 ((w11.alloc (.cells #[.int .i64 x] 3)).setCell ⟨g, 0, none⟩ (.slice (some ⟨w11.heap.size, 0, none⟩) 1 1)) := (Frame'.of_below hb12a).trans (Frame'.setCell (p := ⟨g, 0, none⟩) (Frame'.refl (fun b => b = g) _) (.inl rfl) _)
        have hE12 : Has ((w11.alloc (.cells #[.int .i64 x] 3)).setCell ⟨g, 0, none⟩ (.slice (some ⟨w11.heap.size, 0, none⟩) 1 1)) w11.heap.size 3 #[.int .i64 x] := hE12a.far (p := ⟨g, 0, none⟩) (by show w11.heap.size ≠ g; omega) _
        generalize World.setCell (World.alloc w11 _) _ _ = w12 at hC12 hF12 hE12 ⊢
        have hb12w : Below w.heap.size w w12 := Frame'.below hb11w hF12 (fun b e => by omega) hb11w.size
        have hFE : Frame' (fun b => b = g) wE w12 := ((Frame'.of_below hbE10).trans (hF11.mono fun b _ e => by rcases e with e | e; exact e; cases e)).trans hF12
        have hG12 := hFE.has hG (show ¬ gh + 1 = g by omega)
        have hRI12 := hRI.frame hFE (fun _ => ⟨gh, 0, rfl, show ¬ gh = g by omega⟩)
        have q12 := hG12.cell 0
        clear hE12a hb12a
        go_wp2_with fail
        refine (pwholes_any (some ⟨gh, 0, none⟩) C C (hadPL SV C) w12 hRI12 (by omega) (fun y hy => by have := hadPL_bd (S := SV) (C := C) (by omega) y hy; omega)).mono ?_
        rintro e w13 ⟨v13, fp13, rfl, hO13, hf13, hb13⟩
        clear q12
        obtain ⟨A13, c13, rfl⟩ := hO13.slice
        rw [List.length_map, length_hadPL] at hO13 ⊢
        go_wp2_with fail
        refine (pwhole_any 0 w13 (by omega) (by omega)).mono ?_
        rintro e w14 ⟨An, nn, cn, Ad, nd, cd, rfl, hn14, hd14, hb14, hf14⟩
        have hC14 := (hC12.below hb13 hC12.lt).below hb14 (hC12.below hb13 hC12.lt).lt
        have q1 := hC14.cell 1
        have f1 := hC14.free 1
        go_upto_region 21 with fail
        obtain ⟨Av, cv, rfl⟩ := hT11.slice
        have hz10 : g < w10.heap.size := hC10'.lt
        have hz11 := hF11.size
        have hz12 : w11.heap.size < w12.heap.size := hE12.lt
        have hz13 := hb13.size
        have hz14 := hb14.size
        have hL15 : Has ((w14.alloc (.cells #[.int .i64 x] 3)).alloc (.cells #[.slice A13 C c13, .bool false, .slice An nn cn, .slice Ad nd cd, .slice (some ⟨w14.heap.size, 0, none⟩) 1 1, .slice none 0 0] 53)) w14.heap.size 3 #[.int .i64 x] := (Has.new _ _ _).alloc _
        have hN16 : Has ((w14.alloc (.cells #[.int .i64 x] 3)).alloc (.cells #[.slice A13 C c13, .bool false, .slice An nn cn, .slice Ad nd cd, .slice (some ⟨w14.heap.size, 0, none⟩) 1 1, .slice none 0 0] 53)) (w14.heap.size + 1) 53 #[.slice A13 C c13, .bool false, .slice An nn cn, .slice Ad nd cd, .slice (some ⟨w14.heap.size, 0, none⟩) 1 1, .slice none 0 0] := Has.new2 _ _ _ _
        have hb16 : Below w14.heap.size w14 ((w14.alloc (.cells #[.int .i64 x] 3)).alloc (.cells #[.slice A13 C c13, .bool false, .slice An nn cn, .slice Ad nd cd, .slice (some ⟨w14.heap.size, 0, none⟩) 1 1, .slice none 0 0] 53)) := ((Below.refl _ _).alloc (Nat.le_refl _) _).alloc (by simp) _
        clear q1 f1
        generalize World.alloc (World.alloc w14 _) _ = w16 at hL15 hN16 hb16 ⊢
        have hC17 : Has (w16.setCell ⟨g, 1, none⟩ (.slice (some ⟨w14.heap.size + 1, 0, none⟩) 1 1)) g 92 #[.slice (some ⟨w11.heap.size, 0, none⟩) 1 1, .slice (some ⟨w14.heap.size + 1, 0, none⟩) 1 1, .slice Av _ cv, .slice A2 n2 c2] := (hC14.below hb16 hC14.lt).put 1 _
        have hF17 : Frame' (fun b => b = g) w16 (w16.setCell ⟨g, 1, none⟩ (.slice (some ⟨w14.heap.size + 1, 0, none⟩) 1 1)) := Frame'.setCell (p := ⟨g, 1, none⟩) (Frame'.refl (fun b => b = g) _) (.inl rfl) _
        generalize World.setCell w16 _ _ = w17 at hC17 hF17 ⊢
        have hFE17 : Frame' (fun b => b = g) wE w17 := hFE.trans ((Frame'.of_below (Below_trans' (Below_trans' hb13 hb13.size hb14) (Below_trans' hb13 hb13.size hb14).size hb16)).trans hF17)
        have hR17 := hFE17.has hRE (show ¬ w.heap.size + 1 = g by omega)
        have q0 := hC17.cell 0
        have q1 := hC17.cell 1
        have q2 := hC17.cell 2
        have r0 := hR17.cell 0
        have r1 := hR17.cell 1
        have r2 := hR17.cell 2
        have f0 := hR17.free 0
        have f1 := hR17.free 1
        have f2 := hR17.free 2
        have hz16 := hb16.size
        have hb17w : Below w.heap.size w w17 := Frame'.below hbE hFE17 (fun b e => by omega) hbE.size
        generalize hnt : (tiedS [] (topS SV C) x).length = nv at *
        have hfr : ∀ u v y, Frame' (fun b => b = w.heap.size + 1) w17 (((w17.setCell ⟨w.heap.size + 1, 0, none⟩ u).setCell ⟨w.heap.size + 1, 1, none⟩ v).setCell ⟨w.heap.size + 1, 2, none⟩ y) := fun u v y => frame3 w17 (w.heap.size + 1) u v y
        have Hnt := hide hnt
        clear hnt
        go_wp2
        refine retOut2 rfl rfl rfl (put3 hR17) rfl rfl ⟨_, 1, 1, _, 1, 1, Av, nv, cv, by rw [hE0.out]; rfl, ?_, below3 hb17w (by omega) _ _ _⟩
        have hS : ∀ (W : World) (hW : Frame' (fun b => b = g) W w17), Frame' (fun b => b = g ∨ b = w.heap.size + 1) W (((w17.setCell ⟨w.heap.size + 1, 0, none⟩ (.slice (some ⟨w11.heap.size, 0, none⟩) 1 1)).setCell ⟨w.heap.size + 1, 1, none⟩ (.slice (some ⟨w14.heap.size + 1, 0, none⟩) 1 1)).setCell ⟨w.heap.size + 1, 2, none⟩ (.slice Av nv cv)) := fun W hW => (hW.mono fun b _ e => .inl e).trans ((hfr _ _ _).mono fun b _ e => .inr e)
        have k16 := hS w16 hF17
        have k14 := hS w14 ((Frame'.of_below hb16).trans hF17)
        have k13 := hS w13 ((Frame'.of_below (Below_trans' hb14 hb14.size hb16)).trans hF17)
        have k12 := hS w12 ((Frame'.of_below (Below_trans' hb13 hb13.size (Below_trans' hb14 hb14.size hb16))).trans hF17)
        have k11 := hS w11 (hF12.trans ((Frame'.of_below (Below_trans' hb13 hb13.size (Below_trans' hb14 hb14.size hb16))).trans hF17))
        rw [hro.out, Int.toNat_natCast, hpath.out]
        have hxI : ∀ z ∈ [x], I64 z := fun z hz => by rw [List.mem_singleton.1 hz]; unfold I64; omega
        refine ⟨ints_lit [x] (k12.has hE12 (by omega)) (by simp) hxI, ragg1 (k16.has hN16 (by omega)) rfl ?_, ?_⟩
        · refine ⟨A13, C, c13, _, _, _, _, 1, 1, none, 0, 0, rfl, ?_, ⟨An, nn, cn, Ad, nd, cd, rfl, ?_, ?_⟩, ints_lit [x] (k16.has hL15 (by omega)) (by simp) hxI, RInts.nil_ _⟩
          · exact (hO13.frame k13 (fun b hb e => by have := hf13 b hb; omega) (fun b hb e => by have := (hO13.lt hb).1; omega)).reads
          · exact hn14.frame k14 (fun b hb e => by have := hf14 b (.inl hb); omega)
          · exact hd14.frame k14 (fun b hb e => by have := hf14 b (.inr hb); omega)
        · exact (hT11.frame k11 (fun b hb e => by rcases hfp b hb with h | h; exact h; omega) (fun b hb e => by have := (hT11.lt hb).1; omega)).reads
  · have e1 : (mayS c k l 1 seats 1 lot != 0) = true := by simp [hE]
    have hro := hide (pathR_bad hE)
    have q0 := hR1.cell 0
    have q1 := hR1.cell 1
    have q2 := hR1.cell 2
    have f0 := hR1.free 0
    have f1 := hR1.free 1
    have f2 := hR1.free 2
    go_wp2
    refine retOut2 rfl rfl rfl (put3 hR1) rfl rfl ⟨none, 0, 0, none, 0, 0, none, 0, 0, rfl, ?_, below3 hb01 (by omega) _ _ _⟩
    rw [hro.out]
    exact ROut.nil_ _
end Go.Proofs.YtkhclcdmehjfkaaGreat
