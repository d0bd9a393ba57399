/-
  The reference's Count of chapter 13; two slices of numbers that grow side by side.
-/
import Derived.Test.YtkhclcdmehjfkaaGreatW13b
import Derived.Test.YtkhclcdmehjfkaaGreatW13e
import Derived.Test.YtkhclcdmehjfkaaGreatW10m
namespace Go.Proofs.YtkhclcdmehjfkaaGreat
open Go.RowKit Go.Proofs Go.Shelf
attribute [local go_sem] cell?_more cell?_alloc_some cell?_setCell_far frozen?_alloc_some frozen?_more
/-- Two slices of numbers, apart. -/
structure Two (w : World) (B : Nat) (u v : Value) (xs ys : List Int) : Prop where
  l : Own w B u xs
  r : Own w B v ys
  ap : ∀ b, u.ownBlock = some b → v.ownBlock ≠ some b
theorem Two.symm {w : World} {B : Nat} {u v : Value} {xs ys : List Int} (h : Two w B u v xs ys) : Two w B v u ys xs := ⟨h.r, h.l, fun b hv hu => h.ap b hu hv⟩
theorem Two.below {w w' : World} {B : Nat} {u v : Value} {xs ys : List Int} (h : Two w B u v xs ys) (hb : Below w.heap.size w w') : Two w' B u v xs ys := ⟨h.l.below hb, h.r.below hb, h.ap⟩
theorem Two.nil_ (w : World) (B : Nat) : Two w B (.slice none 0 0) (.slice none 0 0) [] [] := ⟨Own.nil_ _ _, Own.nil_ _ _, fun b h => by cases h⟩
/-- One more on the left. -/
theorem Two.app {w : World} {B : Nat} {u v : Value} {xs ys : List Int} (h : Two w B u v xs ys) (x : Int) (hx : I64 x) (hn : xs.length + 1 ≤ 1000000) (hB : B ≤ w.heap.size) (ty : TypeId) :
    ∃ u' w', (Builtin.append_ #[25, 25] ty #[u, .slice (some ⟨w.heap.size, 0, none⟩) 1 1]).run Tryz.prog (w.alloc (.cells #[.int .i64 x] 3)) = .ok u' w' ∧ Two w' B u' v (xs ++ [x]) ys ∧ Frame' (fun b => u.ownBlock = some b) w w' := by
  have hb : Below w.heap.size w (w.alloc (.cells #[.int .i64 x] 3)) := below_allocN
  have h1 := h.below hb
  have hL : RInts (w.alloc (.cells #[.int .i64 x] 3)) (some ⟨w.heap.size, 0, none⟩) 1 1 [x] := ints_lit [x] (Has.new _ _ _) (by simp) (fun z hz => by rw [List.mem_singleton.1 hz]; exact hx)
  obtain ⟨u', w', k1, k2, k3, k4⟩ := run_appInts _ ty h1.l hL (by simpa using hn) (by simp; omega)
  have hf : Frame' (fun b => u.ownBlock = some b) (w.alloc (.cells #[.int .i64 x] 3)) w' := (Frame'.of_grown k3).mono fun b _ e => e.symm
  refine ⟨u', w', k1, ⟨k2, h1.r.frame hf (fun b hb' e => h.ap b e hb'), fun b hu hv => ?_⟩, (Frame'.of_below hb).trans hf⟩
  rcases k4 with e | e
  · rw [e] at hu; exact h.ap b hu hv
  · rw [e] at hu
    have e2 := Option.some.inj hu
    have := (h1.r.own_lt hv).2
    omega
/-- Who is behind nobody, of the first X. -/
def topT (S : M) (C X : Nat) : List Int := (rangeI X).filter fun x => decide (hadP S x.toNat C + 1 = C)
def hadU (S : M) (C X : Nat) : List Int := (List.range X).map fun x : Nat => (hadP S x C : Int)
theorem hadU_succ (S : M) (C X : Nat) : hadU S C (X + 1) = hadU S C X ++ [(hadP S X C : Int)] := by unfold hadU; rw [List.range_succ, List.map_append]; rfl
theorem length_hadU (S : M) (C X : Nat) : (hadU S C X).length = X := by simp [hadU]
theorem length_topT (S : M) (C X : Nat) : (topT S C X).length ≤ X := Nat.le_trans (List.length_filter_le _ _) (by rw [length_rangeI]; exact Nat.le_refl _)
theorem topT_succ (S : M) (C X : Nat) : topT S C (X + 1) = topT S C X ++ if hadP S X C + 1 = C then [(X : Int)] else [] := by
  unfold topT
  rw [rangeI_succ, List.filter_append]
  congr 1
  by_cases e : hadP S X C + 1 = C
  · rw [if_pos e, List.filter_cons, if_pos (by simpa using e)]; rfl
  · rw [if_neg e, List.filter_cons, if_neg (by simpa using e)]; rfl
set_option maxRecDepth 100000 in
set_option maxHeartbeats 4000000 in
theorem rschulze_any (c k : Int) (A : Option Addr) (n cp : Nat) (l : List Row) (seats : Int) (At : Option Addr) (nt ct : Nat) (lot : List Int) (w : World) (h : RRows w A n cp l) (h' : RInts w At nt ct lot) :
    Calls Tryz.prog 20 #[.agg #[.int .i64 c, .int .u8 k, .slice A n cp], .int .i64 seats, .slice At nt ct] w (OutPost w (pathR c k l seats lot) (mayS c k l 1 seats 1 lot)) := by
  have hP0 : Has ((w.alloc (.cells #[.int .i64 c, .int .u8 k, .slice A n cp] 28)).alloc (.cells #[.slice none 0 0, .slice none 0 0, .slice none 0 0] 38)) w.heap.size 28 #[.int .i64 c, .int .u8 k, .slice A n cp] := (Has.new _ _ _).alloc _
  have hR0 : Has ((w.alloc (.cells #[.int .i64 c, .int .u8 k, .slice A n cp] 28)).alloc (.cells #[.slice none 0 0, .slice none 0 0, .slice none 0 0] 38)) (w.heap.size + 1) 38 #[.slice none 0 0, .slice none 0 0, .slice none 0 0] := Has.new2 _ _ _ _
  have hb0 : Below w.heap.size w ((w.alloc (.cells #[.int .i64 c, .int .u8 k, .slice A n cp] 28)).alloc (.cells #[.slice none 0 0, .slice none 0 0, .slice none 0 0] 38)) := ((Below.refl _ _).alloc (Nat.le_refl _) _).alloc (by simp) _
  go_enter Tryz.func20, Tryz.ntmps20
  go_upto_region 1 with fail
  generalize World.alloc (World.alloc w _) _ = W0 at hP0 hR0 hb0 ⊢
  have p0 := hP0.cell 0
  have p1 := hP0.cell 1
  have p2 := hP0.cell 2
  go_wp2_with fail
  refine (may_any c k A n cp l 1 seats 1 At nt ct lot W0 (h.below hb0) (h'.below hb0)).mono ?_
  rintro e w1 ⟨rfl, hb1⟩
  have hb01 := Below_trans' hb0 hb0.size hb1
  have hP1 := hP0.below hb1 hP0.lt
  have hR1 := hR0.below hb1 hR0.lt
  clear p0 p1 p2 hP0 hR0
  by_cases hE : mayS c k l 1 seats 1 lot = 0
  · have e1 : (mayS c k l 1 seats 1 lot != 0) = false := by simp [hE]
    obtain ⟨hc0, hk0, hs1, hs2, hs3, hlot⟩ := may_zero hE
    subst hk0
    have hcs := check_ok hc0
    obtain ⟨C, rfl⟩ : ∃ C : Nat, c = (C : Int) := ⟨c.toNat, by omega⟩
    have hRk := hide (rank_ok hc0)
    have Hlot := hide hlot
    have hro := hide (pathR_ok hE)
    have hE0 := hide hE
    have hC10 : C ≤ 10 := (rank_ok hc0).c10
    have hC1 : 1 ≤ C := (rank_ok hc0).c1
    have hrt := hide (ofR_right (k := 1) hc0 (c' := (C : Int)) (Int.le_refl _) (by omega))
    have hse : strErr (ofR C 1 l) C = 0 := strErr_ok hrt.out
    have hst := strV_ok hrt.out
    have Hse := hide hse
    have Hst := hide hst
    have hpo := rof10_any C 1 A n cp l w1 (h.below hb01)
    unfold POfPost at hpo
    clear hcs hE hc0 hlot hse hst
    have p0 := hP1.cell 0
    have p1 := hP1.cell 1
    have p2 := hP1.cell 2
    go_wp2_with fail
    refine hpo.mono ?_
    rintro e w2 ⟨D, rfl, hD, hb2⟩
    clear hpo p0 p1 p2
    have hDs := hD.size
    have hb02 := Below_trans' hb01 hb01.size hb2
    have hZ2 : Has (w2.alloc (.cells Tryz.zeroCells24 24)) w2.heap.size 24 Tryz.zeroCells24 := Has.new _ _ _
    have hM3 : Has ((w2.alloc (.cells Tryz.zeroCells24 24)).setRow w2.heap.size D) w2.heap.size 24 D := hZ2.setRow _
    have hb23 : Below w2.heap.size w2 ((w2.alloc (.cells Tryz.zeroCells24 24)).setRow w2.heap.size D) := below_setRow ((Below.refl _ _).alloc (Nat.le_refl _) _) (Nat.le_refl _) _
    go_upto_region 5 with (refine stMat rfl rfl rfl rfl hZ2 zeroMat.size hDs hD.one ?_)
    generalize World.setRow (World.alloc w2 _) _ _ = w3 at hM3 hb23 ⊢
    clear hZ2
    have hb03 := Below_trans' hb02 hb02.size hb23
    have hb13 := Below_trans' hb2 hb2.size hb23
    have hP3 := hP1.below hb13 hP1.lt
    have hR3 := hR1.below hb13 hR1.lt
    have p0 := hP3.cell 0
    go_wp2_with (refine ldMat rfl rfl rfl hM3 hDs ?_)
    refine (rstrengths_any D _ hD C w3).mono ?_
    rintro e w4 ⟨S, rfl, hS, hb4⟩
    clear p0
    rw [Hse.out]
    have hSs := hS.size
    have hb04 := Below_trans' hb03 hb03.size hb4
    have hZ4 : Has (w4.alloc (.cells Tryz.zeroCells24 24)) w4.heap.size 24 Tryz.zeroCells24 := Has.new _ _ _
    have hS5 : Has ((w4.alloc (.cells Tryz.zeroCells24 24)).setRow w4.heap.size S) w4.heap.size 24 S := hZ4.setRow _
    have hb45 : Below w4.heap.size w4 ((w4.alloc (.cells Tryz.zeroCells24 24)).setRow w4.heap.size S) := below_setRow ((Below.refl _ _).alloc (Nat.le_refl _) _) (Nat.le_refl _) _
    go_upto_region 6 with (refine stMat rfl rfl rfl rfl hZ4 zeroMat.size hSs hS.one ?_)
    generalize World.setRow (World.alloc w4 _) _ _ = w5 at hS5 hb45 ⊢
    clear hZ4
    have hb05 := Below_trans' hb04 hb04.size hb45
    have hb35 := Below_trans' hb4 hb4.size hb45
    have hP5 := hP3.below hb35 hP3.lt
    have hR5 := hR3.below hb35 hR3.lt
    generalize strV (ofR C 1 l) C = SV at *
    have hgs : Hid (w4.heap.size < w5.heap.size) := hS5.lt
    clear hb01 hb02 hb03 hb04 hb13 hb23 hb35 hb45 hb4 hb2 hM3 hR1 hR3 hP1 hP3 hb1 hb0
    go_wp2
    go_loopw [13, 14, 15] (fun u v i wr => ∃ X : Nat, X ≤ C ∧ i = .int .i64 X ∧ Two wr w5.heap.size u v (hadU SV C X) (topT SV C X) ∧ Below w5.heap.size w5 wr) (fun u v i _ => C - (intOf i).toNat)
    case atStart => exact ⟨0, Nat.zero_le _, rfl, Two.nil_ _ _, Below.refl _ _⟩
    case round =>
      obtain ⟨X, hX, rfl, hT, hb⟩ := hrel
      obtain ⟨wo, rfl⟩ : ∃ wo : World, wo = wr := ⟨_, rfl⟩
      have hPo := hP5.below hb hP5.lt
      have p0 := hPo.cell 0
      obtain ⟨Au, cu, rfl⟩ := hT.l.slice
      obtain ⟨Av, cv, rfl⟩ := hT.r.slice
      by_cases hXC : X < C
      · have hX10 : X < 10 := by omega
        have b1 : (X : Int) < 10 := by omega
        generalize hlu : (hadU SV C X).length = nu at *
        generalize hlv : (topT SV C X).length = nv at *
        have Hlu := hide hlu
        have Hlv := hide hlv
        clear hlu hlv
        go_wp2
        clear p0
        go_loopw [16, 17] (fun v i wr => ∃ Y : Nat, Y ≤ C ∧ i = .int .i64 Y ∧ v = .int .i64 (hadP SV X Y : Int) ∧ Below wo.heap.size wo wr) (fun v i _ => C - (intOf i).toNat)
        case atStart => exact ⟨0, Nat.zero_le _, rfl, rfl, Below.refl _ _⟩
        case round =>
          obtain ⟨Y, hY, rfl, rfl, hbi⟩ := hrel
          have hPr := hPo.below hbi hPo.lt
          have p0 := hPr.cell 0
          have hbr := Below_trans' hb hb.size hbi
          have hSr := hS5.below hbr hgs.out
          have hpb := (hadP_le SV X Y).1
          by_cases hYC : Y < C
          · have hY10 : Y < 10 := by omega
            have b2 : (Y : Int) < 10 := by omega
            by_cases hne : X = Y
            · have f13 : ((X : Int) != (Y : Int)) = false := by simp [hne]
              have hno : Hid (hadP SV X (Y + 1) = hadP SV X Y) := by unfold Hid; rw [hadP_succ, if_neg (fun h => h.1 hne)]; rfl
              clear hne
              go_upto_region 14 with fail
              refine wp_region_more (by kernel_rfl) (by kernel_rfl) ?_
              repeat (go_big_quiet_step (fail))
              refine wpQuiet_nil ?_
              rintro w2 ⟨qw2, hww2⟩
              have hbw2 := below_of_eq hww2
              clear hww2 qw2
              have hb2 := Below_trans' hbi hbi.size hbw2
              go_wp2
              go_roundw
              case rel => exact ⟨Y + 1, by omega, by go_num, by rw [hno.out], hb2⟩
              case measure => simp [intOf] <;> omega
            · have f13 : ((X : Int) != (Y : Int)) = true := by simp; omega
              have hyes := hide (fun (hle : SV Y X ≤ SV X Y) => (show hadP SV X (Y + 1) = hadP SV X Y + 1 by rw [hadP_succ, if_pos ⟨hne, hle⟩]))
              have hno := hide (fun (hle : ¬ SV Y X ≤ SV X Y) => (show hadP SV X (Y + 1) = hadP SV X Y by rw [hadP_succ, if_neg (fun h => hle h.2)]; rfl))
              clear hne
              have hc1 := (hSr.cell (X * 10 + Y)).trans (hS.at_ X Y hX10 hY10)
              have hc2 := (hSr.cell (Y * 10 + X)).trans (hS.at_ Y X hY10 hX10)
              generalize SV X Y = v at hc1 hyes hno
              generalize SV Y X = u at hc2 hyes hno
              by_cases hle : u ≤ v
              · have d1 : decide (u ≤ v) = true := by simpa using hle
                have hset := hide (hyes.out hle)
                clear hyes hno
                go_upto_region 14 with fail
                refine wp_region_more (by kernel_rfl) (by kernel_rfl) ?_
                repeat (go_big_quiet_step (fail))
                refine wpQuiet_nil ?_
                rintro w2 ⟨qw2, hww2⟩
                have hbw2 := below_of_eq hww2
                clear hww2 qw2
                clear hc1 hc2 hle
                have hb2 := Below_trans' hbi hbi.size hbw2
                go_wp2
                go_roundw
                case rel => exact ⟨Y + 1, by omega, by go_num, congrArg (Value.int .i64) (by rw [hset.out]; omega), hb2⟩
                case measure => simp [intOf] <;> omega
              · have d1 : decide (u ≤ v) = false := by simpa using hle
                have hset := hide (hno.out hle)
                clear hyes hno
                go_upto_region 14 with fail
                refine wp_region_more (by kernel_rfl) (by kernel_rfl) ?_
                repeat (go_big_quiet_step (fail))
                refine wpQuiet_nil ?_
                rintro w2 ⟨qw2, hww2⟩
                have hbw2 := below_of_eq hww2
                clear hww2 qw2
                clear hc1 hc2 hle
                have hb2 := Below_trans' hbi hbi.size hbw2
                go_wp2
                go_roundw
                case rel => exact ⟨Y + 1, by omega, by go_num, by rw [hset.out], hb2⟩
                case measure => simp [intOf] <;> omega
          · obtain rfl : C = Y := by omega
            obtain ⟨wi, rfl⟩ : ∃ wi : World, wi = wr := ⟨_, rfl⟩
            have hT2 := hT.below hbi
            have hzi := hbr.size
            obtain ⟨u', w', h41, hT3, hF3⟩ := hT2.app (hadP SV X C : Int) (by unfold I64; omega) (by rw [length_hadU]; omega) hzi 25
            have hsu := hide (hadU_succ SV C X)
            have hst := hide (topT_succ SV C X)
            have hb3 : Below w5.heap.size w5 w' := Frame'.below hbr hF3 (fun b e => (hT2.l.own_lt e).1) hbr.size
            have hP3 := hP5.below hb3 hP5.lt
            have hlt := length_topT SV C X
            obtain ⟨Au', cu', rfl⟩ := hT3.l.slice
            generalize hlu' : (hadU SV C X ++ [(hadP SV X C : Int)]).length = nu' at *
            have Hlu' := hide hlu'
            clear hlu'
            go_upto_region 17 with (at_builtin; refine list_app rfl rfl rfl rfl h41 ?_)
            clear h41 p0
            have p0 := hP3.cell 0
            by_cases htp : hadP SV X C + 1 = C
            · have f17 : ((hadP SV X C : Int) == (C : Int) - 1) = true := by simp; omega
              have hst2 : Hid (topT SV C (X + 1) = topT SV C X ++ [(X : Int)]) := by unfold Hid; rw [hst.out, if_pos htp]
              obtain ⟨v', w'', h51, hT4, hF4⟩ := hT3.symm.app (X : Int) (by unfold I64; omega) (by omega) hb3.size 25
              have hb4 : Below w5.heap.size w5 w'' := Frame'.below hb3 hF4 (fun b e => (hT3.r.own_lt e).1) hb3.size
              clear htp hst
              go_wp2_with (at_builtin; refine list_app rfl rfl rfl rfl h51 ?_)
              clear h51
              go_roundw
              case rel => exact ⟨X + 1, by omega, by go_num, by rw [hsu.out, hst2.out]; exact hT4.symm, hb4⟩
              case measure => simp [intOf] <;> omega
            · have f17 : ((hadP SV X C : Int) == (C : Int) - 1) = false := by simp; omega
              have hst2 : Hid (topT SV C (X + 1) = topT SV C X) := by unfold Hid; rw [hst.out, if_neg htp, List.append_nil]
              clear htp hst
              go_wp2
              go_roundw
              case rel => exact ⟨X + 1, by omega, by go_num, by rw [hsu.out, hst2.out]; exact hT3, hb3⟩
              case measure => simp [intOf] <;> omega
      · obtain rfl : C = X := by omega
        have hT' : Two wo w5.heap.size (.slice Au (hadU SV C C).length cu) (.slice Av (topT SV C C).length cv) (hadPL SV C) (topS SV C) := hT
        clear hT
        generalize hlu : (hadU SV C C).length = nu at *
        generalize hlv : (topT SV C C).length = nv at *
        have hnu : nu = C := by rw [← hlu, length_hadU]
        have Hnu := hide hnu
        have hnv : nv = (topS SV C).length := by rw [← hlv]; rfl
        have Hnv := hide hnv
        clear hlu hlv hnu hnv
        have hbw := Below_trans' hb05 hb05.size hb
        have hRo := hR5.below hb hR5.lt
        have hg5 : w.heap.size + 1 < w5.heap.size := hR5.lt
        have htm : ∀ y ∈ topS SV C, 0 ≤ y ∧ y < C := fun y hy => mem_rangeI.1 ((top_sub SV C).subset hy)
        have hI1 := hT'.l.ints (fun y hy => by have := hadPL_bd (S := SV) (C := C) (by omega) y hy; omega)
        have hI2 := hT'.r.ints (fun y hy => by have := htm y hy; omega)
        have hown := hide (fun b (hb : fpS Av nv b) => (hT'.r.own_lt (hT'.r.fps hb)).1)
        have hxm : frstS lot (topS SV C) ∈ topS SV C := by
          obtain ⟨a, ha⟩ := List.exists_mem_of_ne_nil _ (topS_ne Hst.out (show 0 < C by omega) hC10)
          unfold frstS
          cases hf : lot.find? (inL (topS SV C)) with
          | none => exact absurd (inL_iff.2 ha) (by have := List.find?_eq_none.1 hf a (lot_in Hlot.out ((top_sub SV C).subset ha)); simpa using this)
          | some y => exact inL_iff.1 (by simpa using List.find?_some hf)
        have hxr := htm _ hxm
        have hpath := hide (show pathO SV C lot = ([frstS lot (topS SV C)], [rndS (hadPL SV C) 0 [frstS lot (topS SV C)] []], tiedS [] (topS SV C) (frstS lot (topS SV C))) from rfl)
        clear htm hxm hT'
        go_wp2_with fail
        refine (rfirst_any At nt ct lot Av nv cv (topS SV C) wo (h'.below hbw) hI2).mono ?_
        rintro e w' ⟨rfl, rfl⟩
        clear p0
        generalize frstS lot (topS SV C) = x at *
        have hb6 : Below wo.heap.size wo (wo.alloc (.cells #[.int .i64 x] 3)) := below_allocN
        have hL6 := Has.new wo 3 #[.int .i64 x]
        go_wp2_with fail
        generalize World.alloc wo _ = w6 at hb6 hL6 ⊢
        refine (rwholes_any Au nu cu (hadPL SV C) w6 (hI1.below hb6) (by have := Hnu.out; omega) (fun y hy => by have := hadPL_bd (S := SV) (C := C) (by omega) y hy; omega)).mono ?_
        rintro e w13 ⟨v13, fp13, rfl, hO13, hf13, hb13⟩
        obtain ⟨A13, c13, rfl⟩ := hO13.slice
        rw [List.length_map, length_hadPL] at hO13 ⊢
        go_wp2_with fail
        refine (rwhole_any 0 w13 (by omega) (by omega)).mono ?_
        rintro e w14 ⟨An, nn, cn, Ad, nd, cd, rfl, hn14, hd14, hb14, hf14⟩
        have hL15 : Has ((w14.alloc (.cells #[.int .i64 x] 3)).alloc (.cells #[.slice A13 C c13, .bool false, .slice An nn cn, .slice Ad nd cd, .slice (some ⟨w14.heap.size, 0, none⟩) 1 1, .slice none 0 0] 53)) w14.heap.size 3 #[.int .i64 x] := (Has.new _ _ _).alloc _
        have hN16 : Has ((w14.alloc (.cells #[.int .i64 x] 3)).alloc (.cells #[.slice A13 C c13, .bool false, .slice An nn cn, .slice Ad nd cd, .slice (some ⟨w14.heap.size, 0, none⟩) 1 1, .slice none 0 0] 53)) (w14.heap.size + 1) 53 #[.slice A13 C c13, .bool false, .slice An nn cn, .slice Ad nd cd, .slice (some ⟨w14.heap.size, 0, none⟩) 1 1, .slice none 0 0] := Has.new2 _ _ _ _
        have hb16 : Below w14.heap.size w14 ((w14.alloc (.cells #[.int .i64 x] 3)).alloc (.cells #[.slice A13 C c13, .bool false, .slice An nn cn, .slice Ad nd cd, .slice (some ⟨w14.heap.size, 0, none⟩) 1 1, .slice none 0 0] 53)) := ((Below.refl _ _).alloc (Nat.le_refl _) _).alloc (by simp) _
        go_wp2_with fail
        generalize World.alloc (World.alloc w14 _) _ = w16 at hL15 hN16 hb16 ⊢
        have hb1316 := Below_trans' hb14 hb14.size hb16
        have hb616 := Below_trans' hb13 hb13.size hb1316
        have hbo16 := Below_trans' hb6 hb6.size hb616
        have hti := tied_any w16.heap.size (.slice none 0 0) (fun _ => False) [] Av nv cv (topS SV C) x w16 (Nat.le_refl _) (OAgg.nil_ _ _ _ _ _) (hI2.below hbo16) (fun b e => by cases e) (by unfold I64; omega) (by simp)
        refine hti.mono ?_
        rintro e w17 ⟨vt', fp', rfl, hT17, hft', hvt', hF17⟩
        clear hti
        obtain ⟨Av', cv', rfl⟩ := hT17.slice
        have hb17 : Below w16.heap.size w16 w17 := Frame'.below (Below.refl _ _) hF17 (fun b e => by cases e) (Nat.le_refl _)
        have hbo17 := Below_trans' hbo16 hbo16.size hb17
        have hbw17 := Below_trans' hbw hbw.size hbo17
        have hR17 := hRo.below hbo17 hRo.lt
        have r0 := hR17.cell 0
        have r1 := hR17.cell 1
        have r2 := hR17.cell 2
        have f0 := hR17.free 0
        have f1 := hR17.free 1
        have f2 := hR17.free 2
        have hz6 : wo.heap.size < w6.heap.size := hL6.lt
        have hz13 := hb13.size
        have hz14 := hb14.size
        have hz16 := hb16.size
        have hzo := hb.size
        have hl6 := hL6.lt
        generalize hnt : (tiedS [] (topS SV C) x).length = nw at *
        have Hnt := hide hnt
        clear hnt
        go_wp2
        refine retOut2 rfl rfl rfl (put3 hR17) rfl rfl ⟨_, 1, 1, _, 1, 1, Av', nw, cv', by rw [hE0.out]; rfl, ?_, below3 hbw17 (by omega) _ _ _⟩
        have hS : ∀ (W : World) (hW : Below W.heap.size W w17), Frame' (fun b => b = w.heap.size + 1) W (((w17.setCell ⟨w.heap.size + 1, 0, none⟩ (.slice (some ⟨wo.heap.size, 0, none⟩) 1 1)).setCell ⟨w.heap.size + 1, 1, none⟩ (.slice (some ⟨w14.heap.size + 1, 0, none⟩) 1 1)).setCell ⟨w.heap.size + 1, 2, none⟩ (.slice Av' nw cv')) := fun W hW => (Frame'.of_below hW).trans (frame3 w17 (w.heap.size + 1) _ _ _)
        have k17 := hS w17 (Below.refl _ _)
        have k16 := hS w16 hb17
        have k14 := hS w14 (Below_trans' hb16 hb16.size hb17)
        have k13 := hS w13 (Below_trans' hb1316 hb1316.size hb17)
        have k6 := hS w6 (Below_trans' hb616 hb616.size hb17)
        rw [hro.out, Int.toNat_natCast, hpath.out]
        have hxI : ∀ z ∈ [x], I64 z := fun z hz => by rw [List.mem_singleton.1 hz]; unfold I64; omega
        refine ⟨ints_lit [x] (k6.has hL6 (by omega)) (by simp) hxI, ragg1 (k16.has hN16 (by omega)) rfl ?_, ?_⟩
        · refine ⟨A13, C, c13, _, _, _, _, 1, 1, none, 0, 0, rfl, ?_, ⟨An, nn, cn, Ad, nd, cd, rfl, ?_, ?_⟩, ints_lit [x] (k16.has hL15 (by omega)) (by simp) hxI, RInts.nil_ _⟩
          · exact (hO13.frame k13 (fun b hb e => by have := hf13 b hb; omega) (fun b hb e => by have := (hO13.lt hb).1; omega)).reads
          · exact hn14.frame k14 (fun b hb e => by have := hf14 b (.inl hb); omega)
          · exact hd14.frame k14 (fun b hb e => by have := hf14 b (.inr hb); omega)
        · exact (hT17.frame k17 (fun b hb e => by rcases hft' b hb with h | h; exact h; have := hown.out b h; omega) (fun b hb e => by have := (hT17.lt hb).1; omega)).reads
  · have e1 : (mayS c k l 1 seats 1 lot != 0) = true := by simp [hE]
    have hro := hide (pathR_bad hE)
    have q0 := hR1.cell 0
    have q1 := hR1.cell 1
    have q2 := hR1.cell 2
    have f0 := hR1.free 0
    have f1 := hR1.free 1
    have f2 := hR1.free 2
    go_wp2
    refine retOut2 rfl rfl rfl (put3 hR1) rfl rfl ⟨none, 0, 0, none, 0, 0, none, 0, 0, rfl, ?_, below3 hb01 (by omega) _ _ _⟩
    rw [hro.out]
    exact ROut.nil_ _
end Go.Proofs.YtkhclcdmehjfkaaGreat
