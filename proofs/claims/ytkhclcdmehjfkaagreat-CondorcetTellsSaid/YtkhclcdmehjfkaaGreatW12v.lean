/-
  The reference of chapter 12: Copeland and minimax.
-/
import Derived.Test.YtkhclcdmehjfkaaGreatW12u
import Derived.Test.YtkhclcdmehjfkaaGreatW12e
import Derived.Test.YtkhclcdmehjfkaaGreatW10m
namespace Go.Proofs.YtkhclcdmehjfkaaGreat
open Go.RowKit Go.Proofs Go.Shelf
attribute [local go_sem] cell?_more cell?_alloc_some cell?_setCell_far frozen?_alloc_some frozen?_more
/-- Two lists in blocks apart: numbers, and how they are shown. -/
structure Both (w : World) (B : Nat) (u v : Value) (xs : List Int) (rs : List Rat3) : Prop where
  l : Own w B u xs
  r : ∃ fp, OAgg ERat 51 3 fp w B v rs ∧ (∀ b, fp b → B ≤ b) ∧ ∀ b, u.ownBlock = some b → ¬ fp b ∧ v.ownBlock ≠ some b
theorem Both.nil_ (w : World) (B : Nat) : Both w B (.slice none 0 0) (.slice none 0 0) [] [] := ⟨Own.nil_ _ _, _, OAgg.nil_ _ _ _ _ _, fun _ h => h.elim, fun b h => by cases h⟩
theorem Both.below {w w' : World} {B : Nat} {u v : Value} {xs : List Int} {rs : List Rat3} (h : Both w B u v xs rs) (hb : Below w.heap.size w w') : Both w' B u v xs rs := by
  obtain ⟨h1, fp, h2, h3, h4⟩ := h
  exact ⟨h1.below hb, fp, h2.below hb, h3, h4⟩
theorem Both.sliceR {w : World} {B : Nat} {u v : Value} {xs : List Int} {rs : List Rat3} (h : Both w B u v xs rs) : ∃ A c, v = .slice A rs.length c := by
  obtain ⟨_, fp, h2, _⟩ := h
  exact h2.slice
/-- One more number. -/
theorem Both.app {z w : World} {B : Nat} {u v : Value} {xs : List Int} {rs : List Rat3} (h : Both w B u v xs rs) (hbz : Below B z w) (hz : B ≤ w.heap.size) (x : Int) (hx : I64 x) (hn : xs.length + 1 ≤ 1000000) (ty : TypeId) :
    ∃ u' w', (Builtin.append_ #[25, 25] ty #[u, .slice (some ⟨w.heap.size, 0, none⟩) 1 1]).run Tryz.prog (w.alloc (.cells #[.int .i64 x] 3)) = .ok u' w' ∧ Both w' B u' v (xs ++ [x]) rs ∧ Below B z w' := by
  obtain ⟨h1, fp, h2, h3, h4⟩ := h
  have hb : Below w.heap.size w (w.alloc (.cells #[.int .i64 x] 3)) := below_allocN
  have hL : RInts (w.alloc (.cells #[.int .i64 x] 3)) (some ⟨w.heap.size, 0, none⟩) 1 1 [x] := ints_lit [x] (Has.new _ _ _) (by simp) (fun z hz => by rw [List.mem_singleton.1 hz]; exact hx)
  obtain ⟨u', w', k1, k2, k3, k4⟩ := run_appInts _ ty (h1.below hb) hL (by simpa using hn) (by simp; omega)
  have hf : Frame' (fun b => u.ownBlock = some b) (w.alloc (.cells #[.int .i64 x] 3)) w' := (Frame'.of_grown k3).mono fun b _ e => e.symm
  have hF := (Frame'.of_below hb).trans hf
  refine ⟨u', w', k1, ⟨k2, fp, (h2.below hb).frame hf (fun b hb' e => (h4 b e).1 hb') (fun b hb' e => (h4 b e).2 hb'), h3, fun b hu => ?_⟩, Frame'.below hbz hF (fun b e => (h1.own_lt e).1) hz⟩
  rcases k4 with e | e
  · rw [e] at hu; exact h4 b hu
  · rw [e] at hu
    have e2 := Option.some.inj hu
    refine ⟨fun hfb => ?_, fun hv => ?_⟩
    · have := (h2.below hb).fp_lt hfb
      omega
    · have := ((h2.below hb).lt hv).2
      omega
/-- One more, as it is shown. -/
theorem Both.rat {z w wA : World} {B : Nat} {u v : Value} {xs : List Int} {rs : List Rat3} (h : Both w B u v xs rs) (hbz : Below B z w) (hz : B ≤ w.heap.size) (hbA : Below w.heap.size w wA) {A1 : Option Addr} {n1 c1 : Nat} {A2 : Option Addr} {n2 c2 : Nat} {p q : List Int}
    (hn : RWrds wA A1 n1 c1 p) (hd : RWrds wA A2 n2 c2 q) (hf : ∀ b, fpS A1 n1 b ∨ fpS A2 n2 b → w.heap.size ≤ b) (hl : rs.length + 1 ≤ 1000000) (ty : TypeId) :
    ∃ v' w', (Builtin.append_ #[48, 48] ty #[v, .slice (some ⟨wA.heap.size, 0, none⟩) 1 1]).run Tryz.prog (wA.alloc (.cells #[.bool false, .slice A1 n1 c1, .slice A2 n2 c2] 51)) = .ok v' w' ∧ Both w' B u v' xs (rs ++ [(false, p, q)]) ∧ Below B z w' := by
  obtain ⟨h1, fp, h2, h3, h4⟩ := h
  have hba : Below wA.heap.size wA (wA.alloc (.cells #[.bool false, .slice A1 n1 c1, .slice A2 n2 c2] 51)) := below_allocN
  have hzA := hbA.size
  have hon : On (fun b => fpS A1 n1 b ∨ fpS A2 n2 b) wA fun W => ERat W [.bool false, .slice A1 n1 c1, .slice A2 n2 c2] (false, p, q) :=
    (hn.on.and hd.on).imp fun _ hW => ⟨A1, n1, c1, A2, n2, c2, rfl, hW.1, hW.2⟩
  obtain ⟨v', w', k1, k2, k3, k4⟩ := run_appAgg infoRat Tryz.underlying48 rfl (by decide) (by decide) ty ((h2.below hbA).below hba) (cells3 (Has.new wA 51 #[.bool false, .slice A1 n1 c1, .slice A2 n2 c2])) rfl (by simp [Value.oneCell']) (hon.below hba)
    (fun b hv hx => by have := (h2.lt hv).2; have := hf b hx; omega) (by omega) (by simp; omega)
  have hfr : Frame' (fun b => v.ownBlock = some b) (wA.alloc (.cells #[.bool false, .slice A1 n1 c1, .slice A2 n2 c2] 51)) w' := (Frame'.of_grown k3).mono fun b _ e => e.symm
  have hzA' := Below_trans' hbz hz hbA
  have hzB := Below_trans' hzA' (by omega) hba
  refine ⟨v', w', k1, ⟨((h1.below hbA).below hba).frame hfr (fun b hu e => (h4 b hu).2 e), _, k2, fun b hb => hb.elim (h3 b) fun hb => Nat.le_trans hz (hf b hb), fun b hu => ⟨fun hb => ?_, fun hv => ?_⟩⟩, Frame'.below hzB hfr (fun b e => (h2.lt e).1) (by have := hba.size; omega)⟩
  · have hlt := (h1.own_lt hu).2
    rcases hb with hb | hb
    · exact (h4 b hu).1 hb
    · have := hf b hb; omega
  · rcases k4 with e | e
    · rw [e] at hv; exact (h4 b hu).2 hv
    · rw [e] at hv
      have e2 := Option.some.inj hv
      have := (h1.own_lt hu).2
      have := hba.size
      omega
theorem rangeI_snocG (n : Nat) (f : Int → Rat3) : (rangeI (n + 1)).map f = (rangeI n).map f ++ [f n] := by rw [rangeI_succ, List.map_append]; rfl
theorem rangeF_snoc (n : Nat) (f : Int → Int) : (rangeI (n + 1)).map f = (rangeI n).map f ++ [f n] := by rw [rangeI_succ, List.map_append]; rfl

set_option maxRecDepth 100000 in
set_option maxHeartbeats 4000000 in
theorem rcopeland_any (c k : Int) (A : Option Addr) (n cp : Nat) (l : List Row) (seats : Int) (At : Option Addr) (nt ct : Nat) (lot : List Int) (w : World) (h : RRows w A n cp l) (h' : RInts w At nt ct lot) :
    Calls Tryz.prog 42 #[.agg #[.int .i64 c, .int .u8 k, .slice A n cp], .int .i64 seats, .slice At nt ct] w (OutPost w (copR c k l seats lot) (mayS c k l 1 seats 1 lot)) := by
  have hP0 : Has ((w.alloc (.cells #[.int .i64 c, .int .u8 k, .slice A n cp] 28)).alloc (.cells #[.slice none 0 0, .slice none 0 0, .slice none 0 0] 38)) w.heap.size 28 #[.int .i64 c, .int .u8 k, .slice A n cp] := (Has.new _ _ _).alloc _
  have hR0 : Has ((w.alloc (.cells #[.int .i64 c, .int .u8 k, .slice A n cp] 28)).alloc (.cells #[.slice none 0 0, .slice none 0 0, .slice none 0 0] 38)) (w.heap.size + 1) 38 #[.slice none 0 0, .slice none 0 0, .slice none 0 0] := Has.new2 _ _ _ _
  have hb0 : Below w.heap.size w ((w.alloc (.cells #[.int .i64 c, .int .u8 k, .slice A n cp] 28)).alloc (.cells #[.slice none 0 0, .slice none 0 0, .slice none 0 0] 38)) := ((Below.refl _ _).alloc (Nat.le_refl _) _).alloc (by simp) _
  go_enter Tryz.func42, Tryz.ntmps42
  go_upto_region 1 with fail
  generalize World.alloc (World.alloc w _) _ = W0 at hP0 hR0 hb0 ⊢
  have p0 := hP0.cell 0
  have p1 := hP0.cell 1
  have p2 := hP0.cell 2
  go_wp2_with fail
  refine (may_any c k A n cp l 1 seats 1 At nt ct lot W0 (h.below hb0) (h'.below hb0)).mono ?_
  rintro e w1 ⟨rfl, hb1⟩
  have hb01 := Below_trans' hb0 hb0.size hb1
  have hP1 := hP0.below hb1 hP0.lt
  have hR1 := hR0.below hb1 hR0.lt
  clear p0 p1 p2 hP0 hR0
  by_cases hE : mayS c k l 1 seats 1 lot = 0
  · have e1 : (mayS c k l 1 seats 1 lot != 0) = false := by simp [hE]
    obtain ⟨hc0, hk0, hs1, hs2, hs3, hlot⟩ := may_zero hE
    subst hk0
    have hcs := check_ok hc0
    obtain ⟨C, rfl⟩ : ∃ C : Nat, c = (C : Int) := ⟨c.toNat, by omega⟩
    have Hlot := hide hlot
    have hro := hide (show copR C 1 l seats lot = mostO (copF (ofR C 1 l) C) halfS C lot from by have e := copR_ok hE; rw [Int.toNat_natCast] at e; exact e)
    have hE0 := hide hE
    have hC10 : C ≤ 10 := (rank_ok hc0).c10
    have hC1 : 1 ≤ C := (rank_ok hc0).c1
    have hrt := hide (ofR_right (k := 1) hc0 (c' := (10 : Int)) (by omega) (by omega))
    have hpo := rof10_any C 1 A n cp l w1 (h.below hb01)
    unfold POfPost at hpo
    rw [hc0] at hpo
    clear hcs hE hc0 hlot
    have p0 := hP1.cell 0
    have p1 := hP1.cell 1
    have p2 := hP1.cell 2
    go_wp2_with fail
    refine hpo.mono ?_
    rintro e w2 ⟨D, rfl, hD, hb2⟩
    clear hpo p0 p1 p2
    have hDs := hD.size
    have hb02 := Below_trans' hb01 hb01.size hb2
    have hZ2 : Has (w2.alloc (.cells Tryz.zeroCells24 24)) w2.heap.size 24 Tryz.zeroCells24 := Has.new _ _ _
    have hM3 : Has ((w2.alloc (.cells Tryz.zeroCells24 24)).setRow w2.heap.size D) w2.heap.size 24 D := hZ2.setRow _
    have hb23 : Below w2.heap.size w2 ((w2.alloc (.cells Tryz.zeroCells24 24)).setRow w2.heap.size D) := below_setRow ((Below.refl _ _).alloc (Nat.le_refl _) _) (Nat.le_refl _) _
    go_upto_region 5 with (refine stMat rfl rfl rfl rfl hZ2 zeroMat.size hDs hD.one ?_)
    generalize World.setRow (World.alloc w2 _) _ _ = w3 at hM3 hb23 ⊢
    clear hZ2
    have hb03 := Below_trans' hb02 hb02.size hb23
    have hb13 := Below_trans' hb2 hb2.size hb23
    have hP3 := hP1.below hb13 hP1.lt
    have hR3 := hR1.below hb13 hR1.lt
    have Hbd := hide (fun (X Y : Nat) (hX : X < 10) (hY : Y < 10) => rightS_ten hrt.out hX hY)
    generalize ofR (C : Int) 1 l = m at *
    have hgm : Hid (w2.heap.size < w3.heap.size) := hM3.lt
    clear hP1 hR1 hb1 hb0 hb01 hb02 hb13 hb23 hb2
    go_upto_region 8 with fail
    go_loopw [11, 12, 13] (fun u v i wr => ∃ X : Nat, X ≤ C ∧ i = .int .i64 X ∧ Both wr w3.heap.size u v ((rangeI X).map (copF m C)) ((rangeI X).map fun y => halfS (copF m C y)) ∧ Below w3.heap.size w3 wr) (fun u v i _ => C - (intOf i).toNat)
    case atStart => exact ⟨0, Nat.zero_le _, rfl, Both.nil_ _ _, Below.refl _ _⟩
    case round =>
      obtain ⟨X, hX, rfl, hT, hb⟩ := hrel
      obtain ⟨wo, rfl⟩ : ∃ wo : World, wo = wr := ⟨_, rfl⟩
      have hPo := hP3.below hb hP3.lt
      have p0 := hPo.cell 0
      obtain ⟨Au, cu, rfl⟩ := hT.l.slice
      obtain ⟨Av, cv, rfl⟩ := hT.sliceR
      by_cases hXC : X < C
      · rw [List.length_map, length_rangeI, List.length_map, length_rangeI] at hT ⊢
        go_upto_region 12 with fail
        clear p0
        go_loopw [14, 15] (fun v i wr => ∃ Y : Nat, Y ≤ C ∧ i = .int .i64 Y ∧ v = .int .i64 (copP m X Y) ∧ Below wo.heap.size wo wr) (fun v i _ => C - (intOf i).toNat)
        case atStart => exact ⟨0, Nat.zero_le _, rfl, rfl, Below.refl _ _⟩
        case round =>
          obtain ⟨Y, hY, rfl, rfl, hbi⟩ := hrel
          have hPr := hPo.below hbi hPo.lt
          have p0 := hPr.cell 0
          have hbr := Below_trans' hb hb.size hbi
          have hpb := copP_bd m X Y
          by_cases hYC : Y < C
          · have hX10 : X < 10 := by omega
            have hY10 : Y < 10 := by omega
            have b1 : (X : Int) < 10 := by omega
            have b2 : (Y : Int) < 10 := by omega
            have hMr := hM3.below hbr hgm.out
            have hcv := (hMr.cell (X * 10 + Y)).trans (hD.at_ X Y hX10 hY10)
            have hcu := (hMr.cell (Y * 10 + X)).trans (hD.at_ Y X hY10 hX10)
            have hd1 := Hbd.out X Y hX10 hY10
            have hd2 := Hbd.out Y X hY10 hX10
            have hsc := hide (copP_succ m X Y)
            generalize copP m X Y = nn at hsc hpb ⊢
            by_cases hv : m Y X < m X Y
            · have hn := hide (show copP m X (Y + 1) = nn + 2 by rw [hsc.out, if_pos hv])
              have hne : ((X : Int) != (Y : Int)) = true := by
                simp only [bne_iff_ne, ne_eq]
                intro e
                obtain rfl : X = Y := by omega
                omega
              clear hsc
              generalize m X Y = v at hcv hv hd1
              generalize m Y X = u at hcu hv hd2
              have d1 : decide (u < v) = true := decide_eq_true hv
              have d2 : (v == u) = false := by simp; omega
              go_upto_region 14 with fail
              refine wp_region_more (by kernel_rfl) (by kernel_rfl) ?_
              repeat (go_big_quiet_step (fail))
              refine wpQuiet_nil ?_
              rintro w6 ⟨qw6, hww6⟩
              have hbw6 := below_of_eq hww6
              clear hww6 qw6
              have hcv6 := keep_cell hbw6 hcv
              have hcu6 := keep_cell hbw6 hcu
              clear hcv hcu
              go_wp2
              refine wp_region_more (by kernel_rfl) (by kernel_rfl) ?_
              repeat (go_big_quiet_step (fail))
              refine wpQuiet_nil ?_
              rintro w7 ⟨qw7, hww7⟩
              have hbw7 := below_of_eq hww7
              clear hww7 qw7
              clear hcv6 hcu6
              have hbY := Below_trans' (Below_trans' hbi hbi.size hbw6) (Below_trans' hbi hbi.size hbw6).size hbw7
              go_wp2
              go_roundw
              case rel => exact ⟨Y + 1, by omega, by go_num, congrArg (Value.int .i64) (by rw [hn.out]; try omega), hbY⟩
              case measure => simp [intOf] <;> omega
            · by_cases he : m X Y = m Y X ∧ X ≠ Y
              · have hn := hide (show copP m X (Y + 1) = nn + 1 by rw [hsc.out, if_neg hv, if_pos he])
                have hne : ((X : Int) != (Y : Int)) = true := by simp; omega
                obtain ⟨he, -⟩ := he
                clear hsc
                rw [he] at hcv
                generalize m Y X = v at hcv hcu hd2
                clear hv he hd1
                have d1 : decide (v < v) = false := by simp
                have d2 : (v == v) = true := by simp
                go_upto_region 14 with fail
                refine wp_region_more (by kernel_rfl) (by kernel_rfl) ?_
                repeat (go_big_quiet_step (fail))
                refine wpQuiet_nil ?_
                rintro w6 ⟨qw6, hww6⟩
                have hbw6 := below_of_eq hww6
                clear hww6 qw6
                have hcv6 := keep_cell hbw6 hcv
                have hcu6 := keep_cell hbw6 hcu
                clear hcv hcu
                go_wp2
                refine wp_region_more (by kernel_rfl) (by kernel_rfl) ?_
                repeat (go_big_quiet_step (fail))
                refine wpQuiet_nil ?_
                rintro w7 ⟨qw7, hww7⟩
                have hbw7 := below_of_eq hww7
                clear hww7 qw7
                clear hcv6 hcu6
                have hbY := Below_trans' (Below_trans' hbi hbi.size hbw6) (Below_trans' hbi hbi.size hbw6).size hbw7
                go_wp2
                go_roundw
                case rel => exact ⟨Y + 1, by omega, by go_num, congrArg (Value.int .i64) (by rw [hn.out]; try omega), hbY⟩
                case measure => simp [intOf] <;> omega
              · have hn := hide (show copP m X (Y + 1) = nn by rw [hsc.out, if_neg hv, if_neg he]; omega)
                clear hsc
                by_cases hxy : X = Y
                · have hne : ((X : Int) != (Y : Int)) = false := by simp [hxy]
                  have hvv : m Y X = m X Y := by rw [hxy]
                  rw [hvv] at hcu
                  generalize m X Y = v at hcv hcu hd1
                  clear hv he hxy hvv hd2
                  have d1 : decide (v < v) = false := by simp
                  go_upto_region 14 with fail
                  refine wp_region_more (by kernel_rfl) (by kernel_rfl) ?_
                  repeat (go_big_quiet_step (fail))
                  refine wpQuiet_nil ?_
                  rintro w6 ⟨qw6, hww6⟩
                  have hbw6 := below_of_eq hww6
                  clear hww6 qw6
                  have hcv6 := keep_cell hbw6 hcv
                  have hcu6 := keep_cell hbw6 hcu
                  clear hcv hcu
                  go_wp2
                  refine wp_region_more (by kernel_rfl) (by kernel_rfl) ?_
                  repeat (go_big_quiet_step (fail))
                  refine wpQuiet_nil ?_
                  rintro w7 ⟨qw7, hww7⟩
                  have hbw7 := below_of_eq hww7
                  clear hww7 qw7
                  clear hcv6 hcu6
                  have hbY := Below_trans' (Below_trans' hbi hbi.size hbw6) (Below_trans' hbi hbi.size hbw6).size hbw7
                  go_wp2
                  go_roundw
                  case rel => exact ⟨Y + 1, by omega, by go_num, congrArg (Value.int .i64) (by rw [hn.out]; try omega), hbY⟩
                  case measure => simp [intOf] <;> omega
                · have hne : ((X : Int) != (Y : Int)) = true := by simp; omega
                  have he' : ¬ m X Y = m Y X := fun e => he ⟨e, hxy⟩
                  clear he hxy
                  generalize m X Y = v at hcv hv hd1 he'
                  generalize m Y X = u at hcu hv hd2 he'
                  have d1 : decide (u < v) = false := decide_eq_false hv
                  have d2 : (v == u) = false := by simp; omega
                  go_upto_region 14 with fail
                  refine wp_region_more (by kernel_rfl) (by kernel_rfl) ?_
                  repeat (go_big_quiet_step (fail))
                  refine wpQuiet_nil ?_
                  rintro w6 ⟨qw6, hww6⟩
                  have hbw6 := below_of_eq hww6
                  clear hww6 qw6
                  have hcv6 := keep_cell hbw6 hcv
                  have hcu6 := keep_cell hbw6 hcu
                  clear hcv hcu
                  go_wp2
                  refine wp_region_more (by kernel_rfl) (by kernel_rfl) ?_
                  repeat (go_big_quiet_step (fail))
                  refine wpQuiet_nil ?_
                  rintro w7 ⟨qw7, hww7⟩
                  have hbw7 := below_of_eq hww7
                  clear hww7 qw7
                  clear hcv6 hcu6
                  have hbY := Below_trans' (Below_trans' hbi hbi.size hbw6) (Below_trans' hbi hbi.size hbw6).size hbw7
                  go_wp2
                  go_roundw
                  case rel => exact ⟨Y + 1, by omega, by go_num, congrArg (Value.int .i64) (by rw [hn.out]; try omega), hbY⟩
                  case measure => simp [intOf] <;> omega
          · obtain rfl : C = Y := by omega
            obtain ⟨wi, rfl⟩ : ∃ wi : World, wi = wr := ⟨_, rfl⟩
            have hT2 := hT.below hbi
            have hzi := hbr.size
            have hcf : Hid (copF m C (X : Int) = copP m X C) := rfl
            obtain ⟨a, ha⟩ : ∃ a : Nat, copP m X C = (a : Int) := ⟨(copP m X C).toNat, by omega⟩
            have hha : Hid (halfS (a : Int) = (false, (lowS a 2).1, (lowS a 2).2)) := rfl
            rw [ha] at hpb ⊢
            have Ha := hide ha
            clear ha
            obtain ⟨u', w', h41, hT3, hb3⟩ := hT2.app hbr hzi (a : Int) (by unfold I64; omega) (by rw [List.length_map, length_rangeI]; omega) 25
            obtain ⟨Au', cu', rfl⟩ := hT3.l.slice
            have hlu' : ((rangeI X).map (copF m C) ++ [(a : Int)]).length = X + 1 := by rw [List.length_append, List.length_map, length_rangeI]; rfl
            rw [hlu'] at hT3 h41
            go_upto_region 19 with (at_builtin; refine list_app rfl rfl rfl rfl h41 ?_)
            clear h41 p0
            have hof := rofd_any a 2 w' (by omega) (by omega) (by omega)
            rw [show ((2 : Nat) : Int) = 2 from rfl] at hof
            go_wp2_with fail
            refine hof.mono ?_
            rintro e w6 ⟨A1, n1, c1, A2, n2, c2, rfl, g1, g2, hb6, hf6⟩
            clear hof
            go_upto_region 20 with fail
            have hba : Below w6.heap.size w6 (w6.alloc (.cells #[.bool false, .slice A1 n1 c1, .slice A2 n2 c2] 51)) := below_allocN
            have hX := Has.new w6 51 #[.bool false, .slice A1 n1 c1, .slice A2 n2 c2]
            generalize World.alloc w6 _ = w7 at hba hX ⊢
            have x0 := hX.cell 0
            have x1 := hX.cell 1
            have x2 := hX.cell 2
            have hb37 := Below_trans' hb6 hb6.size hba
            obtain ⟨v', w8, h51, hT4, hb8⟩ := hT3.rat hb3 hb3.size hb37 (g1.below hba) (g2.below hba) hf6 (by rw [List.length_map, length_rangeI]; omega) 48
            have hP8 := hP3.below hb8 hP3.lt
            go_wp2_with (at_builtin; refine list_app rfl rfl rfl rfl h51 ?_)
            clear h51
            go_roundw
            case rel => exact ⟨X + 1, by omega, by go_num, by rw [rangeF_snoc, rangeI_snocG, hcf.out, Ha.out, hha.out]; exact hT4, hb8⟩
            case measure => simp [intOf] <;> omega
      · obtain rfl : C = X := by omega
        obtain ⟨hl, fp, hr, hfp, -⟩ := hT
        have hbw := Below_trans' hb03 hb03.size hb
        have hRo := hR3.below hb hR3.lt
        have hg3 : w.heap.size + 1 < w3.heap.size := hR3.lt
        have hI1 := hl.ints (fun y hy => by obtain ⟨a, ha, rfl⟩ := List.mem_map.1 hy; have := copP_bd m a.toNat C; unfold copF; omega)
        have hA2 := hr.reads
        rw [List.length_map, length_rangeI] at hI1 hA2
        rw [List.length_map, length_rangeI, List.length_map, length_rangeI]
        clear hl hr hfp
        go_wp2_with fail
        refine (rone_any Au C cu _ Av C cv _ At nt ct lot wo hI1 hA2 (h'.below hbw) hC1 hC10 Hlot.out).mono ?_
        rintro e w17 ⟨Be, me, de, Br, mr, dr, Bv, mv, dv, rfl, hO, hb17⟩
        clear p0
        rw [one_most (f := copF m C) (g := halfS) (C := C) (lot := lot)] at hO
        have hR17 := hRo.below hb17 hRo.lt
        have hO2 := hO.far hR17 (fun b hb hne => (frame3 w17 (w.heap.size + 1) (.slice Be me de) (.slice Br mr dr) (.slice Bv mv dv)).block b hb hne)
        have hbw17 := Below_trans' hbw hbw.size hb17
        have r0 := hR17.cell 0
        have r1 := hR17.cell 1
        have r2 := hR17.cell 2
        have f0 := hR17.free 0
        have f1 := hR17.free 1
        have f2 := hR17.free 2
        go_wp2
        refine retOut2 rfl rfl rfl (put3 hR17) rfl rfl ⟨Be, me, de, Br, mr, dr, Bv, mv, dv, by rw [hE0.out]; rfl, ?_, below3 hbw17 (by omega) _ _ _⟩
        rw [hro.out]
        exact hO2
  · have e1 : (mayS c k l 1 seats 1 lot != 0) = true := by simp [hE]
    have hro := hide (cmostR_bad (f := copF (ofR c k l) c.toNat) (g := halfS) hE)
    have q0 := hR1.cell 0
    have q1 := hR1.cell 1
    have q2 := hR1.cell 2
    have f0 := hR1.free 0
    have f1 := hR1.free 1
    have f2 := hR1.free 2
    go_wp2
    refine retOut2 rfl rfl rfl (put3 hR1) rfl rfl ⟨none, 0, 0, none, 0, 0, none, 0, 0, rfl, ?_, below3 hb01 (by omega) _ _ _⟩
    unfold copR
    rw [hro.out]
    exact ROut.nil_ _
set_option maxRecDepth 100000 in
set_option maxHeartbeats 4000000 in
theorem rminimax_any (c k : Int) (A : Option Addr) (n cp : Nat) (l : List Row) (seats : Int) (At : Option Addr) (nt ct : Nat) (lot : List Int) (w : World) (h : RRows w A n cp l) (h' : RInts w At nt ct lot) :
    Calls Tryz.prog 44 #[.agg #[.int .i64 c, .int .u8 k, .slice A n cp], .int .i64 seats, .slice At nt ct] w (OutPost w (minR c k l seats lot) (mayS c k l 1 seats 1 lot)) := by
  have hP0 : Has ((w.alloc (.cells #[.int .i64 c, .int .u8 k, .slice A n cp] 28)).alloc (.cells #[.slice none 0 0, .slice none 0 0, .slice none 0 0] 38)) w.heap.size 28 #[.int .i64 c, .int .u8 k, .slice A n cp] := (Has.new _ _ _).alloc _
  have hR0 : Has ((w.alloc (.cells #[.int .i64 c, .int .u8 k, .slice A n cp] 28)).alloc (.cells #[.slice none 0 0, .slice none 0 0, .slice none 0 0] 38)) (w.heap.size + 1) 38 #[.slice none 0 0, .slice none 0 0, .slice none 0 0] := Has.new2 _ _ _ _
  have hb0 : Below w.heap.size w ((w.alloc (.cells #[.int .i64 c, .int .u8 k, .slice A n cp] 28)).alloc (.cells #[.slice none 0 0, .slice none 0 0, .slice none 0 0] 38)) := ((Below.refl _ _).alloc (Nat.le_refl _) _).alloc (by simp) _
  go_enter Tryz.func44, Tryz.ntmps44
  go_upto_region 1 with fail
  generalize World.alloc (World.alloc w _) _ = W0 at hP0 hR0 hb0 ⊢
  have p0 := hP0.cell 0
  have p1 := hP0.cell 1
  have p2 := hP0.cell 2
  go_wp2_with fail
  refine (may_any c k A n cp l 1 seats 1 At nt ct lot W0 (h.below hb0) (h'.below hb0)).mono ?_
  rintro e w1 ⟨rfl, hb1⟩
  have hb01 := Below_trans' hb0 hb0.size hb1
  have hP1 := hP0.below hb1 hP0.lt
  have hR1 := hR0.below hb1 hR0.lt
  clear p0 p1 p2 hP0 hR0
  by_cases hE : mayS c k l 1 seats 1 lot = 0
  · have e1 : (mayS c k l 1 seats 1 lot != 0) = false := by simp [hE]
    obtain ⟨hc0, hk0, hs1, hs2, hs3, hlot⟩ := may_zero hE
    subst hk0
    have hcs := check_ok hc0
    obtain ⟨C, rfl⟩ : ∃ C : Nat, c = (C : Int) := ⟨c.toNat, by omega⟩
    have Hlot := hide hlot
    have hro := hide (show minR C 1 l seats lot = mostO (worF (ofR C 1 l) C) (fun n => wholeS (-n)) C lot from by have e := minR_ok hE; rw [Int.toNat_natCast] at e; exact e)
    have hE0 := hide hE
    have hC10 : C ≤ 10 := (rank_ok hc0).c10
    have hC1 : 1 ≤ C := (rank_ok hc0).c1
    have hrt := hide (ofR_right (k := 1) hc0 (c' := (10 : Int)) (by omega) (by omega))
    have hpo := rof10_any C 1 A n cp l w1 (h.below hb01)
    unfold POfPost at hpo
    rw [hc0] at hpo
    clear hcs hE hc0 hlot
    have p0 := hP1.cell 0
    have p1 := hP1.cell 1
    have p2 := hP1.cell 2
    go_wp2_with fail
    refine hpo.mono ?_
    rintro e w2 ⟨D, rfl, hD, hb2⟩
    clear hpo p0 p1 p2
    have hDs := hD.size
    have hb02 := Below_trans' hb01 hb01.size hb2
    have hZ2 : Has (w2.alloc (.cells Tryz.zeroCells24 24)) w2.heap.size 24 Tryz.zeroCells24 := Has.new _ _ _
    have hM3 : Has ((w2.alloc (.cells Tryz.zeroCells24 24)).setRow w2.heap.size D) w2.heap.size 24 D := hZ2.setRow _
    have hb23 : Below w2.heap.size w2 ((w2.alloc (.cells Tryz.zeroCells24 24)).setRow w2.heap.size D) := below_setRow ((Below.refl _ _).alloc (Nat.le_refl _) _) (Nat.le_refl _) _
    go_upto_region 5 with (refine stMat rfl rfl rfl rfl hZ2 zeroMat.size hDs hD.one ?_)
    generalize World.setRow (World.alloc w2 _) _ _ = w3 at hM3 hb23 ⊢
    clear hZ2
    have hb03 := Below_trans' hb02 hb02.size hb23
    have hb13 := Below_trans' hb2 hb2.size hb23
    have hP3 := hP1.below hb13 hP1.lt
    have hR3 := hR1.below hb13 hR1.lt
    have Hbd := hide (fun (X Y : Nat) (hX : X < 10) (hY : Y < 10) => rightS_ten hrt.out hX hY)
    generalize ofR (C : Int) 1 l = m at *
    have hgm : Hid (w2.heap.size < w3.heap.size) := hM3.lt
    clear hP1 hR1 hb1 hb0 hb01 hb02 hb13 hb23 hb2
    go_upto_region 8 with fail
    have Hwb := hide (fun (X : Nat) (hX : X < 10) (Y : Nat) (hY : Y ≤ 10) => worP_bd (right_bd hrt.out) hX hY)
    go_loopw [11, 12, 13] (fun u v i wr => ∃ X : Nat, X ≤ C ∧ i = .int .i64 X ∧ Both wr w3.heap.size u v ((rangeI X).map (worF m C)) ((rangeI X).map fun y => wholeS (-(worF m C y))) ∧ Below w3.heap.size w3 wr) (fun u v i _ => C - (intOf i).toNat)
    case atStart => exact ⟨0, Nat.zero_le _, rfl, Both.nil_ _ _, Below.refl _ _⟩
    case round =>
      obtain ⟨X, hX, rfl, hT, hb⟩ := hrel
      obtain ⟨wo, rfl⟩ : ∃ wo : World, wo = wr := ⟨_, rfl⟩
      have hPo := hP3.below hb hP3.lt
      have p0 := hPo.cell 0
      obtain ⟨Au, cu, rfl⟩ := hT.l.slice
      obtain ⟨Av, cv, rfl⟩ := hT.sliceR
      by_cases hXC : X < C
      · rw [List.length_map, length_rangeI, List.length_map, length_rangeI] at hT ⊢
        go_upto_region 12 with fail
        clear p0
        go_loopw [14, 15] (fun v i wr => ∃ Y : Nat, Y ≤ C ∧ i = .int .i64 Y ∧ v = .int .i64 (-(worP m X Y)) ∧ Below wo.heap.size wo wr) (fun v i _ => C - (intOf i).toNat)
        case atStart => exact ⟨0, Nat.zero_le _, rfl, rfl, Below.refl _ _⟩
        case round =>
          obtain ⟨Y, hY, rfl, rfl, hbi⟩ := hrel
          have hPr := hPo.below hbi hPo.lt
          have p0 := hPr.cell 0
          have hbr := Below_trans' hb hb.size hbi
          have hpb := Hwb.out X (by omega) Y (by omega)
          by_cases hYC : Y < C
          · have hX10 : X < 10 := by omega
            have hY10 : Y < 10 := by omega
            have b1 : (X : Int) < 10 := by omega
            have b2 : (Y : Int) < 10 := by omega
            have hMr := hM3.below hbr hgm.out
            have hcv := (hMr.cell (X * 10 + Y)).trans (hD.at_ X Y hX10 hY10)
            have hcu := (hMr.cell (Y * 10 + X)).trans (hD.at_ Y X hY10 hX10)
            have hd1 := Hbd.out X Y hX10 hY10
            have hd2 := Hbd.out Y X hY10 hX10
            have hsc := hide (worP_succ m X Y)
            generalize worP m X Y = q at hsc hpb ⊢
            generalize m X Y = v at hcv hd1 hsc
            generalize m Y X = u at hcu hd2 hsc
            go_upto_region 14 with fail
            refine wp_region_more (by kernel_rfl) (by kernel_rfl) ?_
            repeat (go_big_quiet_step (fail))
            refine wpQuiet_nil ?_
            rintro w6 ⟨qw6, hww6⟩
            have hbw6 := below_of_eq hww6
            clear hww6 qw6
            clear hcv hcu
            have hbY := Below_trans' hbi hbi.size hbw6
            go_wp2
            go_roundw
            case rel => exact ⟨Y + 1, by omega, by go_num, congrArg (Value.int .i64) (by rw [hsc.out]; omega), hbY⟩
            case measure => simp [intOf] <;> omega
          · obtain rfl : C = Y := by omega
            obtain ⟨wi, rfl⟩ : ∃ wi : World, wi = wr := ⟨_, rfl⟩
            have hT2 := hT.below hbi
            have hzi := hbr.size
            obtain ⟨a, ha⟩ : ∃ a : Nat, -(worP m X C) = (a : Int) := ⟨(-(worP m X C)).toNat, by omega⟩
            have hcf : Hid (worF m C (X : Int) = -(a : Int)) := by
              have e : worF m C (X : Int) = worP m X C := rfl
              unfold Hid; rw [e]; omega
            have hha : Hid (wholeS (- -(a : Int)) = (false, lm (a : Int), [1])) := by unfold Hid; rw [Int.neg_neg]; rfl
            have haz : a ≤ 1000000 := by omega
            rw [ha]
            clear ha hpb
            obtain ⟨u', w', h41, hT3, hb3⟩ := hT2.app hbr hzi (-(a : Int)) (by unfold I64; omega) (by rw [List.length_map, length_rangeI]; omega) 25
            obtain ⟨Au', cu', rfl⟩ := hT3.l.slice
            have hlu' : ((rangeI X).map (worF m C) ++ [-(a : Int)]).length = X + 1 := by rw [List.length_append, List.length_map, length_rangeI]; rfl
            rw [hlu'] at hT3 h41
            go_upto_region 16 with (at_builtin; refine list_app rfl rfl rfl rfl h41 ?_)
            clear h41 p0
            go_wp2_with fail
            refine (rwhole_any (a : Int) w' (by omega) (by omega)).mono ?_
            rintro e w6 ⟨A1, n1, c1, A2, n2, c2, rfl, g1, g2, hb6, hf6⟩
            obtain ⟨v', w8, h51, hT4, hb8⟩ := hT3.rat hb3 hb3.size hb6 g1 g2 hf6 (by rw [List.length_map, length_rangeI]; omega) 48
            have hP8 := hP3.below hb8 hP3.lt
            go_wp2_with (at_builtin; refine list_app rfl rfl rfl rfl h51 ?_)
            clear h51
            go_roundw
            case rel => exact ⟨X + 1, by omega, by go_num, by rw [rangeF_snoc, rangeI_snocG, hcf.out, hha.out]; exact hT4, hb8⟩
            case measure => simp [intOf] <;> omega
      · obtain rfl : C = X := by omega
        obtain ⟨hl, fp, hr, hfp, -⟩ := hT
        have hbw := Below_trans' hb03 hb03.size hb
        have hRo := hR3.below hb hR3.lt
        have hg3 : w.heap.size + 1 < w3.heap.size := hR3.lt
        have hI1 := hl.ints (fun y hy => by obtain ⟨a, ha, rfl⟩ := List.mem_map.1 hy; have hm := mem_rangeI.1 ha; have := Hwb.out a.toNat (by omega) C hC10; unfold worF; omega)
        have hA2 := hr.reads
        rw [List.length_map, length_rangeI] at hI1 hA2
        rw [List.length_map, length_rangeI, List.length_map, length_rangeI]
        clear hl hr hfp
        go_wp2_with fail
        refine (rone_any Au C cu _ Av C cv _ At nt ct lot wo hI1 hA2 (h'.below hbw) hC1 hC10 Hlot.out).mono ?_
        rintro e w17 ⟨Be, me, de, Br, mr, dr, Bv, mv, dv, rfl, hO, hb17⟩
        clear p0
        rw [one_most (f := worF m C) (g := (fun n => wholeS (-n))) (C := C) (lot := lot)] at hO
        have hR17 := hRo.below hb17 hRo.lt
        have hO2 := hO.far hR17 (fun b hb hne => (frame3 w17 (w.heap.size + 1) (.slice Be me de) (.slice Br mr dr) (.slice Bv mv dv)).block b hb hne)
        have hbw17 := Below_trans' hbw hbw.size hb17
        have r0 := hR17.cell 0
        have r1 := hR17.cell 1
        have r2 := hR17.cell 2
        have f0 := hR17.free 0
        have f1 := hR17.free 1
        have f2 := hR17.free 2
        go_wp2
        refine retOut2 rfl rfl rfl (put3 hR17) rfl rfl ⟨Be, me, de, Br, mr, dr, Bv, mv, dv, by rw [hE0.out]; rfl, ?_, below3 hbw17 (by omega) _ _ _⟩
        rw [hro.out]
        exact hO2
  · have e1 : (mayS c k l 1 seats 1 lot != 0) = true := by simp [hE]
    have hro := hide (cmostR_bad (f := worF (ofR c k l) c.toNat) (g := (fun n => wholeS (-n))) hE)
    have q0 := hR1.cell 0
    have q1 := hR1.cell 1
    have q2 := hR1.cell 2
    have f0 := hR1.free 0
    have f1 := hR1.free 1
    have f2 := hR1.free 2
    go_wp2
    refine retOut2 rfl rfl rfl (put3 hR1) rfl rfl ⟨none, 0, 0, none, 0, 0, none, 0, 0, rfl, ?_, below3 hb01 (by omega) _ _ _⟩
    unfold minR
    rw [hro.out]
    exact ROut.nil_ _
end Go.Proofs.YtkhclcdmehjfkaaGreat
