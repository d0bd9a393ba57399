/-
  The law RunoffLoser.
-/
import Derived.Test.YtcmoekkaakkpjaaGreatSpecLo
import Derived.Test.YtcmoekkaakkpjaaGreatW12a
import Derived.Test.YtcmoekkaakkpjaaGreatW10f
import Derived.Test.YtcmoekkaakkpjaaGreatMem2
import Derived.Test.YtcmoekkaakkpjaaGreatL15m
import Derived.Deep.CutRange
namespace Go.Proofs.YtcmoekkaakkpjaaGreat
open Go.RowKit Go.Proofs Go.Shelf
attribute [local go_sem] cell?_more cell?_alloc_some cell?_setCell_far frozen?_alloc_some frozen?_more
attribute [local go_sem ↓] ldm_fold
attribute [local go_sem] run_LDM run_LDM_more run_LDM_drew

/-- Some other before t does not beat x. -/
def someS (M : M) (x : Int) (t : Nat) : Bool := (List.range t).any fun y => decide ((y : Int) ≠ x) && !decide (0 < marginS M y x)
theorem someS_succ (M : M) (x : Int) (t : Nat) : someS M x (t + 1) = (someS M x t || (decide ((t : Int) ≠ x) && !decide (0 < marginS M t x))) := by
  unfold someS; rw [List.range_succ, List.any_append]; simp
theorem margin_nat {m : M} {a b : Nat} (ha : a < 10) (hb : b < 10) (h : rightS m 10 = true) : marginS m a b = m a b - m b a := by
  unfold marginS
  rw [if_pos ⟨inR_iff.2 ⟨by omega, by omega⟩, inR_iff.2 ⟨by omega, by omega⟩, h⟩]
  rfl
theorem some_of {l : List Row} {C : Nat} {lot : List Int} (hc : checkS C 1 l = 0) (hr : RankOK l C) (hlot : lotS lot C = true) (h2 : 2 ≤ C) {x : Int} {rs : List Rnd} {ts : List Row} (h : countS l C lot C (rangeI C) [] [] = ([x], rs, ts)) (hx : 0 ≤ x ∧ x < C) :
    someS (ofR C 1 l) x C = true ∧ ∀ v, loneV (fun a b => ofR C 1 l b a) C = (v, true) → (x != v) = true := by
  obtain ⟨y, hy, hyx, hle⟩ := count_unbeaten hr hlot C (rangeI C) [] [] x rs ts (List.Sublist.refl _) (by rw [length_rangeI]; exact Nat.le_refl _) (by rw [length_rangeI]; exact h2) h
  have hyr := mem_rangeI.1 hy
  obtain ⟨X, rfl⟩ : ∃ X : Nat, x = X := ⟨x.toNat, by omega⟩
  rw [Int.toNat_natCast] at hle
  have hC10 := hr.c10
  have h1 : ofR C 1 l y X ≤ ofR C 1 l X y := by rw [ofR_eq hc, ofR_eq hc, if_pos ⟨by omega, by omega⟩, if_pos ⟨by omega, by omega⟩]; exact hle
  refine ⟨?_, fun v hv => ?_⟩
  · unfold someS
    rw [List.any_eq_true]
    refine ⟨y, List.mem_range.2 (by omega), ?_⟩
    rw [margin_nat (by omega) (by omega) (ofR_right hc (by omega) (by omega))]
    simp [hyx]
    omega
  · obtain ⟨_, V, rfl, hV, hall⟩ := lone_true hv
    simp only [bne_iff_ne, ne_eq]
    intro e
    obtain rfl : X = V := by omega
    have := hall y (by omega) (by omega)
    omega

set_option maxRecDepth 100000 in
set_option maxHeartbeats 4000000 in
theorem runoffLoser_any (c k : Int) (A : Option Addr) (n cp : Nat) (l : List Row) (At : Option Addr) (nt ct : Nat) (lot : List Int) (w : World) (h : RRows w A n cp l) (hl : RInts w At nt ct lot) :
    Calls Tryz.prog 12 #[.agg #[.int .i64 c, .int .u8 k, .slice A n cp], .slice At nt ct] w fun e w' => e = .returned (.bool true) ∧ Below w.heap.size w w' := by
  have hb : Below w.heap.size w (w.alloc (.cells #[.int .i64 c, .int .u8 k, .slice A n cp] 24)) := below_allocN
  have hP := Has.new w 24 #[.int .i64 c, .int .u8 k, .slice A n cp]
  generalize hW : World.alloc w _ = W0 at hb hP
  have p0 := hP.cell 0
  have p1 := hP.cell 1
  have p2 := hP.cell 2
  go_enter Tryz.func12, Tryz.ntmps12
  go_wp2_with fail
  try simp only [hW]
  clear hW
  refine (may15_any c k A n cp l At nt ct lot W0 (h.below hb) (hl.below hb)).mono ?_
  rintro e z0 ⟨rfl, hbz0⟩
  have hbw0 := Below_trans' hb hb.size hbz0
  replace hP := hP.below hbz0 hP.lt
  clear p0 p1 p2
  by_cases hE : mayS c k l 1 1 1 lot = 0
  · have e1 : (mayS c k l 1 1 1 lot == 0) = true := by simp [hE]
    obtain ⟨hc0, hk0, _, _, _, hlot⟩ := may_zero hE
    subst hk0
    have hcs := check_ok hc0
    obtain ⟨C, rfl⟩ : ∃ C : Nat, c = (C : Int) := ⟨c.toNat, by omega⟩
    have Rk := hide (rank_ok hc0)
    have Hlot := hide hlot
    have hro := hide (runO_ok hE)
    have hE0 := hide hE
    have hc00 := hide hc0
    have hC10 := (rank_ok hc0).c10
    have hC1 := (rank_ok hc0).c1
    have hnt : nt ≤ 10 := by have h1 := lot_len hlot; have h2 := hl.len; omega
    obtain ⟨x, hxm, rs, ts, hcx⟩ := count_el (l := l) hlot C (rangeI C) [] [] (List.Sublist.refl _) (by rw [length_rangeI]; exact Nat.le_refl _) (fun e => by have := congrArg List.length e; rw [length_rangeI] at this; simp at this; omega)
    have hxr := mem_rangeI.1 hxm
    have Hcx := hide hcx
    have hout : Hid (runO C 1 l 1 lot = ([x], rs, ts)) := by unfold Hid; rw [hro.out, Int.toNat_natCast]; exact hcx
    clear hcs hE hc0 hlot hcx hxm
    have p0 := hP.cell 0
    have p1 := hP.cell 1
    have p2 := hP.cell 2
    go_wp2_with fail
    refine (pcount_any C 1 A n cp l 1 At nt ct lot z0 (h.below hbw0) (hl.below hbw0) (by omega)).mono ?_
    rintro e z1 ⟨Ae, ne, ce, Ar, nr, cr, Av, nv, cv, rfl, hO, hbz1⟩
    rw [hout.out] at hO
    rw [hE0.out]
    have hne : ne = 1 := hO.1.len.symm
    subst hne
    clear p0 p1 p2
    go_upto_region 4 with fail
    have hbz2 : Below z1.heap.size z1 (z1.alloc (.cells #[.slice Ae 1 ce, .slice Ar nr cr, .slice Av nv cv] 33)) := below_allocN
    have hX := Has.new z1 33 #[.slice Ae 1 ce, .slice Ar nr cr, .slice Av nv cv]
    generalize World.alloc z1 _ = z2 at hbz2 hX ⊢
    have hb02 := Below_trans' hbz1 hbz1.size hbz2
    have hbw2 := Below_trans' hbw0 hbw0.size hb02
    have hP2 := hP.below hb02 hP.lt
    have hEl := hO.1.below hbz2
    have p0 := hP2.cell 0
    have p1 := hP2.cell 1
    have p2 := hP2.cell 2
    clear hO hP hbz1 hbz2 hb02
    go_wp2_with fail
    refine (pof_any C 1 A n cp l z2 (h.below hbw2)).mono ?_
    rintro e z3 ⟨R, rfl, hMat, hbz3⟩
    rw [hc00.out]
    clear p0 p1 p2
    go_upto_region 5 with (refine stMat rfl rfl rfl rfl (Has.new _ _ _) zeroMat.size hMat.size hMat.one ?_)
    have hM4 : Has ((z3.alloc (.cells Tryz.zeroCells72 72)).setRow z3.heap.size R) z3.heap.size 72 R := (Has.new _ _ _).setRow _
    have hbz4 : Below z3.heap.size z3 ((z3.alloc (.cells Tryz.zeroCells72 72)).setRow z3.heap.size R) := below_newRow (Below.refl _ _) (Nat.le_refl _) _ _
    generalize World.setRow _ _ _ = z4 at hM4 hbz4 ⊢
    have hb24 := Below_trans' hbz3 hbz3.size hbz4
    have hX4 := hX.below hb24 hX.lt
    have hP4 := hP2.below hb24 hP2.lt
    have hEl4 := hEl.below hb24
    have hbw4 := Below_trans' hbw2 hbw2.size hb24
    have p0 := hP4.cell 0
    have gd := good_of hM4 hMat.size
    have gc := cells_eq hM4
    clear hX hP2 hEl hbz3 hbz4 hb24
    go_wp2_with fail
    clear gd gc p0
    refine (loser_any R _ hMat C z4).mono ?_
    rintro e z5 ⟨rfl, hbz5⟩
    have hX5 := hX4.below hbz5 hX4.lt
    have hP5 := hP4.below hbz5 hP4.lt
    have hM5 := hM4.below hbz5 hM4.lt
    have hEl5 := hEl4.below hbz5
    have hbw5 := Below_trans' hbw4 hbw4.size hbz5
    have hRs := hMat.size
    clear hX4 hP4 hM4 hEl4
    by_cases h1 : C = 1
    · have f0 : ((C : Int) == 1) = true := by simp [h1]
      generalize hlv : loneV (fun x y => ofR (C : Int) 1 l y x) (C : Int) = lv
      clear hlv
      obtain ⟨lv, lo⟩ := lv
      dsimp only
      have q0 := hX5.cell 0
      have p0 := hP5.cell 0
      go_wp2
      clear q0 p0
      go_loopw [11, 12] (fun s i wr => ∃ t : Nat, t ≤ C ∧ i = .int .i64 t ∧ s = .bool true ∧ Below z5.heap.size z5 wr) (fun s i _ => C - (intOf i).toNat)
      case atStart => exact ⟨0, Nat.zero_le _, rfl, rfl, Below.refl _ _⟩
      case round =>
        obtain ⟨t, ht, rfl, rfl, hb⟩ := hrel
        have hXr := hX5.below hb hX5.lt
        have hMr := hM5.below hb hM5.lt
        have hPr := hP5.below hb hP5.lt
        have p0 := hPr.cell 0
        by_cases hlt : t < C
        · go_upto_region 12 with fail
          refine wp_region_more (by kernel_rfl) (by kernel_rfl) ?_
          repeat (go_big_quiet_step (fail))
          refine wpQuiet_nil ?_
          rintro w6 ⟨qw6, hww6⟩
          have hbw6 := below_of_eq hww6
          clear hww6 qw6
          go_wp2
          go_roundw
          case rel => exact ⟨t + 1, by omega, by go_num, rfl, Below_trans' hb hb.size hbw6⟩
          case measure => simp [intOf] <;> omega
        · have hbe := Below_trans' hbw5 hbw5.size hb
          cases lo
          · go_wp2_with fail
            refine (wakes15_any _).mono ?_
            rintro e w9 ⟨rfl, hb9⟩
            go_wp2
            go_ret
            exact ⟨rfl, Below_trans' hbe (hbe).size hb9⟩
          · go_wp2_with fail
            refine (wakes15_any _).mono ?_
            rintro e w9 ⟨rfl, hb9⟩
            go_wp2
            go_ret
            exact ⟨rfl, Below_trans' hbe (hbe).size hb9⟩
    · have f0 : ((C : Int) == 1) = false := by simp; omega
      obtain ⟨X, rfl⟩ : ∃ X : Nat, x = X := ⟨x.toNat, by omega⟩
      obtain ⟨hs1, hs2⟩ := some_of hc00.out Rk.out Hlot.out (by omega) Hcx.out ⟨by omega, by omega⟩
      generalize hlv : loneV (fun x y => ofR (C : Int) 1 l y x) (C : Int) = lv at *
      clear hlv
      obtain ⟨lv, lo⟩ := lv
      dsimp only
      have Hs1 := hide hs1
      have Hs2 : Hid (lo = true → ((X : Int) != lv) = true) := fun e => hs2 lv (by rw [e])
      clear hs1 hs2
      generalize ofR (C : Int) 1 l = M at *
      have q0 := hX5.cell 0
      have p0 := hP5.cell 0
      go_wp2
      clear q0 p0
      go_loopw [11, 12] (fun s i wr => ∃ t : Nat, t ≤ C ∧ i = .int .i64 t ∧ s = .bool (someS M (X : Int) t) ∧ Below z5.heap.size z5 wr) (fun s i _ => C - (intOf i).toNat)
      case atStart => exact ⟨0, Nat.zero_le _, rfl, rfl, Below.refl _ _⟩
      case round =>
        obtain ⟨t, ht, rfl, rfl, hb⟩ := hrel
        have hXr := hX5.below hb hX5.lt
        have hMr := hM5.below hb hM5.lt
        have hPr := hP5.below hb hP5.lt
        have p0 := hPr.cell 0
        obtain ⟨be, oe, xe, ee, hcx, _, hatx, _⟩ := (hEl5.below hb).step (show 0 < 1 by omega)
        cases ee
        obtain rfl : xe = (X : Int) := by simpa using hatx.out.symm
        simp only [Nat.add_zero] at hcx
        clear hatx
        have q0 := hXr.cell 0
        have hss := hide (someS_succ M (X : Int) t)
        by_cases hlt : t < C
        · cases hs : someS M (X : Int) t with
          | true =>
            have hn := hide (show someS M (X : Int) (t + 1) = true by rw [hss.out, hs]; rfl)
            clear hs
            go_upto_region 12 with fail
            refine wp_region_more (by kernel_rfl) (by kernel_rfl) ?_
            repeat (go_big_quiet_step (fail))
            refine wpQuiet_nil ?_
            rintro w6 ⟨qw6, hww6⟩
            have hbw6 := below_of_eq hww6
            clear hww6 qw6
            go_wp2
            go_roundw
            case rel => exact ⟨t + 1, by omega, by go_num, (by rw [hn.out]), Below_trans' hb hb.size hbw6⟩
            case measure => simp [intOf] <;> omega
          | false =>
            by_cases htx : t = X
            · have hn := hide (show someS M (X : Int) (t + 1) = false by rw [hss.out, hs]; simp [htx])
              have f1 : ((t : Int) != (X : Int)) = false := by simp [htx]
              clear hs htx
              go_upto_region 12 with fail
              refine wp_region_more (by kernel_rfl) (by kernel_rfl) ?_
              repeat (go_big_quiet_step (fail))
              refine wpQuiet_nil ?_
              rintro w6 ⟨qw6, hww6⟩
              have hbw6 := below_of_eq hww6
              clear hww6 qw6
              go_wp2
              go_roundw
              case rel => exact ⟨t + 1, by omega, by go_num, (by rw [hn.out]), Below_trans' hb hb.size hbw6⟩
              case measure => simp [intOf] <;> omega
            · have f1 : ((t : Int) != (X : Int)) = true := by simp; omega
              have hne : ((t : Int) ≠ (X : Int)) := by omega
              generalize hgm : decide (0 < marginS M t (X : Int)) = bm at hss
              have hn := hide (show someS M (X : Int) (t + 1) = !bm by rw [hss.out, hs]; simp [hne])
              have hbt := fun W => beats_any R M hMat t (X : Int) W
              rw [hgm] at hbt
              have Hbt := hide hbt
              clear hs htx hne hgm hbt
              have gd := good_of hMr hRs
              have gc := cells_eq hMr
              go_upto_region 12 with fail
              refine wp_region_more (by kernel_rfl) (by kernel_rfl) ?_
              repeat (go_big_quiet_step (((with_reducible exact more_of (Hbt.out _)))))
              refine wpQuiet_nil ?_
              rintro w6 ⟨qw6, hww6⟩
              have hbw6 := below_of_eq hww6
              clear hww6 qw6
              clear gd gc
              go_wp2
              go_roundw
              case rel => exact ⟨t + 1, by omega, by go_num, (by rw [hn.out]), Below_trans' hb hb.size hbw6⟩
              case measure => simp [intOf] <;> omega
        · have hbe := Below_trans' hbw5 hbw5.size hb
          obtain rfl : C = t := by omega
          rw [Hs1.out]
          cases lo
          · go_wp2_with fail
            refine (wakes15_any _).mono ?_
            rintro e w9 ⟨rfl, hb9⟩
            go_wp2
            go_ret
            exact ⟨rfl, Below_trans' hbe (hbe).size hb9⟩
          · have f2 : ((X : Int) != lv) = true := Hs2.out rfl
            go_wp2_with fail
            refine (wakes15_any _).mono ?_
            rintro e w9 ⟨rfl, hb9⟩
            go_wp2
            go_ret
            exact ⟨rfl, Below_trans' hbe (hbe).size hb9⟩
  · have e1 : (mayS c k l 1 1 1 lot == 0) = false := by simp [hE]
    clear hE
    go_wp2_with fail
    refine (wakes15_any _).mono ?_
    rintro e w9 ⟨rfl, hb9⟩
    go_wp2
    go_ret
    exact ⟨rfl, Below_trans' hbw0 (hbw0).size hb9⟩
end Go.Proofs.YtcmoekkaakkpjaaGreat
