/-
  The reference of chapter 20: votes, divisor methods.
-/
import Derived.Test.YtiebfalodelclaaGreatW20a
import Derived.Test.YtiebfalodelclaaGreatW20b
import Derived.Test.YtiebfalodelclaaGreatW20c
import Derived.Test.YtiebfalodelclaaGreatW13b
namespace Go.Proofs.YtiebfalodelclaaGreat
open Go.RowKit Go.Proofs Go.Shelf
attribute [local go_sem] cell?_more cell?_alloc_some cell?_setCell_far frozen?_alloc_some frozen?_more
theorem rdiv_any (r s : Nat) (w : World) (hr : r ≤ 1) (hs : s ≤ 1000) : Calls Tryz.prog 64 #[.int .i64 r, .int .i64 s] w fun e w' => e = .returned (.int .i64 (dvS r s)) ∧ w = w' := by
  obtain rfl | rfl : r = 0 ∨ r = 1 := by omega
  · go_enter Tryz.func64, Tryz.ntmps64
    go_wp2
    go_ret
    exact ⟨rfl, rfl⟩
  · go_enter Tryz.func64, Tryz.ntmps64
    go_wp2
    go_ret
    exact ⟨rfl, rfl⟩

set_option maxRecDepth 100000 in
set_option maxHeartbeats 1000000 in
theorem rvotes20_any (C : Nat) (k : Int) (A : Option Addr) (n cp : Nat) (l : List Row) (w : World) (h : RRows w A n cp l) (hm : MarkOK l C) :
    Calls Tryz.prog 32 #[.agg #[.int .i64 C, .int .u8 k, .slice A n cp]] w (VotPost w l C) := by
  have hl := hide h.len
  have hle := h.le
  have hroom := hide (fun t z => vot_room hm t z)
  have hone := hide hm.one
  have hC10 := hm.c10
  clear hm
  have hb0 : Below w.heap.size w (w.alloc (.cells #[.int .i64 C, .int .u8 k, .slice A n cp] 24)) := (Below.refl _ _).alloc (Nat.le_refl _) _
  have hH0 := Has.new w 24 #[.int .i64 C, .int .u8 k, .slice A n cp]
  have hmk := run_make_row' (P := Tryz.prog) 25 3 (.int .i64 0) 8 Tryz.underlying25 info3 rfl .i64 .i64 C (by omega) (by omega)
  generalize hW : World.alloc w _ = W0 at hb0 hH0
  have hM := Own.made W0 w.heap.size C hb0.size (by omega)
  have hbM : Below W0.heap.size W0 (W0.alloc (.cells (madeCells #[.int .i64 0] C) 3)) := (Below.refl _ _).alloc (Nat.le_refl _) _
  have hH1 := hH0.below hbM hH0.lt
  have hb1 := Below_trans' hb0 hb0.size hbM
  have s0 := hH0.cell 0
  have hg1 : w.heap.size < W0.heap.size := hH0.lt
  go_enter Tryz.func32, Tryz.ntmps32
  go_wp2
  try simp only [hW]
  clear hW s0
  generalize hW1 : World.alloc W0 _ = W1 at hM hbM hH1 hb1 ⊢
  clear hW1
  generalize W0.heap.size = g at hM hbM hg1 ⊢
  go_loopw [5, 6] (fun lost i wr => ∃ t : Nat, t ≤ n ∧ i = .int .i64 t ∧ lost = .int .i64 (losV (l.take t)) ∧ Own wr w.heap.size (.slice (some ⟨g, 0, none⟩) C C) (votV (l.take t) C) ∧ Has wr w.heap.size 24 #[.int .i64 C, .int .u8 k, .slice A n cp] ∧ Below w.heap.size w wr) (fun lost i _ => n - (intOf i).toNat)
  case atStart => exact ⟨0, Nat.zero_le _, rfl, rfl, by rw [List.take_zero, votV_nil]; exact hM, hH1, hb1⟩
  case round =>
    obtain ⟨t, ht, rfl, rfl, hO, hH, hb⟩ := hrel
    obtain ⟨wo, rfl⟩ : ∃ wo : World, wo = wr := ⟨_, rfl⟩
    have hz := hb.size
    have s2 := hH.cell 2
    by_cases hlt : t < n
    · obtain ⟨b, off, Am, nm, cm, ms, y, rfl, hc0, hRm, hc1, _, hat, hy0, hy1⟩ := (h.below hb).step hlt
      have hlen : (votV (l.take t) C).length = C := length_votV _ _
      have hgw : g < wo.heap.size := (Own.own_lt hO rfl).2
      have Hat := hide hat
      have hmt := hide (List.mem_of_getElem? hat.out)
      have hnm := hRm.len
      clear hat
      by_cases h1 : nm = 1
      · obtain ⟨v, hv⟩ : ∃ v, ms = [v] := List.length_eq_one_iff.1 (by omega)
        subst hv
        subst h1
        have hvr := hone.out _ hmt.out v rfl
        obtain ⟨X, rfl⟩ : ∃ X : Nat, v = (X : Int) := ⟨v.toNat, by omega⟩
        have hlm := hide (losV_hit Hat.out.out)
        have hhm := hide (votV_hit (C := C) Hat.out.out)
        have hro := hroom.out t (X : Int)
        have hro2 := hroom.out (t + 1) (X : Int)
        have hxs := hide (votX_one Hat.out.out (X : Int))
        rw [hxs.out, if_pos rfl] at hro2
        have hXg := hide (get_votV (l.take t) (show X < C by omega))
        obtain ⟨b3, off3, v3, rfl, hc3, _, hat3, _⟩ := hRm.step (show 0 < 1 by omega)
        obtain rfl : (X : Int) = v3 := by simpa using hat3.out
        simp only [Nat.add_zero] at hc3
        obtain ⟨u, hu, hcu, hfu⟩ := hO.at hlen (show X < C by omega)
        obtain rfl : votX (l.take t) (X : Int) = u := by have := hu.out; rw [hXg.out] at this; exact Option.some.inj this
        clear hat3 hu
        go_upto_region 7 with fail
        refine wp_region_more_tail 13 (by kernel_rfl) (by kernel_rfl) ?_
        simp only [List.take]
        repeat (go_big_quiet_step (fail))
        refine wpQuiet_nil ?_
        rintro w2 ⟨qq, hw2⟩
        have hb2 := below_of_eq hw2
        clear hw2 qq
        have hO2 := hO.below hb2
        have hH2 := hH.below hb2 hH.lt
        obtain ⟨u2, hu2, hcu2, hfu2⟩ := hO2.at hlen (show X < C by omega)
        have hbf := Below_trans' hb hz hb2
        clear hcu hfu s2 hc0 hc1 hc3 hu2 hlen
        go_wp2
        go_roundw
        case rel => exact ⟨t + 1, by omega, by go_num, by rw [hlm.out], by rw [hhm.out]; exact hO2.set (length_votV _ _) X _, hH2.far (p := ⟨g, X, none⟩) (by show w.heap.size ≠ g; omega) _, hbf.setCell (p := ⟨g, X, none⟩) (Nat.le_of_lt hg1) _⟩
        case measure => simp [intOf] <;> omega
      · have hne : ms.length ≠ 1 := by omega
        have hlm := hide (losV_miss Hat.out.out hne)
        have hhm := hide (votV_miss (C := C) Hat.out.out hne)
        have hro := hroom.out t 0
        have hro2 := hroom.out (t + 1) 0
        rw [hlm.out] at hro2
        have f1 : ((nm : Int) == 1) = false := by rw [beq_eq_false_iff_ne]; omega
        clear hne hnm
        go_wp2
        go_roundw
        case rel => exact ⟨t + 1, by omega, by go_num, by rw [hlm.out], by rw [hhm.out]; exact hO, hH, hb⟩
        case measure => simp [intOf] <;> omega
    · have e : Hid (l.take t = l) := List.take_of_length_le (by rw [hl.out]; omega)
      rw [e.out] at hO ⊢
      go_wp2
      go_ret2
      exact ⟨_, rfl, hO, hb⟩

/-- Is x's next quotient the greatest among the first Y? -/
def allD (had : List Int) (r : Nat) (el : List Int) (x : Int) (Y : Nat) : Bool := (rangeI Y).all fun y => leD had r el y x
theorem allD_succ (had : List Int) (r : Nat) (el : List Int) (x : Int) (Y : Nat) : allD had r el x (Y + 1) = (allD had r el x Y && leD had r el (Y : Int) x) := by unfold allD; rw [rangeI_succ, List.all_append]; simp
def topU (had : List Int) (r C : Nat) (el : List Int) (X : Nat) : List Int := (rangeI X).filter fun x => allD had r el x C
theorem topU_succ (had : List Int) (r C : Nat) (el : List Int) (X : Nat) : topU had r C el (X + 1) = topU had r C el X ++ if allD had r el (X : Int) C = true then [(X : Int)] else [] := by
  unfold topU
  rw [rangeI_succ, List.filter_append]
  congr 1
  simp only [List.filter_cons, List.filter_nil]
theorem topU_end (had : List Int) (r C : Nat) (el : List Int) : topU had r C el C = topD had r C el := rfl
theorem length_topU (had : List Int) (r C : Nat) (el : List Int) (X : Nat) : (topU had r C el X).length ≤ X := Nat.le_trans (List.length_filter_le _ _) (by rw [length_rangeI]; exact Nat.le_refl _)
/-- What the reference hands back: seats, ties. -/
def RSeat (w : World) (s : List Int × List Row) (e : Ending) (w' : World) : Prop :=
  ∃ vo vt fp, e = .returned (.tuple #[vo, vt]) ∧ Own w' w.heap.size vo s.1 ∧ OAgg ETie 66 2 fp w' w.heap.size vt s.2 ∧ (∀ b, fp b → w.heap.size ≤ b) ∧ Below w.heap.size w w'
/-- While the reference gives seats. -/
def RIn (w : World) (gg : Nat) (C : Nat) (s : List Int × List Row) (vo vt : Value) (wr : World) : Prop :=
  ∃ fp, Own wr w.heap.size vo s.1 ∧ OAgg ETie 66 2 fp wr w.heap.size vt s.2 ∧ (∀ b, fp b → w.heap.size ≤ b ∧ b ≠ gg) ∧ Own wr w.heap.size (.slice (some ⟨gg, 0, none⟩) C C) (gotV s.1 C) ∧ (∀ b, vo.ownBlock = some b → ¬ fp b ∧ vt.ownBlock ≠ some b ∧ b ≠ gg) ∧ vt.ownBlock ≠ some gg ∧ Below w.heap.size w wr
set_option maxRecDepth 100000 in
set_option maxHeartbeats 2000000 in
theorem rdivisors_any (r : Nat) (hr : r ≤ 1) (Al : Option Addr) (nl cl : Nat) (lot : List Int) (A : Option Addr) (C c : Nat) (had : List Int) (n : Nat) (w : World)
    (hL : RInts w Al nl cl lot) (hH : RInts w A C c had) (hC1 : 1 ≤ C) (hC10 : C ≤ 10) (hn : n ≤ 10) (hla : LotAll lot C) (hbd : ∀ x, 0 ≤ getI had x ∧ getI had x ≤ 1000000) :
    Calls Tryz.prog 34 #[.int .i64 r, .slice A C c, .int .i64 n, .slice Al nl cl] w (RSeat w (divS had r C lot n)) := by
  have hmk := run_make_row' (P := Tryz.prog) 25 3 (.int .i64 0) 8 Tryz.underlying25 info3 rfl .i64 .i64 C (by omega) (by omega)
  have Hla := hide hla
  have Hbd := hide hbd
  clear hla hbd
  have hG1 := Own.made w w.heap.size C (Nat.le_refl _) (by omega)
  have hb1 : Below w.heap.size w (w.alloc (.cells (madeCells #[.int .i64 0] C) 3)) := below_allocN
  go_enter Tryz.func34, Tryz.ntmps34
  go_upto_region 4 with fail
  obtain ⟨gg, hgg⟩ : ∃ gg, gg = w.heap.size := ⟨_, rfl⟩
  rw [show (Value.slice (some ⟨w.heap.size, 0, none⟩) C C) = .slice (some ⟨gg, 0, none⟩) C C by rw [hgg]] at hG1 ⊢
  generalize World.alloc w _ = W1 at hG1 hb1 ⊢
  clear hmk hgg
  go_wp2
  go_loopw [10, 11, 13] (fun u v i wr => ∃ t : Nat, t ≤ n ∧ i = .int .i64 t ∧ RIn w gg C (divS had r C lot t) u v wr) (fun u v i _ => n - (intOf i).toNat)
  case atStart => exact ⟨0, Nat.zero_le _, rfl, fun _ => False, Own.nil_ _ _, OAgg.nil_ _ _ _ _ _, fun _ h => h.elim, by rw [show (divS had r C lot 0).1 = [] from rfl, gotV_nil]; exact hG1, fun b h => (by cases h), fun h => (by cases h), hb1⟩
  case round =>
    clear hG1 hb1
    obtain ⟨t, ht, rfl, fp, hO, hT, hfp, hW, hap, hvg, hb⟩ := hrel
    obtain ⟨wo, rfl⟩ : ∃ wo : World, wo = wr := ⟨_, rfl⟩
    have hsz := hb.size
    have hlen := length_divS had r C lot t
    have htl := ties_le had r C lot t
    have Hdr := hide (fun x (hx : x ∈ (divS had r C lot t).1) => divS_rng hC1 Hla.out t x hx)
    have Hnx := hide (show divS had r C lot (t + 1) = ((divS had r C lot t).1 ++ [frstS lot (topD had r C (divS had r C lot t).1)], tiedS (divS had r C lot t).2 (topD had r C (divS had r C lot t).1) (frstS lot (topD had r C (divS had r C lot t).1))) from rfl)
    have Hfp := hide hfp
    have Hap := hide hap
    have Hvg := hide hvg
    clear hfp hap hvg
    by_cases hlt : t < n
    · generalize divS had r C lot t = s at *
      obtain ⟨el, ts⟩ := s
      dsimp only at *
      obtain ⟨Ao, co, rfl⟩ := hO.slice
      obtain ⟨Av, cv, rfl⟩ := hT.slice
      rw [hlen] at hO Hap ⊢
      have hHo := hH.below hb
      have hgo := hW.ints (fun y hy => by
        obtain ⟨i, _, rfl⟩ := List.mem_map.1 hy
        have := List.count_le_length (a := (i : Int)) (l := el)
        omega)
      have Hcl := hide (fun x : Int => List.count_le_length (a := x) (l := el))
      go_wp2
      go_loopw [14, 15] (fun v i wr => ∃ X : Nat, X ≤ C ∧ i = .int .i64 X ∧ Own wr wo.heap.size v (topU had r C el X) ∧ Below wo.heap.size wo wr) (fun v i _ => C - (intOf i).toNat)
      case atStart => exact ⟨0, Nat.zero_le _, rfl, Own.nil_ _ _, Below.refl _ _⟩
      case round =>
        obtain ⟨X, hX, rfl, hU, hbX⟩ := hrel
        obtain ⟨wx, rfl⟩ : ∃ wx : World, wx = wr := ⟨_, rfl⟩
        have hzX := hbX.size
        have hlU := length_topU had r C el X
        by_cases hXC : X < C
        · have hsU := hide (topU_succ had r C el X)
          go_wp2
          go_loopw [16, 17] (fun m i wr => ∃ (Y : Nat) (B : Bool), Y ≤ C ∧ i = .int .i64 Y ∧ m = .bool B ∧ Hid (B = allD had r el (X : Int) Y) ∧ Below wx.heap.size wx wr) (fun m i _ => C - (intOf i).toNat)
          case atStart => exact ⟨0, true, Nat.zero_le _, rfl, rfl, rfl, Below.refl _ _⟩
          case round =>
            obtain ⟨Y, B, hY, rfl, rfl, hB, hbY⟩ := hrel
            by_cases hYC : Y < C
            · have hsB := hide (allD_succ had r el (X : Int) Y)
              cases B with
              | false =>
                have Hs : Hid (allD had r el (X : Int) (Y + 1) = false) := by unfold Hid; rw [hsB.out, ← hB.out]; rfl
                go_wp2
                refine wp_region_more (by kernel_rfl) (by kernel_rfl) ?_
                repeat (go_big_quiet_step (fail))
                refine wpQuiet_nil ?_
                rintro w5 ⟨qw5, hww5⟩
                have hbw5 := below_of_eq hww5
                clear hww5 qw5
                go_wp2
                go_roundw
                case rel => exact ⟨Y + 1, false, by omega, by go_num, rfl, Hs.out.symm, Below_trans' hbY hbY.size hbw5⟩
                case measure => simp [intOf] <;> omega
              | true =>
                have hbf := Below_trans' hbX hzX hbY
                obtain ⟨b1, off1, x1, e1, c1, _, hat1, _⟩ := (hHo.below hbf).step hXC
                obtain ⟨b2, off2, y1, e2, c2, _, hat2, _⟩ := (hHo.below hbf).step hYC
                obtain ⟨b3, off3, g1, e3, c3, _, hat3, _⟩ := (hgo.below hbf).step hXC
                obtain ⟨b4, off4, g2, e4, c4, _, hat4, _⟩ := (hgo.below hbf).step hYC
                cases e1; cases e2; cases e3; cases e4
                rw [Nat.zero_add] at c3 c4
                obtain rfl : g1 = (((el.count (X : Int) : Nat)) : Int) := by have := hat3.out; rw [get_gotV _ hXC] at this; exact (Option.some.inj this).symm
                obtain rfl : g2 = (((el.count (Y : Int) : Nat)) : Int) := by have := hat4.out; rw [get_gotV _ hYC] at this; exact (Option.some.inj this).symm
                have hx := getI_of hat1.out
                have hy := getI_of hat2.out
                have bx := Hbd.out (X : Int)
                have bY := Hbd.out (Y : Int)
                rw [hx] at bx
                rw [hy] at bY
                have Hs : Hid (allD had r el (X : Int) (Y + 1) = decide (y1 * dvS r (el.count (X : Int)) ≤ x1 * dvS r (el.count (Y : Int)))) := by unfold Hid; rw [hsB.out, ← hB.out, Bool.true_and]; unfold leD; rw [hx, hy]
                have hcx := Hcl.out (X : Int)
                have hcy := Hcl.out (Y : Int)
                clear hat1 hat2 hat3 hat4 hx hy hsB
                generalize el.count (X : Int) = cx at *
                generalize el.count (Y : Int) = cy at *
                have hq1 : ∀ q, Calls Tryz.prog 64 #[.int .i64 r, .int .i64 cx] (More wr q) fun e w'' => e = .returned (.int .i64 (dvS r cx)) ∧ ∃ q', w'' = More wr q' := fun q => more_same (rdiv_any r cx _ hr (by omega))
                have hq2 : ∀ q, Calls Tryz.prog 64 #[.int .i64 r, .int .i64 cy] (More wr q) fun e w'' => e = .returned (.int .i64 (dvS r cy)) ∧ ∃ q', w'' = More wr q' := fun q => more_same (rdiv_any r cy _ hr (by omega))
                have dv : ∀ s : Nat, s ≤ 10 → 0 ≤ dvS r s ∧ dvS r s ≤ 100 := fun s hs => by unfold dvS; split <;> omega
                have dx := dv cx (by omega)
                have dy := dv cy (by omega)
                clear dv
                generalize dvS r cx = p at *
                generalize dvS r cy = q at *
                have m1 : 0 ≤ x1 * q ∧ x1 * q ≤ 1000000000 := ⟨Int.mul_nonneg bx.1 dy.1, Int.le_trans (Int.mul_le_mul bx.2 dy.2 dy.1 (by omega)) (by omega)⟩
                have m2 : 0 ≤ y1 * p ∧ y1 * p ≤ 1000000000 := ⟨Int.mul_nonneg bY.1 dx.1, Int.le_trans (Int.mul_le_mul bY.2 dx.2 dx.1 (by omega)) (by omega)⟩
                go_wp2
                refine wp_region_more (by kernel_rfl) (by kernel_rfl) ?_
                repeat (go_big_quiet_step (with_reducible first | exact hq1 _ | exact hq2 _))
                refine wpQuiet_nil ?_
                rintro w5 ⟨q5, hw5⟩
                have hbw5 := below_of_eq hw5
                clear hw5 q5 hq1 hq2 c1 c2 c3 c4
                go_wp2
                go_roundw
                case rel => exact ⟨Y + 1, _, by omega, by go_num, rfl, Hs.out.symm, Below_trans' hbY hbY.size hbw5⟩
                case measure => simp [intOf] <;> omega
            · obtain rfl : C = Y := by omega
              have hbf := Below_trans' hbX hzX hbY
              have hzf := hbf.size
              have hUz := hU.below hbY
              cases B with
              | false =>
                go_wp2
                go_roundw
                case rel => exact ⟨X + 1, by omega, by go_num, by rw [hsU.out, ← hB.out, if_neg (by simp), List.append_nil]; exact hUz, hbf⟩
                case measure => simp [intOf] <;> omega
              | true =>
                go_wp2_with (at_builtin; refine appInt rfl rfl rfl (hUz.below ((Below.refl _ _).alloc (Nat.le_refl _) _)) rfl ((Has.new _ _ _).cell 0) (by omega) (by simp; omega) ?_)
                intro v' w' hO' hg
                go_wp2
                go_roundw
                case rel => exact ⟨X + 1, by omega, by go_num, by rw [hsU.out, ← hB.out, if_pos rfl]; exact hO', (hbf.alloc hzf _).grown hg (by simp; omega) (fun j hj => (hU.lt j hj).1)⟩
                case measure => simp [intOf] <;> omega
        · obtain rfl : C = X := by omega
          rw [topU_end] at hU
          obtain ⟨wp, rfl⟩ : ∃ wp : World, wp = wx := ⟨_, rfl⟩
          obtain ⟨Ab, cb, rfl⟩ := hU.slice
          have hsub : (topD had r C el).Sublist (rangeI C) := bestR_sub _ _
          have hRb := hU.ints (fun y hy => by have := mem_rangeI.1 (hsub.subset hy); omega)
          have htopl : (topD had r C el).length ≤ C := by have := hsub.length_le; rwa [length_rangeI] at this
          have hxr := topD_rng (frst_topD (had := had) (r := r) (el := el) hC1 Hla.out)
          have hbp := Below_trans' hb hsz hbX
          have hAb : ∀ b, fpS Ab (topD had r C el).length b → wo.heap.size ≤ b := fun b hb => (hU.own_lt (hU.fps hb)).1
          have hvtlt : ∀ b, (Value.slice Av ts.length cv).ownBlock = some b → w.heap.size ≤ b ∧ b < wo.heap.size := fun b hb => hT.lt hb
          have hggw : gg < wo.heap.size := (hW.own_lt rfl).2
          have hvolt : ∀ b, (Value.slice Ao t co).ownBlock = some b → w.heap.size ≤ b ∧ b < wo.heap.size := fun b hb => hO.own_lt hb
          obtain ⟨xx, hxx⟩ : ∃ xx, xx = frstS lot (topD had r C el) := ⟨_, rfl⟩
          have hti := tied_any w.heap.size (.slice Av ts.length cv) fp ts Ab _ cb (topD had r C el) xx wp hbp.size (hT.below hbX) hRb (fun b hv hx => by have := hAb b hx; have := (hvtlt b hv).2; omega) (by unfold I64; omega) (by omega)
          have hfi := rfirst_any Al nl cl lot Ab _ cb (topD had r C el) wp (hL.below hbp) hRb
          rw [← hxx] at hfi hxr
          have Hnx2 := hide Hnx.out
          rw [← hxx] at Hnx2
          obtain ⟨m, hm⟩ : ∃ m, m = (topD had r C el).length := ⟨_, rfl⟩
          rw [← hm] at hti hfi hAb ⊢
          clear hxx hm hRb hsub htopl hlU hU hX hXC
          obtain ⟨x, rfl⟩ : ∃ x : Nat, xx = x := ⟨xx.toNat, by omega⟩
          have hxC : x < C := by omega
          go_wp2_with fail
          refine hfi.mono ?_
          rintro e w' ⟨rfl, rfl⟩
          go_wp2_with fail
          refine hti.mono ?_
          rintro e w3 ⟨vt', fp', rfl, hT3, hfp3, hvt3, hF3⟩
          clear hti hfi
          have hO3 := (hO.below hbX).frame hF3 (fun b hb h => (Hap.out b hb).2.1 h)
          have hW3 := (hW.below hbX).frame hF3 (fun b hb h => by
            obtain rfl : gg = b := Option.some.inj hb
            exact Hvg.out h)
          have hz3 := hF3.size
          have hzX := hbX.size
          have hb3 : Below w.heap.size w w3 := Frame'.below hbp hF3 (fun b e => (hvtlt b e).1) hbp.size
          obtain ⟨u', w4, k1, k2, k3, k4⟩ := hO3.app20 (x : Int) (by unfold I64; omega) (by omega) (by omega) 25
          have hold : ∀ b, b < wo.heap.size → ¬ fp b → (Value.slice Av ts.length cv).ownBlock ≠ some b → ¬ fp' b ∧ vt'.ownBlock ≠ some b := fun b h1 h2 h3 => by
            refine ⟨fun h => ?_, fun h => ?_⟩
            · rcases hfp3 b h with h | h
              · exact h2 h
              · have := hAb b h; omega
            · rcases hvt3 with e | ⟨b', e, hb'⟩
              · rw [e] at h; exact h3 h
              · rw [e] at h; have := Option.some.inj h; omega
          have hT4 := hT3.frame k4 (fun b hb h => (hold b (hvolt b h).2 (Hap.out b h).1 (Hap.out b h).2.1).1 hb) (fun b hb h => (hold b (hvolt b h).2 (Hap.out b h).1 (Hap.out b h).2.1).2 hb)
          have hW4 := hW3.frame k4 (fun b hb h => by
            obtain rfl : gg = b := Option.some.inj hb
            exact (Hap.out gg h).2.2 rfl)
          have hb4 : Below w.heap.size w w4 := Frame'.below hb3 k4 (fun b e => (hvolt b e).1) hb3.size
          have hz4 := k4.size
          have hgo' : ¬ fp' gg ∧ vt'.ownBlock ≠ some gg := hold gg hggw (fun h => (Hfp.out gg h).2 rfl) Hvg.out
          have hap4 : ∀ b, u'.ownBlock = some b → ¬ fp' b ∧ vt'.ownBlock ≠ some b ∧ b ≠ gg := fun b hb => by
            rcases k3 with e | ⟨b', e, hb'⟩
            · rw [e] at hb
              have h1 := Hap.out b hb
              exact ⟨(hold b (hvolt b hb).2 h1.1 h1.2.1).1, (hold b (hvolt b hb).2 h1.1 h1.2.1).2, h1.2.2⟩
            · rw [e] at hb
              obtain rfl : b' = b := Option.some.inj hb
              exact ⟨fun h => by have := hT3.fp_lt h; omega, fun h => by have := (hT3.lt h).2; omega, by omega⟩
          obtain ⟨u, hu, hcu, hfu⟩ := hW4.at (length_gotV _ _) hxC
          obtain rfl : ((el.count (x : Int) : Nat) : Int) = u := by have := hu.out; rw [get_gotV el hxC] at this; exact Option.some.inj this
          have hcX := Hcl.out (x : Int)
          clear hu
          have hW5 := hW4.set (length_gotV _ _) x (((el.count (x : Int) : Nat) : Int) + 1)
          rw [← gotV_snoc] at hW5
          have hFs : Frame' (fun b => b = gg) w4 (w4.setCell ⟨gg, x, none⟩ (.int .i64 (((el.count (x : Int) : Nat) : Int) + 1))) := (Frame'.refl (fun b => b = gg) w4).setCell (p := ⟨gg, x, none⟩) (.inl rfl) _
          have hO5 := k2.frame hFs (fun b hb h => (hap4 b hb).2.2 h)
          have hT5 := hT4.frame hFs (fun b hb h => hgo'.1 (h ▸ hb)) (fun b hb h => hgo'.2 (h ▸ hb))
          have hb5 := hb4.setCell (p := ⟨gg, x, none⟩) (hW.own_lt rfl).1 (.int .i64 (((el.count (x : Int) : Nat) : Int) + 1))
          have hfp5 : ∀ b, fp' b → w.heap.size ≤ b ∧ b ≠ gg := fun b hb => ⟨(hfp3 b hb).elim (fun h => (Hfp.out b h).1) (fun h => by have := hAb b h; omega), fun h => hgo'.1 (h ▸ hb)⟩
          obtain ⟨Av', nv', cv', rfl⟩ : ∃ Av' nv' cv', vt' = .slice Av' nv' cv' := let ⟨A, c, e⟩ := hT3.slice; ⟨A, _, c, e⟩
          obtain ⟨Au, cu, hu'⟩ := k2.slice
          rw [List.length_append, List.length_singleton, hlen] at hu'
          subst hu'
          go_wp2_with (at_builtin; refine list_app rfl rfl rfl rfl k1 ?_)
          clear k1
          clear hO hT hW hO3 hW3 hT3 hT4 hW4 hF3 hFs k2 k4
          go_wp2
          go_roundw
          case rel => exact ⟨t + 1, by omega, by go_num, fp', by rw [Hnx2.out]; exact hO5, by rw [Hnx2.out]; exact hT5, hfp5, by rw [Hnx2.out]; exact hW5, hap4, hgo'.2, hb5⟩
          case measure => simp [intOf] <;> omega
    · obtain rfl : t = n := by omega
      go_wp2
      go_ret2
      exact ⟨_, _, fp, rfl, hO, hT, fun b hb' => (Hfp.out b hb').1, hb⟩
end Go.Proofs.YtiebfalodelclaaGreat
