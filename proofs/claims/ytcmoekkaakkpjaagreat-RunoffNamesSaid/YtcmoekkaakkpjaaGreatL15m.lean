/-
  The law RunoffMajority; what the laws of valid counts have in common.
-/
import Derived.Test.YtcmoekkaakkpjaaGreatSpecMj
import Derived.Deep.CutBlock
namespace Go.Proofs.YtcmoekkaakkpjaaGreat
open Go.RowKit Go.Proofs Go.Shelf
attribute [local go_sem] cell?_more cell?_alloc_some cell?_setCell_far frozen?_alloc_some frozen?_more

theorem may15_any (c k : Int) (A : Option Addr) (n cp : Nat) (l : List Row) (At : Option Addr) (nt ct : Nat) (lot : List Int) (w : World) (h : RRows w A n cp l) (h' : RInts w At nt ct lot) :
    Calls Tryz.prog 25 #[.agg #[.int .i64 c, .int .u8 k, .slice A n cp], .slice At nt ct] w fun e w' => e = .returned (.bool (mayS c k l 1 1 1 lot == 0)) ∧ Below w.heap.size w w' := by
  have hb0 : Below w.heap.size w (w.alloc (.cells #[.int .i64 c, .int .u8 k, .slice A n cp] 24)) := below_allocN
  have hP0 := Has.new w 24 #[.int .i64 c, .int .u8 k, .slice A n cp]
  generalize hW : World.alloc w _ = W0 at hb0 hP0
  have p0 := hP0.cell 0
  have p1 := hP0.cell 1
  have p2 := hP0.cell 2
  go_enter Tryz.func25, Tryz.ntmps25
  go_wp2_with fail
  try simp only [hW]
  clear hW
  refine (may_any c k A n cp l 1 1 1 At nt ct lot W0 (h.below hb0) (h'.below hb0)).mono ?_
  rintro e w1 ⟨rfl, hb1⟩
  go_wp2
  go_ret
  exact ⟨rfl, Below_trans' hb0 hb0.size hb1⟩

/-- One is elected. -/
theorem count_el {l : List Row} {C : Nat} {lot : List Int} (hlot : lotS lot C = true) : ∀ (f : Nat) (left : List Int) (rs : List Rnd) (ts : List Row), left.Sublist (rangeI C) → left.length ≤ f → left ≠ [] → ∃ x ∈ left, ∃ rs' ts', countS l C lot f left rs ts = ([x], rs', ts')
  | 0, left, rs, ts, _, hl, hne => by have := List.length_pos_iff.2 hne; omega
  | f + 1, left, rs, ts, hsub, hl, hne => by
    cases hw : winS left (hadL (inL left) l C) with
    | some x =>
      rw [countS_some hw]
      exact ⟨x, List.mem_of_find?_eq_some hw, _, _, rfl⟩
    | none =>
      rw [countS_none hw]
      have hlen : left.length ≠ 1 := fun e => win_of_one e hw
      have hsl2 : (leastS (hadL (inL left) l C) left).Sublist left := bestS_sub _ _
      have hm := hsl2.subset (lastS_mem (lot := lot) (bestS_ne (f := fun c => - getI (hadL (inL left) l C) c) hne) fun x hx => lot_in hlot (hsub.subset (hsl2.subset hx)))
      have hm : lastS lot (leastS (hadL (inL left) l C) left) ∈ left := hm
      have hlo := length_outS ((nodup_rangeI C).sublist hsub) hm
      have hp := List.length_pos_iff.2 hne
      obtain ⟨x, hx, r⟩ := count_el hlot f (outS left (lastS lot (leastS (hadL (inL left) l C) left))) _ _ ((outS_sub _ _).trans hsub) (by omega) (List.length_pos_iff.1 (by omega))
      exact ⟨x, (outS_sub _ _).subset hx, r⟩

/-- The set, in order. -/
def setOf (some : List Int) (k : Nat) : List Int := (rangeI k).filter (inL some)
theorem setOf_succ (some : List Int) (k : Nat) : setOf some (k + 1) = setOf some k ++ if inL some k = true then [(k : Int)] else [] := by
  unfold setOf
  rw [rangeI_succ, List.filter_append]
  simp only [List.filter_cons, List.filter_nil]
theorem length_setOf (some : List Int) (k : Nat) : (setOf some k).length ≤ k := Nat.le_trans (List.length_filter_le _ _) (by rw [length_rangeI]; exact Nat.le_refl _)
def aheadK (set ms : List Int) (k : Nat) : Bool := decide (set.length ≤ ms.length) && (ms.take k).all (inL set)
theorem aheadK_succ {set ms : List Int} {k : Nat} {v : Int} (h : ms[k]? = some v) : aheadK set ms (k + 1) = (aheadK set ms k && inL set v) := by
  unfold aheadK
  rw [List.take_add_one, h, List.all_append]
  simp [Bool.and_assoc]
theorem aheadK_all (set ms : List Int) : aheadK set ms set.length = solidB set ms := rfl
theorem aheadK_no {set ms : List Int} {k : Nat} (hk : k ≤ set.length) (h : aheadK set ms k = false) : solidB set ms = false := by
  cases hs : solidB set ms with
  | false => rfl
  | true =>
    unfold solidB at hs
    unfold aheadK at h
    rw [Bool.and_eq_true] at hs
    rw [hs.1, Bool.true_and] at h
    have : (ms.take k).all (inL set) = true := List.all_eq_true.2 fun x hx => List.all_eq_true.1 hs.2 x ((List.take_sublist_take_left hk).subset hx)
    rw [this] at h; cases h
theorem marks_nd {c k : Int} {l : List Row} (h : checkS c k l = 0) (hk : k = 1) : ∀ r ∈ l, r.1.Nodup := fun r hr => by
  obtain ⟨h1, h2, h3, _, _, h4, _, h5, h6⟩ := check_iff.1 h
  have hb := h6 r hr
  subst hk
  unfold bcheckS at hb
  split at hb
  · cases hb
  split at hb
  · rename_i hf
    rw [fineS_1] at hf
    simp only [Bool.and_eq_true] at hf
    exact of_decide_eq_true hf.2
  · cases hb

set_option maxRecDepth 100000 in
set_option maxHeartbeats 4000000 in
theorem runoffMajority_any (c k : Int) (A : Option Addr) (n cp : Nat) (l : List Row) (At : Option Addr) (nt ct : Nat) (lot : List Int) (As : Option Addr) (ns cs : Nat) (some : List Int) (w : World) (h : RRows w A n cp l) (hl : RInts w At nt ct lot) (hS : RInts w As ns cs some) :
    Calls Tryz.prog 4 #[.agg #[.int .i64 c, .int .u8 k, .slice A n cp], .slice At nt ct, .slice As ns cs] w fun e w' => e = .returned (.bool true) ∧ Below w.heap.size w w' := by
  have hb : Below w.heap.size w (w.alloc (.cells #[.int .i64 c, .int .u8 k, .slice A n cp] 24)) := below_allocN
  have hP := Has.new w 24 #[.int .i64 c, .int .u8 k, .slice A n cp]
  generalize hW : World.alloc w _ = W0 at hb hP
  have p0 := hP.cell 0
  have p1 := hP.cell 1
  have p2 := hP.cell 2
  go_enter Tryz.func4, Tryz.ntmps4
  go_wp2_with fail
  try simp only [hW]
  clear hW
  refine (may15_any c k A n cp l At nt ct lot W0 (h.below hb) (hl.below hb)).mono ?_
  rintro e z0 ⟨rfl, hbz0⟩
  have hbw0 := Below_trans' hb hb.size hbz0
  replace hP := hP.below hbz0 hP.lt
  clear p0 p1 p2
  by_cases hE : mayS c k l 1 1 1 lot = 0
  · have e1 : (mayS c k l 1 1 1 lot == 0) = true := by simp [hE]
    by_cases h6 : (60 : Int) < (ns : Int)
    · clear hE
      go_wp2_with fail
      refine (wakes15_any _).mono ?_
      rintro e w9 ⟨rfl, hb9⟩
      go_wp2
      go_ret
      exact ⟨rfl, Below_trans' hbw0 (hbw0).size hb9⟩
    · obtain ⟨hc0, hk0, _, _, _, hlot⟩ := may_zero hE
      subst hk0
      have hcs := check_ok hc0
      obtain ⟨C, rfl⟩ : ∃ C : Nat, c = (C : Int) := ⟨c.toNat, by omega⟩
      have Rk := hide (rank_ok hc0)
      have Hlot := hide hlot
      have hro := hide (runO_ok hE)
      have hE0 := hide hE
      have hc00 := hide hc0
      have hnds := hide (marks_nd hc0 rfl)
      have hC10 := (rank_ok hc0).c10
      have hC1 := (rank_ok hc0).c1
      have hnt : nt ≤ 10 := by have h1 := lot_len hlot; have h2 := hl.len; omega
      obtain ⟨x, hxm, rs, ts, hcx⟩ := count_el (l := l) hlot C (rangeI C) [] [] (List.Sublist.refl _) (by rw [length_rangeI]; exact Nat.le_refl _) (fun e => by have := congrArg List.length e; rw [length_rangeI] at this; simp at this; omega)
      have hxr := mem_rangeI.1 hxm
      have Hcx := hide hcx
      have hout : Hid (runO C 1 l 1 lot = ([x], rs, ts)) := by unfold Hid; rw [hro.out, Int.toNat_natCast]; exact hcx
      clear hcs hE hc0 hlot hcx hxm
      have p0 := hP.cell 0
      have p1 := hP.cell 1
      have p2 := hP.cell 2
      go_wp2_with fail
      refine (pcount_any C 1 A n cp l 1 At nt ct lot z0 (h.below hbw0) (hl.below hbw0) (by omega)).mono ?_
      rintro e z1 ⟨Ae, ne, ce, Ar, nr, cr, Av, nv, cv, rfl, hO, hbz1⟩
      rw [hout.out] at hO
      rw [hE0.out]
      have hne : ne = 1 := hO.1.len.symm
      subst hne
      have hnr : nr = rs.length := hO.2.1.len.symm
      subst hnr
      clear p0 p1 p2
      go_upto_region 4 with fail
      have hbz2 : Below z1.heap.size z1 (z1.alloc (.cells #[.slice Ae 1 ce, .slice Ar rs.length cr, .slice Av nv cv] 33)) := below_allocN
      have hX := Has.new z1 33 #[.slice Ae 1 ce, .slice Ar rs.length cr, .slice Av nv cv]
      generalize World.alloc z1 _ = z2 at hbz2 hX ⊢
      have hb02 := Below_trans' hbz1 hbz1.size hbz2
      have hbw2 := Below_trans' hbw0 hbw0.size hb02
      have hP2 := hP.below hb02 hP.lt
      have p0 := hP2.cell 0
      have p1 := hP2.cell 1
      have p2 := hP2.cell 2
      go_wp2_with fail
      refine (many_any C 1 A n cp l z2 (h.below hbw2)).mono ?_
      rintro e z3 ⟨rfl, hbz3⟩
      rw [cntV_tot hc00.out, hc00.out]
      have hX3 := hX.below hbz3 hX.lt
      have hP3 := hP2.below hbz3 hP2.lt
      have hbw3 := Below_trans' hbw2 hbw2.size hbz3
      have hEl := (hO.1.below hbz2).below hbz3
      clear p0 p1 p2 hO hX hP2 hP hbz1 hbz2
      have q0 := hX3.cell 0
      have p0 := hP3.cell 0
      go_wp2
      go_loopw [11, 12] (fun v i wr => ∃ t : Nat, t ≤ C ∧ i = .int .i64 t ∧ Own wr z3.heap.size v (setOf some t) ∧ Below z3.heap.size z3 wr) (fun v i _ => C - (intOf i).toNat)
      case atStart => exact ⟨0, Nat.zero_le _, rfl, Own.nil_ _ _, Below.refl _ _⟩
      case round =>
        clear q0 p0
        obtain ⟨t, ht, rfl, hO, hb⟩ := hrel
        have hz := hb.size
        have hPr := hP3.below hb hP3.lt
        have p0 := hPr.cell 0
        have hlt' := length_setOf some t
        by_cases hlt : t < C
        · have hin := in_any As ns cs some t wr ((hS.below hbw3).below hb)
          have hs := hide (setOf_succ some t)
          cases hv : inL some (t : Int) with
          | true =>
            rw [hv] at hin
            have Hv := hide hv
            clear hv
            go_wp2_with fail
            refine hin.mono ?_
            rintro e w' ⟨rfl, rfl⟩
            go_wp2_with (at_builtin; refine appInt rfl rfl rfl (hO.below below_allocN) rfl ((Has.new _ _ _).cell 0) (by omega) (by simp; omega) ?_)
            intro v' w' hO' hg
            go_wp2
            go_roundw
            case rel => exact ⟨t + 1, by omega, by go_num, by rw [hs.out, if_pos Hv.out]; exact hO', (hb.alloc hz _).grown hg (by simp; omega) (fun j hj => (hO.lt j hj).1)⟩
            case measure => simp [intOf] <;> omega
          | false =>
            rw [hv] at hin
            have Hv := hide hv
            clear hv
            go_wp2_with fail
            refine hin.mono ?_
            rintro e w' ⟨rfl, rfl⟩
            go_wp2
            go_roundw
            case rel => exact ⟨t + 1, by omega, by go_num, by rw [hs.out, if_neg (by rw [Hv.out]; simp), List.append_nil]; exact hO, hb⟩
            case measure => simp [intOf] <;> omega
        · obtain rfl : C = t := by omega
          obtain ⟨Aset, cset, rfl⟩ := hO.slice
          have hRs := hO.ints (fun y hy => by have := mem_rangeI.1 (List.mem_filter.1 hy).1; omega)
          have hset : (setOf some C).Nodup := (nodup_rangeI C).sublist List.filter_sublist
          have hsetm : ∀ y ∈ setOf some C, y ∈ rangeI C := fun y hy => (List.mem_filter.1 hy).1
          have Hset := hide hset
          have Hsetm := hide hsetm
          generalize setOf some C = set at *
          generalize hns : set.length = nset at *
          have Hns := hide hns
          clear hset hsetm hns hO
          have hPz := hPr
          have hXz := hX3.below hb hX3.lt
          have hEz := hEl.below hb
          have hbwz := Below_trans' hbw3 hbw3.size hb
          have hz := h.below hbwz
          have hn := hide h.len
          have hnle := h.le
          clear hPr hX3 hEl hbw3 hP3 h6 hb
          have hmk := run_make_row' (P := Tryz.prog) 25 3 (.int .i64 0) 8 Tryz.underlying25 info3 rfl .i64 .i64 C (by omega) (by omega)
          go_upto_region 14 with fail
          clear hmk
          have hM := Own.made wr wr.heap.size C (Nat.le_refl _) (by omega)
          have hbM : Below wr.heap.size wr (wr.alloc (.cells (madeCells #[.int .i64 0] C) 3)) := below_allocN
          have hgM : wr.heap.size < (wr.alloc (.cells (madeCells #[.int .i64 0] C) 3)).heap.size := by simp
          generalize World.alloc wr _ = wa at hM hbM hgM ⊢
          obtain ⟨wz, hwz⟩ : ∃ wz, wz = wr := ⟨_, rfl⟩
          subst hwz
          clear p0
          go_wp2
          go_loopw [14, 15] (fun s i wr => ∃ t : Nat, t ≤ n ∧ i = .int .i64 t ∧ s = .int .i64 (wsum (solidB set) (l.take t)) ∧ Own wr wz.heap.size (.slice (Option.some ⟨wz.heap.size, 0, none⟩) C C) (hadL (fun _ => true) (l.take t) C) ∧ Below wz.heap.size wz wr) (fun s i _ => n - (intOf i).toNat)
          case atStart => exact ⟨0, Nat.zero_le _, rfl, by simp [wsum_nil], by rw [List.take_zero, hadL_zero]; exact hM, hbM⟩
          case round =>
            obtain ⟨t, ht, rfl, rfl, hO, hb⟩ := hrel
            have hPr := hPz.below hb hPz.lt
            have p2 := hPr.cell 2
            by_cases hlt : t < n
            · obtain ⟨b, off, Am, nm, cm, ms, y, rfl, hc0z, hRmz, hc1z, _, hat, hy0, hy1⟩ := hz.step hlt
              have hc0 := keep_cell hb hc0z
              have hc1 := keep_cell hb hc1z
              have hRm := hRmz.below hb
              have hroom := hide (Rk.out.room hat.out (fun _ => true))
              have hmr := hide (Rk.out.marks _ (List.mem_of_getElem? hat.out))
              have hws := hide (wsum_take_succ (solidB set) hat.out)
              have hwb : 0 ≤ wsum (solidB set) (l.take t) ∧ wsum (solidB set) (l.take t) ≤ 1000000 := by
                have h1 := wsum_nn (φ := solidB set) (pos_take Rk.out.pos t)
                have h2 := wsum_le_tot (φ := solidB set) (pos_take Rk.out.pos t)
                have h3 := tot_take Rk.out.pos t
                have h4 := Rk.out.tot
                omega
              have hyb : 0 < y ∧ y ≤ 1000000 := by have := hroom.out 0; omega
              have Hat := hide hat.out
              have hml := hide hRm.len
              have hmle := hRm.le
              have hlenF : (hadL (fun _ => true) (l.take t) C).length = C := length_hadL _ _ _
              clear hat
              by_cases hn0 : 0 < nm
              · obtain ⟨b2, off2, v0, rfl, hcv, _, hatv, _⟩ := hRm.step hn0
                simp only [Nat.add_zero] at hcv
                obtain ⟨hv0, hv1⟩ := hmr.out v0 (List.mem_of_getElem? hatv.out)
                obtain ⟨X, rfl⟩ : ∃ X : Nat, v0 = X := ⟨v0.toNat, by omega⟩
                have hf : ms.find? (fun _ => true) = Option.some (X : Int) := by
                  cases ms with
                  | nil => have := hatv.out; simp at this
                  | cons a r => have := hatv.out; simp at this; rw [List.find?_cons]; simp [this]
                have hhm := hide (hadL_hit (n := C) Hat.out hf)
                have hro := hroom.out (X : Int)
                have hXg := hide (get_hadL (fun _ => true) (l.take t) (show X < C by omega))
                obtain ⟨u, hu, hcu, hfu⟩ := hO.at hlenF (show X < C by omega)
                obtain rfl : hadS (fun _ => true) (l.take t) (X : Int) = u := by have e := hu.out; rw [hXg.out] at e; exact Option.some.inj e
                have d0 : (0 : Int) < (nm : Int) := by omega
                clear hf hu hatv hroom
                go_upto_region 19 with fail
                refine wp_region_more_tail 17 (by kernel_rfl) (by kernel_rfl) ?_
                simp only [List.take]
                repeat (go_big_quiet_step (fail))
                refine wpQuiet_nil ?_
                rintro w7 ⟨qq, hw7⟩
                have hb7 := below_of_eq hw7
                clear hw7 qq
                have hO7 := hO.below hb7
                obtain ⟨u2, hu2, hcu2, hfu2⟩ := hO7.at hlenF (show X < C by omega)
                have hbf := Below_trans' hb hb.size hb7
                clear hcu hfu hu2 p2 hc0 hc1 hcv
                go_upto_region 20 with fail
                have hO8 := hO7.set hlenF X (hadS (fun _ => true) (l.take t) (X : Int) + y)
                have hb8 : Below wz.heap.size wz (w7.setCell ⟨wz.heap.size, X, none⟩ (.int .i64 (hadS (fun _ => true) (l.take t) (X : Int) + y))) := hbf.setCell (p := ⟨wz.heap.size, X, none⟩) (Nat.le_refl _) _
                rw [← hhm.out] at hO8
                clear hcu2 hfu2 hO7 hO hb7 hbf hlenF hb
                generalize World.setCell w7 _ _ = wb at hO8 hb8 ⊢
                have hPb := hPz.below hb8 hPz.lt
                have hRsb := hRs.below hb8
                have hRmb := hRmz.below hb8
                have p2 := hPb.cell 2
                have hc1 := keep_cell hb8 hc1z
                clear hRm hc0z hc1z hPb
                obtain ⟨wf, rfl⟩ : ∃ wf : World, wf = wb := ⟨_, rfl⟩
                by_cases hle : nset ≤ nm
                · have f1 : (nset : Int) ≤ (nm : Int) := by omega
                  have hk0 : Hid (aheadK set ms 0 = true) := by unfold Hid aheadK; rw [Hns.out, hml.out]; simp [hle]
                  go_wp2
                  go_loop [17, 18] (fun a k => ∃ j : Nat, j ≤ nset ∧ k = .int .i64 j ∧ a = .bool (aheadK set ms j)) (fun a k => nset - (intOf k).toNat)
                  case atStart => exact ⟨0, Nat.zero_le _, rfl, by rw [hk0.out]⟩
                  case round =>
                    obtain ⟨j, hj, rfl, rfl⟩ := hrel
                    cases ha : aheadK set ms j with
                    | true =>
                      have Ha := hide ha
                      clear ha
                      by_cases hjn : j < nset
                      · obtain ⟨b5, off5, v5, e5, hc5, _, hat5, _⟩ := hRmb.step (show j < nm by omega)
                        cases e5
                        have hin := in_any Aset nset cset set v5 wf hRsb
                        have Hat5 := hide hat5.out
                        clear hat5
                        go_wp2_with fail
                        refine hin.mono ?_
                        rintro e w' ⟨rfl, rfl⟩
                        go_wp2
                        go_round
                        case rel => exact ⟨j + 1, by omega, by go_num, by rw [aheadK_succ Hat5.out, Ha.out, Bool.true_and]⟩
                        case measure => simp [intOf] <;> omega
                      · have hsol : Hid (solidB set ms = true) := by
                          have e := Ha.out
                          rw [show j = set.length by rw [Hns.out]; omega] at e
                          exact e
                        go_wp2
                        go_roundw
                        case rel => exact ⟨t + 1, by omega, by go_num, congrArg (Value.int .i64) (by rw [hws.out, if_pos hsol.out]), hO8, hb8⟩
                        case measure => simp [intOf] <;> omega
                    | false =>
                      have hsol : Hid (solidB set ms = false) := aheadK_no (by rw [Hns.out]; exact hj) ha
                      clear ha
                      by_cases hjn : j < nset
                      · go_wp2
                        go_roundw
                        case rel => exact ⟨t + 1, by omega, by go_num, congrArg (Value.int .i64) (by rw [hws.out, if_neg (by rw [hsol.out]; simp)]; omega), hO8, hb8⟩
                        case measure => simp [intOf] <;> omega
                      · go_wp2
                        go_roundw
                        case rel => exact ⟨t + 1, by omega, by go_num, congrArg (Value.int .i64) (by rw [hws.out, if_neg (by rw [hsol.out]; simp)]; omega), hO8, hb8⟩
                        case measure => simp [intOf] <;> omega
                · have f1 : ¬ (nset : Int) ≤ (nm : Int) := by omega
                  have hsol : Hid (solidB set ms = false) := by
                    unfold Hid solidB; rw [Hns.out, hml.out]; simp [hle]
                  go_wp2
                  go_loop [17, 18] (fun a k => a = .bool false ∧ k = .int .i64 0) (fun _ _ => 0)
                  case atStart => exact ⟨rfl, rfl⟩
                  case round =>
                    obtain ⟨rfl, rfl⟩ := hrel
                    by_cases h0 : 0 < nset
                    · have f2 : (0 : Int) < (nset : Int) := by omega
                      go_wp2
                      go_roundw
                      case rel => exact ⟨t + 1, by omega, by go_num, congrArg (Value.int .i64) (by rw [hws.out, if_neg (by rw [hsol.out]; simp)]; omega), hO8, hb8⟩
                      case measure => simp [intOf] <;> omega
                    · have f2 : ¬ (0 : Int) < (nset : Int) := by omega
                      go_wp2
                      go_roundw
                      case rel => exact ⟨t + 1, by omega, by go_num, congrArg (Value.int .i64) (by rw [hws.out, if_neg (by rw [hsol.out]; simp)]; omega), hO8, hb8⟩
                      case measure => simp [intOf] <;> omega
              · have hms : ms = [] := List.length_eq_zero_iff.1 (by rw [hml.out]; omega)
                have hhm := hide (hadL_miss (φ := fun _ => true) (n := C) Hat.out (by rw [hms]; rfl))
                have d0 : ¬ (0 : Int) < (nm : Int) := by omega
                have hO8 := hO
                have hb8 := hb
                rw [← hhm.out] at hO8
                clear hms hO hlenF
                go_upto_region 20 with fail
                clear p2 hc0 hc1 hb
                have hPb := hPz.below hb8 hPz.lt
                have hRsb := hRs.below hb8
                have hRmb := hRmz.below hb8
                have p2 := hPb.cell 2
                have hc1 := keep_cell hb8 hc1z
                clear hRm hc0z hc1z hPb
                obtain ⟨wf, rfl⟩ : ∃ wf : World, wf = wr := ⟨_, rfl⟩
                by_cases hle : nset ≤ nm
                · have f1 : (nset : Int) ≤ (nm : Int) := by omega
                  have hk0 : Hid (aheadK set ms 0 = true) := by unfold Hid aheadK; rw [Hns.out, hml.out]; simp [hle]
                  go_wp2
                  go_loop [17, 18] (fun a k => ∃ j : Nat, j ≤ nset ∧ k = .int .i64 j ∧ a = .bool (aheadK set ms j)) (fun a k => nset - (intOf k).toNat)
                  case atStart => exact ⟨0, Nat.zero_le _, rfl, by rw [hk0.out]⟩
                  case round =>
                    obtain ⟨j, hj, rfl, rfl⟩ := hrel
                    cases ha : aheadK set ms j with
                    | true =>
                      have Ha := hide ha
                      clear ha
                      by_cases hjn : j < nset
                      · obtain ⟨b5, off5, v5, e5, hc5, _, hat5, _⟩ := hRmb.step (show j < nm by omega)
                        cases e5
                        have hin := in_any Aset nset cset set v5 wf hRsb
                        have Hat5 := hide hat5.out
                        clear hat5
                        go_wp2_with fail
                        refine hin.mono ?_
                        rintro e w' ⟨rfl, rfl⟩
                        go_wp2
                        go_round
                        case rel => exact ⟨j + 1, by omega, by go_num, by rw [aheadK_succ Hat5.out, Ha.out, Bool.true_and]⟩
                        case measure => simp [intOf] <;> omega
                      · have hsol : Hid (solidB set ms = true) := by
                          have e := Ha.out
                          rw [show j = set.length by rw [Hns.out]; omega] at e
                          exact e
                        go_wp2
                        go_roundw
                        case rel => exact ⟨t + 1, by omega, by go_num, congrArg (Value.int .i64) (by rw [hws.out, if_pos hsol.out]), hO8, hb8⟩
                        case measure => simp [intOf] <;> omega
                    | false =>
                      have hsol : Hid (solidB set ms = false) := aheadK_no (by rw [Hns.out]; exact hj) ha
                      clear ha
                      by_cases hjn : j < nset
                      · go_wp2
                        go_roundw
                        case rel => exact ⟨t + 1, by omega, by go_num, congrArg (Value.int .i64) (by rw [hws.out, if_neg (by rw [hsol.out]; simp)]; omega), hO8, hb8⟩
                        case measure => simp [intOf] <;> omega
                      · go_wp2
                        go_roundw
                        case rel => exact ⟨t + 1, by omega, by go_num, congrArg (Value.int .i64) (by rw [hws.out, if_neg (by rw [hsol.out]; simp)]; omega), hO8, hb8⟩
                        case measure => simp [intOf] <;> omega
                · have f1 : ¬ (nset : Int) ≤ (nm : Int) := by omega
                  have hsol : Hid (solidB set ms = false) := by
                    unfold Hid solidB; rw [Hns.out, hml.out]; simp [hle]
                  go_wp2
                  go_loop [17, 18] (fun a k => a = .bool false ∧ k = .int .i64 0) (fun _ _ => 0)
                  case atStart => exact ⟨rfl, rfl⟩
                  case round =>
                    obtain ⟨rfl, rfl⟩ := hrel
                    by_cases h0 : 0 < nset
                    · have f2 : (0 : Int) < (nset : Int) := by omega
                      go_wp2
                      go_roundw
                      case rel => exact ⟨t + 1, by omega, by go_num, congrArg (Value.int .i64) (by rw [hws.out, if_neg (by rw [hsol.out]; simp)]; omega), hO8, hb8⟩
                      case measure => simp [intOf] <;> omega
                    · have f2 : ¬ (0 : Int) < (nset : Int) := by omega
                      go_wp2
                      go_roundw
                      case rel => exact ⟨t + 1, by omega, by go_num, congrArg (Value.int .i64) (by rw [hws.out, if_neg (by rw [hsol.out]; simp)]; omega), hO8, hb8⟩
                      case measure => simp [intOf] <;> omega
            · have htl : l.take t = l := List.take_of_length_le (by rw [hn.out]; omega)
              rw [htl] at hO ⊢
              have p0 := hPr.cell 0
              have hFr := hO.ints (fun y hy => by have := Rk.out.hads (fun _ => true) y hy; omega)
              have hget := hide (fun i (hi : i < C) => get_hadL (fun _ => true) l hi)
              have hXf := hXz.below hb hXz.lt
              have hEf := hEz.below hb
              have hRsf := hRs.below hb
              have hbwf := Below_trans' hbwz hbwz.size hb
              have q0 := hXf.cell 0
              have q1 := hXf.cell 1
              obtain ⟨be, oe, xe, ee, hcx, _, hatx, _⟩ := hEf.step (show 0 < 1 by omega)
              cases ee
              obtain rfl : x = xe := by simpa using hatx.out
              simp only [Nat.add_zero] at hcx
              have hwt := wsum_le_tot (φ := solidB set) Rk.out.pos
              have hwn := wsum_nn (φ := solidB set) Rk.out.pos
              have htt := Rk.out.tot
              clear htl hO hatx hPz hXz hEz
              obtain ⟨wf, rfl⟩ : ∃ wf : World, wf = wr := ⟨_, rfl⟩
              go_wp2
              go_loop [19] (fun i => ∃ j : Nat, j ≤ C ∧ i = .int .i64 j) (fun i => C - (intOf i).toNat)
              case atStart => exact ⟨0, Nat.zero_le _, rfl⟩
              case round =>
                obtain ⟨j, hj, rfl⟩ := hrel
                by_cases hjc : j < C
                · obtain ⟨b6, off6, v6, e6, hc6, _, hat6, _⟩ := hFr.step hjc
                  cases e6
                  obtain rfl : v6 = hadS (fun _ => true) l j := by have e := hget.out j hjc; rw [hat6.out] at e; exact Option.some.inj e
                  have hvb := Rk.out.had (fun _ => true) j
                  simp only [Nat.zero_add] at hc6
                  clear hat6
                  by_cases hmj : totS l < 2 * hadS (fun _ => true) l j
                  · have hfw := first_won (lot := lot) Rk.out (c := (j : Int)) ⟨by omega, by omega⟩ hmj
                    rw [Hcx.out] at hfw
                    have hx1 : x = (j : Int) := by injection hfw with h1 h2; injection h1
                    have hr1 : rs.length = 1 := by injection hfw with h1 h2; injection h2 with h3 h4; rw [h3]; rfl
                    have f1 : (x != (j : Int)) = false := by simp [hx1]
                    have f2 : ((rs.length : Int) != 1) = false := by simp [hr1]
                    have hsv : rs.length ≤ 1 := by omega
                    clear hfw hx1 hr1
                    go_wp2
                    go_round
                    case rel => exact ⟨j + 1, by omega, by go_num⟩
                    case measure => simp [intOf] <;> omega
                  · go_wp2
                    go_round
                    case rel => exact ⟨j + 1, by omega, by go_num⟩
                    case measure => simp [intOf] <;> omega
                · by_cases hs0 : nset = 0
                  · have f1 : ((nset : Int) == 0) = true := by simp [hs0]
                    clear hs0
                    go_wp2_with fail
                    refine (wakes15_any _).mono ?_
                    rintro e w9 ⟨rfl, hb9⟩
                    go_wp2
                    go_ret
                    exact ⟨rfl, Below_trans' hbwf (hbwf).size hb9⟩
                  · have f1 : ((nset : Int) == 0) = false := by simpa using hs0
                    by_cases hW : totS l < 2 * wsum (solidB set) l
                    · have hsw := solid_won (lot := lot) (set := set) Rk.out hnds.out Hset.out Hlot.out hW C (rangeI C) [] [] (List.Sublist.refl _) (by rw [length_rangeI]; exact Nat.le_refl _) (by
                        obtain ⟨a, r, e⟩ := List.exists_cons_of_ne_nil (show set ≠ [] from fun e => by have := Hns.out; rw [e] at this; simp at this; omega)
                        exact ⟨a, by rw [e]; simp, Hsetm.out a (by rw [e]; simp)⟩)
                      obtain ⟨x', hx', hex⟩ := hsw
                      rw [Hcx.out] at hex
                      have hxx : x = x' := by simpa using hex
                      have hin := in_any Aset nset cset set x wf hRsf
                      rw [show inL set x = true from inL_iff.2 (by rw [hxx]; exact hx')] at hin
                      clear hex hxx
                      go_wp2_with fail
                      refine hin.mono ?_
                      rintro e w' ⟨rfl, rfl⟩
                      go_wp2_with fail
                      refine (wakes15_any _).mono ?_
                      rintro e w9 ⟨rfl, hb9⟩
                      go_wp2
                      go_ret
                      exact ⟨rfl, Below_trans' hbwf (hbwf).size hb9⟩
                    · go_wp2_with fail
                      refine (wakes15_any _).mono ?_
                      rintro e w9 ⟨rfl, hb9⟩
                      go_wp2
                      go_ret
                      exact ⟨rfl, Below_trans' hbwf (hbwf).size hb9⟩
  · have e1 : (mayS c k l 1 1 1 lot == 0) = false := by simp [hE]
    clear hE
    go_wp2_with fail
    refine (wakes15_any _).mono ?_
    rintro e w9 ⟨rfl, hb9⟩
    go_wp2
    go_ret
    exact ⟨rfl, Below_trans' hbw0 (hbw0).size hb9⟩
end Go.Proofs.YtcmoekkaakkpjaaGreat
