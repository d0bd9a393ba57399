/-
  The reference of the Coombs rule: Against, Lasts, Count; the law CoombsTells.
-/
import Derived.Test.YtcmoekkaakkpjaaGreatW16a
import Derived.Test.YtcmoekkaakkpjaaGreatL15f
import Derived.Test.YtcmoekkaakkpjaaGreatW15h
import Derived.Test.YtcmoekkaakkpjaaGreatW16c
import Derived.Test.YtcmoekkaakkpjaaGreatGrt
import Derived.Test.YtcmoekkaakkpjaaGreatW9u
import Derived.Test.YtcmoekkaakkpjaaGreatW9v
namespace Go.Proofs.YtcmoekkaakkpjaaGreat
open Go.RowKit Go.Proofs Go.Shelf
attribute [local go_sem] cell?_more cell?_alloc_some cell?_setCell_far frozen?_alloc_some frozen?_more

/-- How many of the first k are missing. -/
def missK (left ms : List Int) (k : Nat) : Nat := ((left.take k).filter fun c => !inL ms c).length
theorem missK_succ {left ms : List Int} {k : Nat} {c : Int} (h : left[k]? = some c) : missK left ms (k + 1) = missK left ms k + if inL ms c = true then 0 else 1 := by
  unfold missK; rw [List.take_add_one, h, List.filter_append, List.length_append]
  cases hc : inL ms c <;> simp [hc]
theorem missK_le (left ms : List Int) (k : Nat) : missK left ms k ≤ k := Nat.le_trans (List.length_filter_le _ _) (by rw [List.length_take]; omega)
theorem missK_some (left ms : List Int) (k : Nat) : someK left ms k = decide (0 < missK left ms k) := by
  unfold someK missK
  rw [Bool.eq_iff_iff, List.any_eq_true, decide_eq_true_eq, List.length_filter_pos_iff]

set_option maxRecDepth 100000 in
set_option maxHeartbeats 2000000 in
theorem ragainst_any (C : Nat) (A : Option Addr) (n cp : Nat) (l : List Row) (Al : Option Addr) (nl cl : Nat) (left : List Int) (w : World) (h : RRows w A n cp l) (hr : RankOK l C) (hnd : ∀ r ∈ l, r.1.Nodup) (hL : RInts w Al nl cl left) (hln : left.Nodup) (hlr : ∀ x ∈ left, 0 ≤ x ∧ x < C) :
    Calls Tryz.prog 84 #[.agg #[.int .i64 C, .int .u8 1, .slice A n cp], .slice Al nl cl] w (IPost w (badL left l C)) := by
  have hl := hide h.len
  have hle := h.le
  have Hr := hide hr
  have Hnd := hide hnd
  have Hln := hide hln
  have Hlr := hide hlr
  have HLl := hide hL.len
  have hnl := hL.le
  have hC10 := hr.c10
  clear hr hnd hln hlr
  have hb0 : Below w.heap.size w (w.alloc (.cells #[.int .i64 C, .int .u8 1, .slice A n cp] 24)) := below_allocN
  have hH0 := Has.new w 24 #[.int .i64 C, .int .u8 1, .slice A n cp]
  have hmk := run_make_row' (P := Tryz.prog) 25 3 (.int .i64 0) 8 Tryz.underlying25 info3 rfl .i64 .i64 C (by omega) (by omega)
  generalize hW : World.alloc w _ = W0 at hb0 hH0
  have hM := Own.made W0 W0.heap.size C (Nat.le_refl _) (by omega)
  have hbM : Below W0.heap.size W0 (W0.alloc (.cells (madeCells #[.int .i64 0] C) 3)) := below_allocN
  have s0 := hH0.cell 0
  have hz := h.below hb0
  have hLz := hL.below hb0
  go_enter Tryz.func84, Tryz.ntmps84
  go_wp2
  try simp only [hW]
  clear hW s0 hmk
  generalize hW1 : World.alloc W0 _ = W1 at hM hbM ⊢
  clear hW1
  go_loopw [6] (fun i wr => ∃ t : Nat, t ≤ n ∧ i = .int .i64 t ∧ Own wr W0.heap.size (.slice (some ⟨W0.heap.size, 0, none⟩) C C) (badL left (l.take t) C) ∧ Below W0.heap.size W0 wr) (fun i _ => n - (intOf i).toNat)
  case atStart => exact ⟨0, Nat.zero_le _, rfl, by rw [List.take_zero, badL_zero]; exact hM, hbM⟩
  case round =>
    clear hM hbM
    obtain ⟨t, ht, rfl, hO, hb⟩ := hrel
    have hPr := hH0.below hb hH0.lt
    have p2 := hPr.cell 2
    by_cases hlt : t < n
    · obtain ⟨b, off, Am, nm, cm, ms, y, rfl, hc0z, hRmz, hc1z, _, hat, hy0, hy1⟩ := hz.step hlt
      have hc0 := keep_cell hb hc0z
      have hc1 := keep_cell hb hc1z
      have hroom := hide (fun x => bad_room (left := left) Hr.out hat.out x)
      have hmr := hide (Hr.out.marks _ (List.mem_of_getElem? hat.out))
      have hml := hide hRmz.len
      have hmle := hRmz.le
      have Hat := hide hat.out
      have hyb := hroom.out 0
      clear hat
      go_upto_region 5 with fail
      refine wp_region_more (by kernel_rfl) (by kernel_rfl) ?_
      repeat (go_big_quiet_step (fail))
      refine wpQuiet_nil ?_
      rintro w6 ⟨qw6, hww6⟩
      have hbw6 := below_of_eq hww6
      clear hww6 qw6
      have hO6 := hO.below hbw6
      have hb6 := Below_trans' hb hb.size hbw6
      rw [← outK_zero left ms y (length_badL left (l.take t) C)] at hO6
      clear hc0 hc1 p2 hPr hO hb hbw6
      go_wp2
      go_loopw [9, 10] (fun m i wr => ∃ k : Nat, k ≤ nl ∧ i = .int .i64 k ∧ m = .int .i64 (missK left ms k : Int) ∧ Own wr W0.heap.size (.slice (some ⟨W0.heap.size, 0, none⟩) C C) (outK C (badL left (l.take t) C) left ms y k) ∧ Below W0.heap.size W0 wr) (fun m i _ => nl - (intOf i).toNat)
      case atStart => exact ⟨0, Nat.zero_le _, rfl, rfl, hO6, hb6⟩
      case round =>
        clear hO6 hb6
        obtain ⟨k, hk, rfl, rfl, hO, hb⟩ := hrel
        by_cases hkl : k < nl
        · obtain ⟨b3, off3, c, rfl, hc3, _, hat3, _⟩ := (hLz.below hb).step hkl
          obtain ⟨hcc0, hcc1⟩ := Hlr.out c (List.mem_of_getElem? hat3.out)
          obtain ⟨X, rfl⟩ : ∃ X : Nat, c = X := ⟨c.toNat, by omega⟩
          have hin := in_any Am nm cm ms (X : Int) wr (hRmz.below hb)
          have hms := hide (missK_succ (ms := ms) hat3.out)
          have hmb := missK_le left ms k
          have hXC : X < C := by omega
          cases hv : inL ms (X : Int) with
          | false =>
            obtain ⟨ha1, ha2⟩ := outK_hit (base := badL left (l.take t) C) (y := y) Hln.out hat3.out hXC hv
            rw [getD_badL left (l.take t) hXC] at ha1 ha2
            have hro := hroom.out (X : Int)
            have hok := hide ha2
            have hmn : Hid (missK left ms (k + 1) = missK left ms k + 1) := by unfold Hid; rw [hms.out, hv]; rfl
            rw [hv] at hin
            obtain ⟨u, hu, hcu, hfu⟩ := hO.at (length_outK _ _ _ _ _ _) hXC
            obtain rfl : badS left (l.take t) (X : Int) = u := by have e := hu.out; rw [ha1] at e; exact Option.some.inj e
            clear ha1 ha2 hu hv hat3 hms
            generalize missK left ms k = mk at hmn hmb ⊢
            go_wp2_with fail
            refine hin.mono ?_
            rintro e w' ⟨rfl, rfl⟩
            go_upto_region 11 with fail
            refine wp_region_more_tail 14 (by kernel_rfl) (by kernel_rfl) ?_
            simp only [List.take]
            repeat (go_big_quiet_step (fail))
            refine wpQuiet_nil ?_
            rintro w2 ⟨qq, hw2⟩
            have hb2 := below_of_eq hw2
            clear hw2 qq
            have hO2 := hO.below hb2
            obtain ⟨u2, hu2, hcu2, hfu2⟩ := hO2.at (length_outK _ _ _ _ _ _) hXC
            have hO3 := hO2.set (length_outK _ _ _ _ _ _) X (badS left (l.take t) (X : Int) + y)
            have hb3 := (Below_trans' hb hb.size hb2).setCell (p := ⟨W0.heap.size, X, none⟩) (Nat.le_refl _) (.int .i64 (badS left (l.take t) (X : Int) + y))
            clear hcu hfu hu2 hc3
            go_wp2
            go_roundw
            case rel => exact ⟨k + 1, by omega, by go_num, by rw [hmn.out]; go_num, by rw [hok.out]; exact hO3, hb3⟩
            case measure => simp [intOf] <;> omega
          | true =>
            have hok : Hid (outK C (badL left (l.take t) C) left ms y (k + 1) = outK C (badL left (l.take t) C) left ms y k) := outK_miss hat3.out hv
            have hmn : Hid (missK left ms (k + 1) = missK left ms k) := by unfold Hid; rw [hms.out, hv]; rfl
            rw [hv] at hin
            clear hv hat3 hms
            generalize missK left ms k = mk at hmn hmb ⊢
            go_wp2_with fail
            refine hin.mono ?_
            rintro e w' ⟨rfl, rfl⟩
            go_wp2
            go_roundw
            case rel => exact ⟨k + 1, by omega, by go_num, by rw [hmn.out], by rw [hok.out]; exact hO, hb⟩
            case measure => simp [intOf] <;> omega
        · have hkk : left.length ≤ k := by rw [HLl.out]; omega
          have hso := missK_some left ms k
          by_cases hm0 : 0 < missK left ms k
          · rw [decide_eq_true hm0] at hso
            rw [bad_some Hat.out hkk hso] at hO
            clear hso hkk
            generalize missK left ms k = mk at hm0 ⊢
            go_wp2
            go_roundw
            case rel => exact ⟨t + 1, by omega, by go_num, hO, hb⟩
            case measure => simp [intOf] <;> omega
          · rw [decide_eq_false hm0] at hso
            rw [bad_base hkk hso] at hO
            have Hkk := hide hkk
            have Hso := hide hso
            clear hso hkk
            generalize missK left ms k = mk at hm0 ⊢
            have hRm := hRmz.below hb
            have hLw := hLz.below hb
            obtain ⟨wf, rfl⟩ : ∃ wf : World, wf = wr := ⟨_, rfl⟩
            go_wp2
            go_loop [11] (fun i => ∃ j : Nat, j ≤ nm ∧ i = .int .i64 ((j : Int) - 1) ∧ Hid (∀ i' u, j ≤ i' → ms[i']? = some u → inL left u = false)) (fun i => ((intOf i) + 1).toNat)
            case atStart => exact ⟨nm, Nat.le_refl _, rfl, fun i' u h1 h2 => by have := (List.getElem?_eq_some_iff.1 h2).1; have := hml.out; omega⟩
            case round =>
              obtain ⟨j, hj, rfl, hno⟩ := hrel
              by_cases hj0 : j = 0
              · subst hj0
                have hf : ms.reverse.find? (inL left) = none := List.find?_eq_none.2 fun x hx => by
                  obtain ⟨i', hi'⟩ := List.getElem?_of_mem (List.mem_reverse.1 hx)
                  rw [hno.out i' x (Nat.zero_le _) hi']; simp
                rw [← bad_none Hat.out Hkk.out Hso.out hf] at hO
                clear hf hno
                go_wp2
                go_roundw
                case rel => exact ⟨t + 1, by omega, by go_num, hO, hb⟩
                case measure => simp [intOf] <;> omega
              · obtain ⟨m, rfl⟩ : ∃ m, j = m + 1 := ⟨j - 1, by omega⟩
                rw [show ((m + 1 : Nat) : Int) - 1 = (m : Int) by omega]
                obtain ⟨b4, off4, v, rfl, hc4, _, hat4, _⟩ := hRm.step (show m < nm by omega)
                obtain ⟨hv0, hv1⟩ := hmr.out v (List.mem_of_getElem? hat4.out)
                obtain ⟨X, rfl⟩ : ∃ X : Nat, v = X := ⟨v.toNat, by omega⟩
                have hXC : X < C := by omega
                have hin := in_any Al nl cl left (X : Int) wf hLw
                cases hv : inL left (X : Int) with
                | true =>
                  rw [hv] at hin
                  have hf : ms.reverse.find? (inL left) = some (X : Int) := find_rev hat4.out hv fun i' u h1 h2 => hno.out i' u (by omega) h2
                  have hbl := hide (bad_last (n := C) Hat.out Hkk.out Hso.out hf)
                  have hro := hroom.out (X : Int)
                  obtain ⟨u, hu, hcu, hfu⟩ := hO.at (length_badL _ _ _) hXC
                  obtain rfl : badS left (l.take t) (X : Int) = u := by have e := hu.out; rw [get_badL _ _ hXC] at e; exact Option.some.inj e
                  clear hf hv hno hat4 hu
                  go_wp2_with fail
                  refine hin.mono ?_
                  rintro e w' ⟨rfl, rfl⟩
                  go_upto_region 18 with fail
                  refine wp_region_more_tail 14 (by kernel_rfl) (by kernel_rfl) ?_
                  simp only [List.take]
                  repeat (go_big_quiet_step (fail))
                  refine wpQuiet_nil ?_
                  rintro w2 ⟨qq, hw2⟩
                  have hb2 := below_of_eq hw2
                  clear hw2 qq
                  have hO2 := hO.below hb2
                  obtain ⟨u2, hu2, hcu2, hfu2⟩ := hO2.at (length_badL _ _ _) hXC
                  have hO3 := hO2.set (length_badL _ _ _) X (badS left (l.take t) (X : Int) + y)
                  have hb3 := (Below_trans' hb hb.size hb2).setCell (p := ⟨W0.heap.size, X, none⟩) (Nat.le_refl _) (.int .i64 (badS left (l.take t) (X : Int) + y))
                  rw [← hbl.out] at hO3
                  clear hcu hfu hu2 hc4
                  go_wp2
                  go_roundw
                  case rel => exact ⟨t + 1, by omega, by go_num, hO3, hb3⟩
                  case measure => simp [intOf] <;> omega
                | false =>
                  rw [hv] at hin
                  have hno' : Hid (∀ i' u, m ≤ i' → ms[i']? = some u → inL left u = false) := fun i' u h1 h2 => by
                    by_cases e : i' = m
                    · subst e; rw [hat4.out] at h2; rw [← Option.some.inj h2]; exact hv
                    · exact hno.out i' u (by omega) h2
                  clear hv hno hat4
                  go_wp2_with fail
                  refine hin.mono ?_
                  rintro e w' ⟨rfl, rfl⟩
                  go_wp2
                  go_round
                  case rel => exact ⟨m, by omega, by go_num, hno'⟩
                  case measure => simp [intOf] <;> omega
    · have e : Hid (l.take t = l) := List.take_of_length_le (by rw [hl.out]; omega)
      rw [e.out] at hO
      go_wp2
      go_ret
      exact ⟨_, rfl, hO.mono hb0.size, Below_trans' hb0 hb0.size hb⟩

theorem leftT_stay {bs : List Bool} : ∀ C : Nat, bs.length ≤ C → leftT bs C = leftT bs bs.length
  | 0, h => by rw [show bs.length = 0 by omega]
  | C + 1, h => by
    by_cases e : bs.length = C + 1
    · rw [e]
    · rw [leftT_succ, if_neg (by rw [List.getD, List.getElem?_eq_none (by omega)]; simp), List.append_nil]
      exact leftT_stay C (by omega)
set_option maxRecDepth 100000 in
theorem rlasts_any (c k : Int) (A : Option Addr) (n cp : Nat) (l : List Row) (A' : Option Addr) (n' c' : Nat) (bs : List Bool) (w : World) (h : RRows w A n cp l) (h' : RBools w A' n' c' bs) :
    Calls Tryz.prog 37 #[.agg #[.int .i64 c, .int .u8 k, .slice A n cp], .slice A' n' c'] w (LsPost w c k l bs) := by
  have hb0 : Below w.heap.size w (w.alloc (.cells #[.int .i64 c, .int .u8 k, .slice A n cp] 24)) := below_allocN
  have hH0 := Has.new w 24 #[.int .i64 c, .int .u8 k, .slice A n cp]
  have hl' := hide h'.1
  generalize hW : World.alloc w _ = W0 at hb0 hH0
  have s0 := hH0.cell 0
  have s1 := hH0.cell 1
  have s2 := hH0.cell 2
  go_enter Tryz.func37, Tryz.ntmps37
  go_wp2_with fail
  try simp only [hW]
  clear hW
  refine (rcheck_any c k A n cp l W0 (h.below hb0)).mono ?_
  rintro e w1 ⟨rfl, hb1⟩
  have hb01 := Below_trans' hb0 hb0.size hb1
  have hP1 := hH0.below hb1 hH0.lt
  have r0 := hP1.cell 0
  have r1 := hP1.cell 1
  have r2 := hP1.cell 2
  clear s0 s1 s2 hH0
  by_cases hE : checkS c k l = 0
  · have e1 : (checkS c k l != 0) = false := by simp [hE]
    by_cases hk : k = 1
    · subst hk
      have hcs := check_ok hE
      obtain ⟨C, rfl⟩ : ∃ C : Nat, c = (C : Int) := ⟨c.toNat, by omega⟩
      have hF0 := hide (firstsE_ok hE rfl)
      have hRk := hide (rank_ok hE)
      have Hmo := hide (marks_once hE rfl)
      have hC10 := (rank_ok hE).c10
      clear hcs hE r0 r1 r2
      have r1 := hP1.cell 1
      go_wp2
      clear r1
      go_loopw [6, 7] (fun v i wr => ∃ t : Nat, t ≤ n' ∧ t ≤ C ∧ i = .int .i64 t ∧ Own wr w1.heap.size v (leftT bs t) ∧ Below w1.heap.size w1 wr) (fun v i _ => C - (intOf i).toNat)
      case atStart => exact ⟨0, Nat.zero_le _, Nat.zero_le _, rfl, Own.nil_ _ _, Below.refl _ _⟩
      case round =>
        obtain ⟨t, ht, htC, rfl, hO, hb⟩ := hrel
        have hz := hb.size
        have hlt' := length_leftT bs t
        have hPr := hP1.below hb hP1.lt
        have p0 := hPr.cell 0
        by_cases hlt : t < n' ∧ t < C
        · obtain ⟨hlt, hltC⟩ := hlt
          obtain ⟨b, off, rfl, hcx⟩ := (h'.below (Below_trans' hb01 hb01.size hb)).at hlt
          have hs := hide (leftT_succ bs t)
          cases hv : bs.getD t false with
          | true =>
            rw [hv] at hcx
            have Hv := hide hv
            clear hv
            go_wp2_with (at_builtin; refine appInt rfl rfl rfl (hO.below below_allocN) rfl ((Has.new _ _ _).cell 0) (by omega) (by simp; omega) ?_)
            intro v' w' hO' hg
            go_wp2
            go_roundw
            case rel => exact ⟨t + 1, by omega, by omega, by go_num, by rw [hs.out, if_pos Hv.out]; exact hO', (hb.alloc hz _).grown hg (by simp; omega) (fun j hj => (hO.lt j hj).1)⟩
            case measure => simp [intOf] <;> omega
          | false =>
            rw [hv] at hcx
            have Hv := hide hv
            clear hv
            go_wp2
            go_roundw
            case rel => exact ⟨t + 1, by omega, by omega, by go_num, by rw [hs.out, if_neg (by rw [Hv.out]; simp), List.append_nil]; exact hO, hb⟩
            case measure => simp [intOf] <;> omega
        · have e : Hid (leftT bs t = leftT bs C) := by
            unfold Hid
            by_cases htn : t = C
            · rw [htn]
            · rw [show t = bs.length by rw [hl'.out]; omega, leftT_stay C (by rw [hl'.out]; omega)]
          rw [e.out] at hO
          have hbw := Below_trans' hb01 hb01.size hb
          have s1 := hPr.cell 1
          have s2 := hPr.cell 2
          have hsub : (leftT bs C).Sublist (rangeI C) := List.filter_sublist
          obtain ⟨Al, cl, rfl⟩ := hO.slice
          have hRL := hO.ints (fun x hx => by have := mem_rangeI.1 (hsub.subset hx); omega)
          have hha := ragainst_any C A n cp l Al _ cl (leftT bs C) wr (h.below hbw) hRk.out Hmo.out hRL ((nodup_rangeI C).sublist hsub) (fun y hy => by have := mem_rangeI.1 (hsub.subset hy); omega)
          clear hlt' e hsub
          generalize (leftT bs C).length = nl at hha hO hRL ⊢
          clear hRL
          by_cases hltn : t < n'
          · have hltC : ¬ t < C := fun h2 => hlt ⟨hltn, h2⟩
            clear hlt
            go_wp2_with fail
            refine hha.mono ?_
            rintro e w2 ⟨v, rfl, hO2, hb2⟩
            have hOv : Own w2 w.heap.size v (lastsL C 1 l bs) := by
              have := hO2.mono hbw.size
              unfold lastsL; rw [if_pos hF0.out]; simpa using this
            obtain ⟨Av, cv, rfl⟩ := hO2.slice
            generalize (badL (leftT bs C) l C).length = nv at hOv ⊢
            clear hO2 hha
            go_wp2
            go_ret2
            exact ⟨_, ret_vi hF0.out.symm, hOv, Below_trans' hbw hbw.size hb2⟩
          · clear hlt
            go_wp2_with fail
            refine hha.mono ?_
            rintro e w2 ⟨v, rfl, hO2, hb2⟩
            have hOv : Own w2 w.heap.size v (lastsL C 1 l bs) := by
              have := hO2.mono hbw.size
              unfold lastsL; rw [if_pos hF0.out]; simpa using this
            obtain ⟨Av, cv, rfl⟩ := hO2.slice
            generalize (badL (leftT bs C) l C).length = nv at hOv ⊢
            clear hO2 hha
            go_wp2
            go_ret2
            exact ⟨_, ret_vi hF0.out.symm, hOv, Below_trans' hbw hbw.size hb2⟩
    · have e2 : (k != 1) = true := by simp [hk]
      have hF0 := hide (firstsE_bad (c := c) (l := l) (.inr hk))
      clear hE hk
      have hOv : Own w1 w.heap.size (.slice none 0 0) (lastsL c k l bs) := by unfold lastsL; rw [hF0.out, if_neg (by omega)]; exact Own.nil_ _ _
      go_wp2
      go_ret2
      exact ⟨_, ret_vi hF0.out.symm, hOv, hb01⟩
  · have e1 : (checkS c k l != 0) = true := by simp [hE]
    have hF0 := hide (firstsE_bad (k := k) (.inl hE))
    clear hE
    have hOv : Own w1 w.heap.size (.slice none 0 0) (lastsL c k l bs) := by unfold lastsL; rw [hF0.out, if_neg (by omega)]; exact Own.nil_ _ _
    go_wp2
    go_ret2
    exact ⟨_, ret_vi hF0.out.symm, hOv, hb01⟩
end Go.Proofs.YtcmoekkaakkpjaaGreat

namespace Go.Proofs.YtcmoekkaakkpjaaGreat
open Go.RowKit Go.Proofs Go.Shelf
attribute [local go_sem] cell?_alt cell?_more cell?_alloc_some cell?_setCell_far frozen?_alloc_some frozen?_more

set_option maxRecDepth 100000 in
set_option maxHeartbeats 4000000 in
theorem rcountB_any (c k : Int) (A : Option Addr) (n cp : Nat) (l : List Row) (seats : Int) (At : Option Addr) (nt ct : Nat) (lot : List Int) (w : World) (h : RRows w A n cp l) (h' : RInts w At nt ct lot) :
    Calls Tryz.prog 35 #[.agg #[.int .i64 c, .int .u8 k, .slice A n cp], .int .i64 seats, .slice At nt ct] w (OutPost w (runB c k l seats lot) (mayS c k l 1 seats 1 lot)) := by
  have hb0 : Below w.heap.size w (w.alloc (.cells #[.int .i64 c, .int .u8 k, .slice A n cp] 24)) := below_allocN
  have hH0 := Has.new w 24 #[.int .i64 c, .int .u8 k, .slice A n cp]
  generalize hV : World.alloc w _ = V at hb0 hH0
  have hbv : Below V.heap.size V (V.alloc (.cells #[.slice none 0 0, .slice none 0 0, .slice none 0 0] 33)) := below_allocN
  have hR0 := Has.new V 33 #[.slice none 0 0, .slice none 0 0, .slice none 0 0]
  have hP0 := hH0.below hbv hH0.lt
  have hb00 := Below_trans' hb0 hb0.size hbv
  generalize hW : World.alloc V _ = W0 at hbv hR0 hP0 hb00
  have hgw : w.heap.size < V.heap.size := hH0.lt
  have s0 := hP0.cell 0
  have s1 := hP0.cell 1
  have s2 := hP0.cell 2
  go_enter Tryz.func35, Tryz.ntmps35
  go_wp2_with fail
  try simp only [hV, hW]
  clear hV hW
  refine (may_any c k A n cp l 1 seats 1 At nt ct lot W0 (h.below hb00) (h'.below hb00)).mono ?_
  rintro e w1 ⟨rfl, hb1⟩
  have hb01 := Below_trans' hb00 hb00.size hb1
  have hP1 := hP0.below hb1 hP0.lt
  have hR1 := hR0.below hb1 hR0.lt
  clear s0 s1 s2 hH0 hP0 hR0
  by_cases hE : mayS c k l 1 seats 1 lot = 0
  · have e1 : (mayS c k l 1 seats 1 lot != 0) = false := by simp [hE]
    obtain ⟨hc0, hk0, hs1, hs2, hs3, hlot⟩ := may_zero hE
    subst hk0
    have hcs := check_ok hc0
    obtain ⟨C, rfl⟩ : ∃ C : Nat, c = (C : Int) := ⟨c.toNat, by omega⟩
    have hRk := hide (rank_ok hc0)
    have Hlot := hide hlot
    have Hmo := hide (marks_once hc0 rfl)
    have hro := hide (runB_ok hE)
    have hE0 := hide hE
    have hC10 : C ≤ 10 := (rank_ok hc0).c10
    have hC1 : 1 ≤ C := (rank_ok hc0).c1
    clear hcs hE hc0 hlot
    go_upto_region 5 with fail
    have hb2 : Below w1.heap.size w1 (w1.alloc (.cells #[.slice none 0 0, .slice none 0 0, .slice none 0 0] 33)) := below_allocN
    have hG2 := Has.new w1 33 #[.slice none 0 0, .slice none 0 0, .slice none 0 0]
    generalize World.alloc w1 _ = w2 at hb2 hG2 ⊢
    have hP2 := hP1.below hb2 hP1.lt
    have p0 := hP2.cell 0
    go_wp2_with fail
    refine (rall_any C w2 (by omega)).mono ?_
    rintro e w3 ⟨vl, rfl, hO3, hb3⟩
    obtain ⟨Al, cl, rfl⟩ := hO3.slice
    rw [length_rangeI] at hO3 ⊢
    clear p0
    have hg1 := hG2.lt
    have hst : RSt (w1.heap.size + 1) w1.heap.size w1 w3 (.slice none 0 0) (.slice none 0 0) Al C cl (rangeI C) [] [] (fun _ => False) (fun _ => False) := {
      hb := Below_trans' hb2 hb2.size hb3
      bS := by have := hb3.size; omega
      hG := hG2.below hb3 hG2.lt
      hL := hO3.ints (fun x hx => by have := mem_rangeI.1 hx; omega)
      lS := fun b hb => by have := (hO3.own_lt (hO3.fps hb)).1; omega
      hR := OAgg.nil_ _ _ _ _ _
      hT := OAgg.nil_ _ _ _ _ _
      frS := fun _ h => h.elim
      ftS := fun _ h => h.elim
      y1 := fun _ e => by cases e
      y2 := fun _ e => by cases e
      y3 := fun _ e => by cases e }
    have hci := CbInv.start l lot hC1
    have hbp : w.heap.size < w1.heap.size := hP1.lt
    have hbr : V.heap.size < w1.heap.size := hR1.lt
    have Hrow := h.below hb01
    have Hlo := h'.below hb01
    generalize hS : w1.heap.size + 1 = S0 at hst
    clear hG2 hO3 hb2 hb3 hP2
    generalize hg0 : w1.heap.size = g at hst ⊢
    go_wp2
    go_loopg [10] C (fun kk v wr => ∃ left rs ts rn vt Al nl cl fr ft, kk = left.length ∧ CbInv l C lot left rs ts ∧ v = .slice Al nl cl ∧ RSt S0 g w1 wr rn vt Al nl cl left rs ts fr ft)
    case atStart => exact ⟨rangeI C, [], [], _, _, _, _, _, _, _, (length_rangeI C).symm, hci, rfl, hst⟩
    case round =>
      clear hst hci
      obtain ⟨left, rs, ts, rn, vt, Al', nl', cl', fr, ft, rfl, hci', rfl, st⟩ := hrel
      have Hci := hide hci'
      have hne := hide hci'.ne
      have hsub := hide hci'.sub
      have hnd := hide ((nodup_rangeI C).sublist hci'.sub)
      have hmem := hide (fun x (hx : x ∈ left) => mem_rangeI.1 (hci'.sub.subset hx))
      have hnl : left.length = nl' := st.hL.len
      have hnl10 : nl' ≤ 10 := by have := hci'.nrs; omega
      have Hnl := hide hnl
      have hrs1 : rs.length ≤ 100 := by have := hci'.nrs; omega
      have hts1 : ts.length ≤ 100 := by have := hci'.nts; omega
      clear hci' hnl
      have hPr := hP1.below st.hb hP1.lt
      have q0 := hPr.cell 0
      have q1 := hPr.cell 1
      have q2 := hPr.cell 2
      obtain ⟨wo, rfl⟩ : ∃ wo : World, wo = wr := ⟨_, rfl⟩
      go_wp2_with fail
      refine (rhad_any C A n cp l Al' nl' cl' left wo (Hrow.below st.hb) hRk.out st.hL).mono ?_
      rintro e w4 ⟨v4, rfl, hO4, hb4⟩
      clear q0 q1 q2
      obtain ⟨A4, c4, rfl⟩ := hO4.slice
      have hR4 := hO4.ints (fun x hx => by have := hRk.out.hads _ x hx; omega)
      have hlen4 := length_hadL (inL left) l C
      rw [hlen4] at hR4 hO4 ⊢
      have hA4b := hide (fun b (hb : fpS A4 C b) => hO4.own_lt (hO4.fps hb))
      have hsum := hide (hRk.out.sum (inL left))
      have hlost := hide (hRk.out.lost (inL left))
      have hhads := hide (hRk.out.hads (inL left))
      generalize hHad : hadL (inL left) l C = had at *
      generalize hLost : lostS (inL left) l = lost at *
      have HHad := hide hHad
      have HLost := hide hLost
      have Hlen4 := hide hlen4
      clear hHad hLost hlen4 hO4
      have hP4 := hPr.below hb4 hPr.lt
      have p0 := hP4.cell 0
      go_wp2
      go_loop [13, 14] (fun all i => ∃ t : Nat, t ≤ C ∧ i = .int .i64 t ∧ all = .int .i64 ((had.take t).sum)) (fun all i => C - (intOf i).toNat)
      case atStart => exact ⟨0, Nat.zero_le _, rfl, rfl⟩
      case round =>
        obtain ⟨t, ht, rfl, rfl⟩ := hrel
        by_cases hlt : t < C
        · obtain ⟨b, off, v, rfl, hc, _, hat, _⟩ := hR4.step hlt
          have hsb := sum_take_bd (fun x hx => (hhads.out x hx).1) t
          have hvb := hhads.out v (List.mem_of_getElem? hat.out)
          have hsn : Hid ((had.take (t + 1)).sum = (had.take t).sum + v) := by unfold Hid; rw [List.take_add_one, hat.out, List.sum_append]; simp
          have hbb : 0 ≤ (had.take t).sum ∧ (had.take t).sum ≤ 1000000 := ⟨hsb.1, by have := hsum.out; omega⟩
          clear hat hsb
          go_wp2
          go_round
          case rel => exact ⟨t + 1, by omega, by go_num, by rw [hsn.out]⟩
          case measure => simp [intOf] <;> omega
        · have e : Hid (had.take t = had) := List.take_of_length_le (by rw [Hlen4.out]; omega)
          rw [e.out]
          clear e
          go_wp2_with fail
          clear p0
          refine (rwholes_any A4 C c4 had w4 hR4 (by omega) (fun x hx => by have := hhads.out x hx; omega)).mono ?_
          rintro e w5 ⟨v5, fp5, rfl, hO5, hf5, hb5⟩
          have Hf5 := hide hf5
          obtain ⟨A5, n5, c5, rfl⟩ : ∃ A n c, v5 = .slice A n c := let ⟨A, c, e⟩ := hO5.slice; ⟨A, _, c, e⟩
          clear hf5
          go_wp2_with fail
          refine (rwhole_any lost w5 hlost.out.1 (by have := hlost.out.2; omega)).mono ?_
          rintro e w6 ⟨An, nn, cn, Ad, nd, cd, rfl, hn6, hd6, hb6, hf6⟩
          have Hf6 := hide hf6
          clear hf6
          go_upto_region 13 with fail
          have hb7 : Below w6.heap.size w6 (w6.alloc (.cells #[.slice A5 n5 c5, .bool false, .slice An nn cn, .slice Ad nd cd, .slice none 0 0, .slice none 0 0] 54)) := below_allocN
          have hD7 := Has.new w6 54 #[.slice A5 n5 c5, .bool false, .slice An nn cn, .slice Ad nd cd, .slice none 0 0, .slice none 0 0]
          generalize World.alloc w6 _ = w7 at hb7 hD7 ⊢
          have hb47 := Below_trans' (Below_trans' hb5 hb5.size hb6) (Below_trans' hb5 hb5.size hb6).size hb7
          have hb07 : Below wo.heap.size wo w7 := Below_trans' hb4 hb4.size hb47
          have hG7 := st.hG.below hb07 st.hG.lt
          have hL7 := st.hL.below hb07
          have hR47 := hR4.below hb47
          have hz0 := st.bS
          have hg0 : g < S0 := by omega
          have hz7 := hb07.size
          have hgr : g < w6.heap.size := by have h1 := hb4.size; have h2 := hb5.size; have h3 := hb6.size; omega
          have hz6 : wo.heap.size ≤ w6.heap.size := by have h1 := hb4.size; have h2 := hb5.size; have h3 := hb6.size; omega
          generalize hgrr : w6.heap.size = gr at hD7 hgr hz6 ⊢
          have hgr7 : gr < w7.heap.size := hD7.lt
          go_wp2
          go_loopw [16] (fun i wr => ∃ t : Nat, t ≤ nl' ∧ i = .int .i64 t ∧ Found left had t g gr rn vt (.slice A5 n5 c5) (.bool false) (.slice An nn cn) (.slice Ad nd cd) w7 wr) (fun i _ => nl' - (intOf i).toNat)
          case atStart => exact ⟨0, Nat.zero_le _, rfl, .inl ⟨rfl, rfl⟩⟩
          case round =>
            obtain ⟨t, ht, rfl, hF⟩ := hrel
            by_cases hlt : t < nl'
            · have hLw : RInts wr Al' nl' cl' left ∧ RInts wr A4 C c4 had := by
                rcases hF with ⟨_, rfl⟩ | ⟨x, j, ge, _, _, _, _, _, _, _, _, hFr⟩
                · exact ⟨hL7, hR47⟩
                · refine ⟨(hL7.on.frame hFr (fun b hb e => ?_)).get, (hR47.on.frame hFr (fun b hb e => ?_)).get⟩
                  · have h1 := st.lS b hb; have h2 := st.hL.on.1 b hb; omega
                  · have h1 := hA4b.out b hb; have h2 := hb5.size; have h3 := hb6.size; omega
              obtain ⟨b, off, y, rfl, hcy, _, haty, _⟩ := hLw.1.step hlt
              have hyb := hmem.out y (List.mem_of_getElem? haty.out)
              obtain ⟨Y, rfl⟩ : ∃ Y : Nat, y = Y := ⟨y.toNat, by omega⟩
              obtain ⟨b2, off2, vy, rfl, hcv, _, hatv, _⟩ := hLw.2.step (show Y < C by omega)
              have hgy := hide (getI_of hatv.out)
              have hvyb := hhads.out vy (List.mem_of_getElem? hatv.out)
              have hwB := hide (show winB left had (Y : Int) = (decide (nl' = 1) || decide (had.sum < 2 * vy)) by unfold winB; rw [hgy.out, Hnl.out])
              have hsn := hide hsum.out
              have htk : Hid (left.take (t + 1) = left.take t ++ [(Y : Int)]) := by unfold Hid; rw [List.take_add_one, haty.out]; rfl
              clear hatv hLw
              by_cases h1 : nl' = 1
              · have f1 : ((nl' : Int) == 1) = true := by simp [h1]
                have hp : winB left had (Y : Int) = true := by rw [hwB.out]; simp [h1]
                clear h1
                rcases hF with ⟨hn, rfl⟩ | ⟨x, j, ge, hx, hj, hpx, _⟩
                · have Hp := hide hp
                  have Haty := hide haty.out
                  clear hp haty
                  have d4 := hD7.cell 4
                  have d5 := hD7.free 4
                  have g0 := hG7.cell 0
                  have g1 := hG7.free 0
                  have nne : Hid (gr ≠ g) := fun e => by omega
                  have hz8 : gr ≠ wr.heap.size := by omega
                  go_wp2
                  have hG8 := ((hG7.far (p := ⟨gr, 4, none⟩) (fun e => nne.out (Eq.symm e)) (.slice (some ⟨wr.heap.size, 0, none⟩) 1 1)).alloc (.cells #[.int .i64 (Y : Int)] 3)).put 0 (.slice (some ⟨wr.heap.size, 0, none⟩) 1 1)
                  have hD8 := ((hD7.put 4 (.slice (some ⟨wr.heap.size, 0, none⟩) 1 1)).alloc (.cells #[.int .i64 (Y : Int)] 3)).far (p := ⟨g, 0, none⟩) nne.out (.slice (some ⟨wr.heap.size, 0, none⟩) 1 1)
                  have hE8 := (Has.new (wr.setCell ⟨gr, 4, none⟩ (.slice (some ⟨wr.heap.size, 0, none⟩) 1 1)) 3 #[.int .i64 (Y : Int)]).far (p := ⟨g, 0, none⟩) (fun e => by have e : (wr.setCell ⟨gr, 4, none⟩ (.slice (some ⟨wr.heap.size, 0, none⟩) 1 1)).heap.size = g := e; simp [World.setCell] at e; omega) (.slice (some ⟨wr.heap.size, 0, none⟩) 1 1)
                  have hE8' : Has (((wr.setCell ⟨gr, 4, none⟩ (.slice (some ⟨wr.heap.size, 0, none⟩) 1 1)).alloc (.cells #[.int .i64 (Y : Int)] 3)).setCell ⟨g, 0, none⟩ (.slice (some ⟨wr.heap.size, 0, none⟩) 1 1)) wr.heap.size 3 #[.int .i64 (Y : Int)] := by
                    have e : (wr.setCell ⟨gr, 4, none⟩ (.slice (some ⟨wr.heap.size, 0, none⟩) 1 1)).heap.size = wr.heap.size := by simp [World.setCell]
                    rw [e] at hE8
                    exact hE8
                  have hF8 : Frame' (fun b => b = g ∨ b = gr) wr (((wr.setCell ⟨gr, 4, none⟩ (.slice (some ⟨wr.heap.size, 0, none⟩) 1 1)).alloc (.cells #[.int .i64 (Y : Int)] 3)).setCell ⟨g, 0, none⟩ (.slice (some ⟨wr.heap.size, 0, none⟩) 1 1)) :=
                    (((Frame'.refl (fun b => b = g ∨ b = gr) wr).setCell (p := ⟨gr, 4, none⟩) (.inl (.inr rfl)) _).alloc _).setCell (p := ⟨g, 0, none⟩) (.inl (.inl rfl)) _
                  clear hE8 d4 d5 g0 g1
                  go_roundw
                  case rel => exact ⟨t + 1, by omega, by go_num, .inr ⟨Y, t, wr.heap.size, Haty, by omega, Hp, by unfold Hid; rw [htk.out, List.find?_append, hn.out]; simp [Hp.out], hG8, hD8, hE8', Nat.le_refl _, hF8⟩⟩
                  case measure => simp [intOf] <;> omega
                · exfalso
                  have := winB_only hnd.out (fun x hx => (hhads.out x hx).1) Hlen4.out hmem.out hx.out haty.out hj hpx.out
                  rw [hp] at this
                  cases this
              · have f1 : ((nl' : Int) == 1) = false := by simp; omega
                by_cases h2 : had.sum < 2 * vy
                · have hp : winB left had (Y : Int) = true := by rw [hwB.out]; simp [h2]
                  clear h1
                  rcases hF with ⟨hn, rfl⟩ | ⟨x, j, ge, hx, hj, hpx, _⟩
                  · have Hp := hide hp
                    have Haty := hide haty.out
                    clear hp haty
                    have d4 := hD7.cell 4
                    have d5 := hD7.free 4
                    have g0 := hG7.cell 0
                    have g1 := hG7.free 0
                    have nne : Hid (gr ≠ g) := fun e => by omega
                    have hz8 : gr ≠ wr.heap.size := by omega
                    go_wp2
                    have hG8 := ((hG7.far (p := ⟨gr, 4, none⟩) (fun e => nne.out (Eq.symm e)) (.slice (some ⟨wr.heap.size, 0, none⟩) 1 1)).alloc (.cells #[.int .i64 (Y : Int)] 3)).put 0 (.slice (some ⟨wr.heap.size, 0, none⟩) 1 1)
                    have hD8 := ((hD7.put 4 (.slice (some ⟨wr.heap.size, 0, none⟩) 1 1)).alloc (.cells #[.int .i64 (Y : Int)] 3)).far (p := ⟨g, 0, none⟩) nne.out (.slice (some ⟨wr.heap.size, 0, none⟩) 1 1)
                    have hE8 := (Has.new (wr.setCell ⟨gr, 4, none⟩ (.slice (some ⟨wr.heap.size, 0, none⟩) 1 1)) 3 #[.int .i64 (Y : Int)]).far (p := ⟨g, 0, none⟩) (fun e => by have e : (wr.setCell ⟨gr, 4, none⟩ (.slice (some ⟨wr.heap.size, 0, none⟩) 1 1)).heap.size = g := e; simp [World.setCell] at e; omega) (.slice (some ⟨wr.heap.size, 0, none⟩) 1 1)
                    have hE8' : Has (((wr.setCell ⟨gr, 4, none⟩ (.slice (some ⟨wr.heap.size, 0, none⟩) 1 1)).alloc (.cells #[.int .i64 (Y : Int)] 3)).setCell ⟨g, 0, none⟩ (.slice (some ⟨wr.heap.size, 0, none⟩) 1 1)) wr.heap.size 3 #[.int .i64 (Y : Int)] := by
                      have e : (wr.setCell ⟨gr, 4, none⟩ (.slice (some ⟨wr.heap.size, 0, none⟩) 1 1)).heap.size = wr.heap.size := by simp [World.setCell]
                      rw [e] at hE8
                      exact hE8
                    have hF8 : Frame' (fun b => b = g ∨ b = gr) wr (((wr.setCell ⟨gr, 4, none⟩ (.slice (some ⟨wr.heap.size, 0, none⟩) 1 1)).alloc (.cells #[.int .i64 (Y : Int)] 3)).setCell ⟨g, 0, none⟩ (.slice (some ⟨wr.heap.size, 0, none⟩) 1 1)) :=
                      (((Frame'.refl (fun b => b = g ∨ b = gr) wr).setCell (p := ⟨gr, 4, none⟩) (.inl (.inr rfl)) _).alloc _).setCell (p := ⟨g, 0, none⟩) (.inl (.inl rfl)) _
                    clear hE8 d4 d5 g0 g1
                    go_roundw
                    case rel => exact ⟨t + 1, by omega, by go_num, .inr ⟨Y, t, wr.heap.size, Haty, by omega, Hp, by unfold Hid; rw [htk.out, List.find?_append, hn.out]; simp [Hp.out], hG8, hD8, hE8', Nat.le_refl _, hF8⟩⟩
                    case measure => simp [intOf] <;> omega
                  · exfalso
                    have := winB_only hnd.out (fun x hx => (hhads.out x hx).1) Hlen4.out hmem.out hx.out haty.out hj hpx.out
                    rw [hp] at this
                    cases this
                · have hp : winB left had (Y : Int) = false := by rw [hwB.out]; simp [h1, h2]
                  clear h1
                  have Hp := hide hp
                  have HF := hide hF
                  clear hp hF
                  go_wp2
                  go_roundw
                  case rel =>
                    refine ⟨t + 1, by omega, by go_num, ?_⟩
                    rcases HF.out with ⟨hn, rfl⟩ | ⟨x, j, ge, q1, q2, q3, q4, q5, q6, q7, q8, q9⟩
                    · exact .inl ⟨by unfold Hid; rw [htk.out, List.find?_append, hn.out]; simp [Hp.out], rfl⟩
                    · exact .inr ⟨x, j, ge, q1, by omega, q3, by unfold Hid; rw [htk.out, List.find?_append, q4.out]; rfl, q5, q6, q7, q8, q9⟩
                  case measure => simp [intOf] <;> omega
            · have htn : left.take t = left := List.take_of_length_le (by rw [Hnl.out]; omega)
              rcases hF with ⟨hn, rfl⟩ | ⟨x, j, ge, hx, hj, hpx, hfx, hGx, hDx, hEx, hgex, hFx⟩
              · have hwn := hide (show winS left had = none by have e := hn.out; rw [htn] at e; exact e)
                clear htn hn
                have g0 := hG7.cell 0
                have hxm : Hid (lastS lot (mostS l C left) ∈ mostS l C left) := hide (most_last (l := l) hsub.out hne.out Hlot.out)
                have hb0r := Below_trans' st.hb st.hb.size hb07
                have hP7 := hP4.below hb47 hP4.lt
                have p0 := hP7.cell 0
                have p1 := hP7.cell 1
                have p2 := hP7.cell 2
                go_wp2_with fail
                refine (ragainst_any C A n cp l Al' nl' cl' left wr (Hrow.below hb0r) hRk.out Hmo.out hL7 hnd.out hmem.out).mono ?_
                rintro e wb ⟨vb, rfl, hOb, hbb⟩
                clear p0 p1 p2
                have hbdb := hide (fun x => badS_bd (left := left) hRk.out.pos x)
                have hto := hRk.out.tot
                obtain ⟨Ab, cb, rfl⟩ := hOb.slice
                have hRb := hOb.ints (fun x hx => by obtain ⟨y, _, rfl⟩ := List.mem_map.1 hx; have := hbdb.out (y : Int); omega)
                rw [length_badL] at hRb ⊢
                clear hOb
                go_wp2_with fail
                refine (alike_any Al' nl' cl' left Ab C cb (badL left l C) wb (hL7.below hbb) hRb (by omega) hmem.out).mono ?_
                rintro e w8 ⟨v8, rfl, hO8, hb8⟩
                replace hb8 := Below_trans' hbb hbb.size hb8
                rw [alike_best (by rw [length_badL]; exact hsub.out)] at hO8
                replace hO8 : Own w8 wr.heap.size v8 (mostS l C left) := hO8.mono hbb.size
                clear g0
                obtain ⟨A8, c8, rfl⟩ := hO8.slice
                have hsl : (mostS l C left).Sublist left := most_sub l C left
                have hR8 := hO8.ints (fun x hx => by have := hmem.out x (hsl.subset hx); omega)
                have hA8b := hide (fun b (hb : fpS A8 (mostS l C left).length b) => hO8.own_lt (hO8.fps hb))
                clear hO8
                go_wp2_with fail
                refine (rlast_any At nt ct lot A8 _ c8 (mostS l C left) w8 (Hlo.below (Below_trans' (Below_trans' st.hb st.hb.size hb07) (Below_trans' st.hb st.hb.size hb07).size hb8)) hR8).mono ?_
                rintro e w' ⟨rfl, rfl⟩
                have hxb := hmem.out _ (hsl.subset hxm.out)
                have hb08 := Below_trans' hb07 hb07.size hb8
                have hG8 := hG7.below hb8 hG7.lt
                have hD8 := hD7.below hb8 hD7.lt
                have g2 := hG8.cell 2
                have htied := tied_any S0 vt ft ts A8 _ c8 (mostS l C left) (lastS lot (mostS l C left)) w8 (by have := hb08.size; omega) (st.hT.below hb08) hR8 (fun b hv hb => by have h1 := (st.hT.lt hv).2; have h2 := hA8b.out b hb; omega) ⟨by omega, by omega⟩ (by omega)
                clear g2
                have g2 := hG8.cell 2
                have gf2 := hG8.free 2
                obtain ⟨Avt, nvt, cvt, rfl⟩ : ∃ A n c, vt = .slice A n c := let ⟨A, c, e⟩ := st.hT.slice; ⟨A, _, c, e⟩
                generalize hx : lastS lot (mostS l C left) = x at htied hxb ⊢
                have Hx := hide hx
                clear hx
                go_wp2_with fail
                refine htied.mono ?_
                rintro e w9 ⟨vt', ft', rfl, hT9, hft9, hvt9, hF9⟩
                clear htied g2 gf2
                have hvo : ∀ b, (Value.slice Avt nvt cvt).ownBlock = some b → S0 ≤ b ∧ b < wo.heap.size := fun b e => st.hT.lt e
                have hG9 := hF9.has hG8 (fun e => by have := hvo _ e; omega)
                have hD9 := hF9.has hD8 (fun e => by have := hvo _ e; omega)
                have g2 := hG9.cell 2
                have gf2 := hG9.free 2
                obtain ⟨Aw, nw, cw, rfl⟩ : ∃ A n c, vt' = .slice A n c := let ⟨A, c, e⟩ := hT9.slice; ⟨A, _, c, e⟩
                go_upto_region 25 with fail
                have hG10 := hG9.put 2 (.slice Aw nw cw)
                have k10 : Frame' (fun b => b = g) w9 (w9.setCell ⟨g, 2, none⟩ (.slice Aw nw cw)) := Frame'.setCell (p := ⟨g, 2, none⟩) (Frame'.refl (fun b => b = g) w9) (.inl rfl) _
                generalize World.setCell w9 _ _ = w10 at hG10 k10 ⊢
                clear g2 gf2
                have hz8 := hb08.size
                have hz9 := hF9.size
                have hz7w := hb8.size
                have hft8 : ∀ b, ft' b → S0 ≤ b ∧ (b < wo.heap.size ∧ ft b ∨ wr.heap.size ≤ b ∧ b < w8.heap.size) := fun b hb => by
                  rcases hft9 b hb with h1 | h1
                  · exact ⟨st.ftS b h1, .inl ⟨st.hT.fp_lt h1, h1⟩⟩
                  · have h2 := hA8b.out b h1; exact ⟨by omega, .inr (by omega)⟩
                have hvw9 : ∀ b, (Value.slice Aw nw cw).ownBlock = some b → (Value.slice Avt nvt cvt).ownBlock = some b ∧ b < wo.heap.size ∨ w8.heap.size ≤ b ∧ b < w9.heap.size := fun b e => by
                  have h2 := (hT9.lt e).2
                  rcases hvt9 with h1 | ⟨b', h1, h3⟩
                  · rw [h1] at e; exact .inl ⟨e, (hvo b e).2⟩
                  · rw [h1] at e; cases e; exact .inr ⟨h3, h2⟩
                have hT10 := hT9.frame k10 (fun b hb e => by have := hft8 b hb; omega) (fun b hb e => by have := hT9.lt hb; omega)
                have kk : Frame' (fun b => b = g ∨ (Value.slice Avt nvt cvt).ownBlock = some b) w8 w10 := (hF9.mono fun _ _ e => .inr e).trans (k10.mono fun _ _ e => .inl e)
                have hD10 := k10.has hD9 (fun e => by omega)
                have hL10 := ((hL7.below hb8).on.frame kk (fun b hb e => by have h1 := st.lS b hb; rcases e with e | e; omega; exact (st.y2 b e).2 hb)).get
                go_wp2_with fail
                refine (without_any Al' nl' cl' left x w10 hL10 (by omega)).mono ?_
                rintro e w11 ⟨v11, rfl, hO11, hb11⟩
                obtain ⟨A11, c11, rfl⟩ := hO11.slice
                have hG11 := hG10.below hb11 hG10.lt
                have hD11 := hD10.below hb11 hD10.lt
                have d4 := hD11.cell 5
                have d5 := hD11.free 5
                go_upto_region 27 with fail
                have hO12 : Has ((w11.alloc (.cells #[.int .i64 x] 3)).setCell ⟨gr, 5, none⟩ (.slice (some ⟨w11.heap.size, 0, none⟩) 1 1)) w11.heap.size 3 #[.int .i64 x] := (Has.new w11 3 #[.int .i64 x]).far (p := ⟨gr, 5, none⟩) (Ne.symm (Nat.ne_of_lt hD11.lt)) _
                have k12 : Frame' (fun b => b = gr) w11 ((w11.alloc (.cells #[.int .i64 x] 3)).setCell ⟨gr, 5, none⟩ (.slice (some ⟨w11.heap.size, 0, none⟩) 1 1)) := Frame'.setCell (p := ⟨gr, 5, none⟩) ((Frame'.refl (fun b => b = gr) w11).alloc (.cells #[.int .i64 x] 3)) (.inl rfl) _
                have HD := (hD11.alloc (.cells #[.int .i64 x] 3)).put 5 (.slice (some ⟨w11.heap.size, 0, none⟩) 1 1)
                have HD : Has ((w11.alloc (.cells #[.int .i64 x] 3)).setCell ⟨gr, 5, none⟩ (.slice (some ⟨w11.heap.size, 0, none⟩) 1 1)) gr 54 #[.slice A5 n5 c5, .bool false, .slice An nn cn, .slice Ad nd cd, .slice none 0 0, .slice (some ⟨w11.heap.size, 0, none⟩) 1 1] := HD
                generalize World.setCell _ _ _ = WA at hO12 k12 HD ⊢
                clear d4 d5
                have kb : Frame' (fun b => b = g ∨ (Value.slice Avt nvt cvt).ownBlock = some b ∨ b = gr) w8 WA := ((kk.mono fun _ _ e => e.imp id .inl).trans (Frame'.of_below hb11)).trans (k12.mono fun _ _ e => .inr (.inr e))
                have kw : Frame' (fun b => b < wo.heap.size ∨ b = gr) wr WA := (Frame'.of_below hb8).trans (kb.mono fun b _ e => by rcases e with e | e | e; omega; have := hvo b e; omega; omega)
                have hz11 := hb11.size
                have hz10 := k10.size
                have HG := k12.has hG11 (fun e => by omega)
                have hel := RInts.nil_ WA
                have hou := lit_ints hO12 (x := x) ⟨by omega, by omega⟩
                have hw11 : w8.heap.size ≤ w11.heap.size := by omega
                have hfe : ∀ b, fpS (none : Option Addr) 0 b → wo.heap.size ≤ b ∧ b ≠ g := fun b hb => (fpS_none 0 b hb).elim
                have hfo : ∀ b, fpS (some ⟨w11.heap.size, 0, none⟩) 1 b → wo.heap.size ≤ b ∧ b ≠ g := fun b hb => by have e := fpS_some hb; omega
                have HOR := (st.hR.below hb08).frame kb (fun b hb e => by have h1 := st.frS b hb; have h2 := st.hR.fp_lt hb; rcases e with e | e | e; omega; exact (st.y2 b e).1 hb; omega) (fun b hb e => by have h1 := st.hR.lt hb; rcases e with e | e | e; omega; exact st.y3 b hb e; omega)
                have HOT := (hT10.below hb11).frame k12 (fun b hb e => by have := hft8 b hb; omega) (fun b hb e => by have := hvw9 b hb; omega)
                have hb67 := hb7
                have HO5 := (hO5.below (Below_trans' hb6 hb6.size hb7)).frame kw (fun b hb e => by have h1 := Hf5.out b hb; have h2 := hO5.fp_lt hb; have h3 := hb6.size; have h4 := hb4.size; omega) (fun b hb e => by have h1 := hO5.lt hb; have h3 := hb6.size; have h4 := hb4.size; omega)
                have HN := (hn6.below hb7).frame kw (fun b hb e => by have h1 := Hf6.out b (.inl hb); have h2 := hn6.on.1 b hb; have h3 := hb5.size; have h4 := hb4.size; omega)
                have HDn := (hd6.below hb7).frame kw (fun b hb e => by have h1 := Hf6.out b (.inr hb); have h2 := hd6.on.1 b hb; have h3 := hb5.size; have h4 := hb4.size; omega)
                have hEr := rnd_on HO5 HN HDn hel hou
                have hfp : ∀ b, fpR fp5 An nn Ad nd _ _ _ _ (.slice A5 n5 c5) b → wo.heap.size ≤ b ∧ b ≠ g := fun b hb => by
                  have h4 := hb4.size
                  have h5 := hb5.size
                  rcases hb with ((hb | hb) | hb | hb) | hb | hb
                  · have h1 := Hf5.out b hb; omega
                  · have h1 := (hO5.lt hb).1; omega
                  · have h1 := Hf6.out b (.inl hb); omega
                  · have h1 := Hf6.out b (.inr hb); omega
                  · exact hfe b hb
                  · exact hfo b hb
                obtain ⟨v', w', h41, hA⟩ := app_put_at infoRnd Tryz.underlying30 rfl (by decide) (by decide) 1 HG HOR hEr rfl (by simp [Value.oneCell']) (fun b hb e => by have h1 := st.hR.lt hb; have h2 := hfp b e; omega) (fun e => by have h1 := st.frS g e; omega) (fun e => (hfp g e).2 rfl) (fun e => by have h1 := st.hR.lt e; omega) (by have h1 := kw.size; omega) (by omega) (W1 := WA.alloc (.cells #[.slice A5 n5 c5, .bool false, .slice An nn cn, .slice Ad nd cd, _, _] 54)) below_allocN (Has.new _ _ _)
                have p2 := HG.cell 1
                have r0 := HD.cell 0
                have r1 := HD.cell 1
                have r2 := HD.cell 2
                have r3 := HD.cell 3
                have r4 := HD.cell 4
                have r5 := HD.cell 5
                obtain ⟨Arn, nrn, crn, rfl⟩ : ∃ Arn nrn crn, rn = .slice Arn nrn crn := let ⟨A, c, e⟩ := st.hR.slice; ⟨A, _, c, e⟩
                obtain ⟨Av, nv, cv, rfl⟩ : ∃ Av nv cv, v' = .slice Av nv cv := let ⟨A, c, e⟩ := hA.own.slice; ⟨A, _, c, e⟩
                have q1 := hA.hg.cell 1
                have f9 := hA.hg.free 1
                have q4 := hA.put.cell 0
                go_wp2_with (at_builtin; refine list_app rfl rfl rfl rfl h41 ?_)
                clear p2 r0 r1 r2 r3 r4 r5 q1 f9
                have hnx := Hci.out.next Hlot.out (by rw [HHad.out]; exact hwn.out)
                rw [HHad.out, HLost.out, Hx.out] at hnx
                have hlt' := hnx.2
                have hnx' := hide hnx.1
                have hWA := k12.size
                have hwb : w11.heap.size < WA.heap.size := hO12.lt
                have hrnlt : ∀ b, (Value.slice Arn nrn crn).ownBlock = some b → S0 ≤ b ∧ b < wo.heap.size := fun b e => st.hR.lt e
                have hfp2 : ∀ b, fpR fp5 An nn Ad nd none 0 (some ⟨w11.heap.size, 0, none⟩) 1 (.slice A5 n5 c5) b → wo.heap.size ≤ b ∧ (b < wr.heap.size ∨ b = w11.heap.size) := fun b hb => by
                  refine ⟨(hfp b hb).1, ?_⟩
                  have h6 := hb6.size
                  have h7 := hb7.size
                  rcases hb with ((hb | hb) | hb | hb) | hb | hb
                  · have h1 := hO5.fp_lt hb; omega
                  · have h1 := (hO5.lt hb).2; omega
                  · have h1 := hn6.on.1 b hb; omega
                  · have h1 := hd6.on.1 b hb; omega
                  · exact (fpS_none 0 b hb).elim
                  · exact .inr (fpS_some hb)
                have hL11 := hO11.ints (fun y hy => by have := hmem.out y ((outS_sub _ _).subset hy); omega)
                have hA11 : ∀ b, fpS A11 (outS left x).length b → w10.heap.size ≤ b ∧ b < w11.heap.size := fun b hb => hO11.own_lt (hO11.fps hb)
                have HOT2 := HOT.frame hA.fr2 (fun b hb e => by
                  have h1 := hft8 b hb
                  rcases e with e | e
                  · omega
                  · have h2 := hrnlt b e
                    rcases h1.2 with h3 | h3
                    · exact (st.y1 b e).1 h3.2
                    · omega) (fun b hb e => by
                  have h1 := HOT.lt hb
                  rcases e with e | e
                  · omega
                  · have h2 := hrnlt b e
                    rcases hvw9 b hb with h3 | h3
                    · exact st.y3 b e h3.1
                    · omega)
                have HB0 : Below w1.heap.size w1 WA := Frame'.below (Below_trans' st.hb st.hb.size hb08) kb (fun b e => by rcases e with e | e | e; omega; have := hvo b e; omega; have := st.hb.size; omega) (by have := st.hb.size; omega)
                have Hst : RSt S0 g w1 (w'.setCell ⟨g, 1, none⟩ (.slice Av nv cv)) (.slice Av nv cv) (.slice Aw nw cw) A11 (outS left x).length c11 (outS left x) (rs ++ [rndS had lost [] [x]]) (tiedS ts (mostS l C left) x) (fun b => fr b ∨ fpR fp5 An nn Ad nd none 0 (some ⟨w11.heap.size, 0, none⟩) 1 (.slice A5 n5 c5) b) ft' := {
                  hb := Frame'.below HB0 hA.fr2 (fun b e => by rcases e with e | e; omega; have := hrnlt b e; omega) (by have h1 := HB0.size; exact Nat.le_trans (Nat.le_refl _) h1)
                  bS := by have := hA.fr2.size; omega
                  hG := hA.put
                  hL := (((hL11.on.frame k12 (fun b hb e => by have := hA11 b hb; omega)).frame hA.fr2 (fun b hb e => by have h1 := hA11 b hb; rcases e with e | e; omega; have := hrnlt b e; omega))).get
                  lS := fun b hb => by have := hA11 b hb; omega
                  hR := hA.own
                  hT := HOT2
                  frS := fun b hb => by rcases hb with hb | hb; exact st.frS b hb; have := hfp2 b hb; omega
                  ftS := fun b hb => (hft8 b hb).1
                  y1 := fun b e => by
                    rcases hA.blk with h1 | ⟨b', h1, h2⟩
                    · rw [h1] at e
                      have h3 := hrnlt b e
                      refine ⟨fun hb => ?_, fun hb => by have := hA11 b hb; omega⟩
                      rcases (hft8 b hb).2 with h4 | h4
                      · exact (st.y1 b e).1 h4.2
                      · omega
                    · rw [h1] at e; cases e
                      refine ⟨fun hb => by have := hft8 _ hb; omega, fun hb => by have := hA11 _ hb; omega⟩
                  y2 := fun b e => by
                    have h3 := hvw9 b e
                    refine ⟨fun hb => ?_, fun hb => by have := hA11 b hb; have := k10.size; omega⟩
                    rcases hb with hb | hb
                    · rcases h3 with h4 | h4
                      · exact (st.y2 b h4.1).1 hb
                      · have := st.hR.fp_lt hb; omega
                    · have h5 := hfp2 b hb; omega
                  y3 := fun b e e2 => by
                    have h3 := hvw9 b e2
                    rcases hA.blk with h1 | ⟨b', h1, h2⟩
                    · rw [h1] at e
                      have h4 := hrnlt b e
                      rcases h3 with h5 | h5
                      · exact st.y3 b e h5.1
                      · omega
                    · rw [h1] at e; cases e; omega }
                have HSt := hide Hst
                clear Hst hnx st HOT2 hA
                go_roundg (outS left x).length
                case measure => exact hlt'
                case rel => exact ⟨_, _, _, _, _, _, _, _, _, _, rfl, hnx'.out, rfl, HSt.out⟩
              · have hwn := hide (show winS left had = some x by have e := hfx.out; rw [htn] at e; exact e)
                clear htn hfx
                have k7 := hFx
                have hz7 := hFx.size
                have kw : Frame' (fun b => b < wo.heap.size ∨ b = gr) w7 wr := hFx.mono fun b _ e => by omega
                have HG := hGx
                have HD := hDx
                have hel := lit_ints hEx (x := x) (by have hm := hmem.out x (List.mem_of_getElem? hx.out); exact ⟨by omega, by omega⟩)
                have hou := RInts.nil_ wr
                have hfe : ∀ b, fpS (some ⟨ge, 0, none⟩) 1 b → wo.heap.size ≤ b ∧ b ≠ g := fun b hb => by have e := fpS_some hb; have := hb07.size; omega
                have hfo : ∀ b, fpS (none : Option Addr) 0 b → wo.heap.size ≤ b ∧ b ≠ g := fun b hb => (fpS_none 0 b hb).elim
                have HOR := (st.hR.below hb07).frame hFx (fun b hb e => by have h1 := st.frS b hb; have h2 := st.hR.fp_lt hb; omega) (fun b hb e => by have h1 := st.hR.lt hb; omega)
                have HOT := (st.hT.below hb07).frame hFx (fun b hb e => by have h1 := st.ftS b hb; have h2 := st.hT.fp_lt hb; omega) (fun b hb e => by have h1 := st.hT.lt hb; omega)
                have g0 := hGx.cell 0
                have HBx : Below w1.heap.size w1 wr := Frame'.below (Below_trans' st.hb st.hb.size hb07) hFx (fun b e => by have := st.hb.size; omega) (by have h1 := st.hb.size; have h2 := hb07.size; omega)
                have hb67 := hb7
                have HO5 := (hO5.below (Below_trans' hb6 hb6.size hb7)).frame kw (fun b hb e => by have h1 := Hf5.out b hb; have h2 := hO5.fp_lt hb; have h3 := hb6.size; have h4 := hb4.size; omega) (fun b hb e => by have h1 := hO5.lt hb; have h3 := hb6.size; have h4 := hb4.size; omega)
                have HN := (hn6.below hb7).frame kw (fun b hb e => by have h1 := Hf6.out b (.inl hb); have h2 := hn6.on.1 b hb; have h3 := hb5.size; have h4 := hb4.size; omega)
                have HDn := (hd6.below hb7).frame kw (fun b hb e => by have h1 := Hf6.out b (.inr hb); have h2 := hd6.on.1 b hb; have h3 := hb5.size; have h4 := hb4.size; omega)
                have hEr := rnd_on HO5 HN HDn hel hou
                have hfp : ∀ b, fpR fp5 An nn Ad nd _ _ _ _ (.slice A5 n5 c5) b → wo.heap.size ≤ b ∧ b ≠ g := fun b hb => by
                  have h4 := hb4.size
                  have h5 := hb5.size
                  rcases hb with ((hb | hb) | hb | hb) | hb | hb
                  · have h1 := Hf5.out b hb; omega
                  · have h1 := (hO5.lt hb).1; omega
                  · have h1 := Hf6.out b (.inl hb); omega
                  · have h1 := Hf6.out b (.inr hb); omega
                  · exact hfe b hb
                  · exact hfo b hb
                obtain ⟨v', w', h41, hA⟩ := app_put_at infoRnd Tryz.underlying30 rfl (by decide) (by decide) 1 HG HOR hEr rfl (by simp [Value.oneCell']) (fun b hb e => by have h1 := st.hR.lt hb; have h2 := hfp b e; omega) (fun e => by have h1 := st.frS g e; omega) (fun e => (hfp g e).2 rfl) (fun e => by have h1 := st.hR.lt e; omega) (by have h1 := kw.size; omega) (by omega) (W1 := wr.alloc (.cells #[.slice A5 n5 c5, .bool false, .slice An nn cn, .slice Ad nd cd, _, _] 54)) below_allocN (Has.new _ _ _)
                have p2 := HG.cell 1
                have r0 := HD.cell 0
                have r1 := HD.cell 1
                have r2 := HD.cell 2
                have r3 := HD.cell 3
                have r4 := HD.cell 4
                have r5 := HD.cell 5
                obtain ⟨Arn, nrn, crn, rfl⟩ : ∃ Arn nrn crn, rn = .slice Arn nrn crn := let ⟨A, c, e⟩ := st.hR.slice; ⟨A, _, c, e⟩
                obtain ⟨Av, nv, cv, rfl⟩ : ∃ Av nv cv, v' = .slice Av nv cv := let ⟨A, c, e⟩ := hA.own.slice; ⟨A, _, c, e⟩
                have q1 := hA.hg.cell 1
                have f9 := hA.hg.free 1
                have q4 := hA.put.cell 0
                go_upto_region 21 with (at_builtin; refine list_app rfl rfl rfl rfl h41 ?_)
                clear p2 r0 r1 r2 r3 r4 r5 q1 f9
                obtain ⟨Avt, nvt, cvt, rfl⟩ : ∃ A n c, vt = .slice A n c := let ⟨A, c, e⟩ := st.hT.slice; ⟨A, _, c, e⟩
                clear g0 q4
                have hrnlt : ∀ b, (Value.slice Arn nrn crn).ownBlock = some b → S0 ≤ b ∧ b < wo.heap.size := fun b e => st.hR.lt e
                have HB2 : Below w1.heap.size w1 (w'.setCell ⟨g, 1, none⟩ (.slice Av nv cv)) := Frame'.below HBx hA.fr2 (fun b e => by rcases e with e | e; omega; have := hrnlt b e; omega) HBx.size
                have HOT2 := HOT.frame hA.fr2 (fun b hb e => by
                  rcases e with e | e
                  · have := st.ftS b hb; omega
                  · exact (st.y1 b e).1 hb) (fun b hb e => by
                  rcases e with e | e
                  · have := st.hT.lt hb; omega
                  · exact st.y3 b e hb)
                have hOn := ((hel.on.frame hA.fr2 (fun b hb e => by have h1 := hfe b hb; rcases e with e | e; omega; have := hrnlt b e; omega)).and (hA.own.on.and HOT2.on)).imp (R' := fun W => ROut W (some ⟨ge, 0, none⟩) 1 1 Av nv cv Avt nvt cvt ([x], rs ++ [rndS had lost [x] []], ts)) fun W hW => ⟨hW.1, hW.2.1, hW.2.2⟩
                have hRf := hR1.below HB2 hR1.lt
                have q0 := hA.put.cell 0
                have q1 := hA.put.cell 1
                have q2 := hA.put.cell 2
                have r0 := hRf.cell 0
                have r1 := hRf.cell 1
                have r2 := hRf.cell 2
                have f0 := hRf.free 0
                have f1 := hRf.free 1
                have f2 := hRf.free 2
                have hz1 := st.hb.size
                have hfin := hide (Hci.out.won (by rw [HHad.out]; exact hwn.out))
                have hbnd : Hid (∀ b, (fpS (some ⟨ge, 0, none⟩) 1 b ∨ ((fr b ∨ fpR fp5 An nn Ad nd (some ⟨ge, 0, none⟩) 1 none 0 (.slice A5 n5 c5) b) ∨ (Value.slice Av nv cv).ownBlock = some b) ∨ ft b ∨ (Value.slice Avt nvt cvt).ownBlock = some b) → w1.heap.size ≤ b) := by
                  rintro b (hb | (((hb | hb) | hb) | hb | hb))
                  · have := hfe b hb; omega
                  · have := st.frS b hb; omega
                  · have := hfp b hb; omega
                  · have := (hA.own.lt hb).1; omega
                  · have := st.ftS b hb; omega
                  · have := st.hT.lt hb; omega
                go_wp2
                have hfr : Frame' (fun b => b = V.heap.size) (w'.setCell ⟨g, 1, none⟩ (.slice Av nv cv)) ((((w'.setCell ⟨g, 1, none⟩ (.slice Av nv cv)).setCell ⟨V.heap.size, 0, none⟩ (.slice (some ⟨ge, 0, none⟩) 1 1)).setCell ⟨V.heap.size, 1, none⟩ (.slice Av nv cv)).setCell ⟨V.heap.size, 2, none⟩ (.slice Avt nvt cvt)) := ((Frame'.refl (fun b => b = V.heap.size) _).setCell (p := ⟨V.heap.size, 0, none⟩) (.inl rfl) _ |>.setCell (p := ⟨V.heap.size, 1, none⟩) (.inl rfl) _).setCell (p := ⟨V.heap.size, 2, none⟩) (.inl rfl) _
                refine retOut2 rfl rfl rfl (put3 hRf) rfl rfl ⟨_, _, _, Av, nv, cv, Avt, nvt, cvt, by rw [hE0.out]; rfl, ?_, below3 (Below_trans' hb01 hb01.size HB2) (by omega) _ _ _⟩
                have ho : runB C 1 l seats lot = ([x], rs ++ [rndS had lost [x] []], ts) := by rw [hro.out, Int.toNat_natCast, hfin.out, HHad.out, HLost.out]
                rw [ho]
                exact (hOn.frame hfr (fun b hb e => by have := hbnd.out b hb; omega)).get
  · have e1 : (mayS c k l 1 seats 1 lot != 0) = true := by simp [hE]
    have hro := hide (runB_bad hE)
    have q0 := hR1.cell 0
    have q1 := hR1.cell 1
    have q2 := hR1.cell 2
    have f0 := hR1.free 0
    have f1 := hR1.free 1
    have f2 := hR1.free 2
    go_wp2
    refine retOut2 rfl rfl rfl (put3 hR1) rfl rfl ⟨none, 0, 0, none, 0, 0, none, 0, 0, rfl, ?_, below3 hb01 (by omega) _ _ _⟩
    rw [hro.out]
    exact ROut.nil_ _
end Go.Proofs.YtcmoekkaakkpjaaGreat

namespace Go.Proofs.YtcmoekkaakkpjaaGreat
open Go.RowKit Go.Proofs Go.Shelf
attribute [local go_sem] cell?_more cell?_alloc_some cell?_setCell_far frozen?_alloc_some frozen?_more

theorem Own.litC (w : World) (B : Nat) (hB : B ≤ w.heap.size) : Own (w.alloc (.cells #[] 3)) B (.slice (some ⟨w.heap.size, 0, none⟩) 0 0) [] := by
  have := World.ownsRow_lit (base := B) (e := 3) (size := 1) w #[] 0 hB (by unfold maxLen; omega) (by simp)
  unfold Own
  simpa using this
theorem orows_sl {w : World} {B : Nat} {v : Value} {l : List Row} (h : ORows w B v l) : ∃ A n c, v = .slice A n c := by
  obtain ⟨cs, _, ho, _⟩ := h
  rcases ho.2 with ⟨e, _⟩ | ⟨g, cap, cur, e, _⟩
  · exact ⟨_, _, _, e⟩
  · exact ⟨_, _, _, e⟩
/-- Is a profile, or a lot, too great? -/
def great16 (l : List Row) (lot : List Int) : Bool := greatS l || decide (60 < lot.length)
theorem great16_any (c k : Int) (A : Option Addr) (n cp : Nat) (l : List Row) (At : Option Addr) (nt ct : Nat) (lot : List Int) (w : World) (h : RRows w A n cp l) (h' : RInts w At nt ct lot) :
    Calls Tryz.prog 15 #[.agg #[.int .i64 c, .int .u8 k, .slice A n cp], .slice At nt ct] w fun e w' => e = .returned (.bool (great16 l lot)) ∧ Below w.heap.size w w' := by
  have hb0 : Below w.heap.size w (w.alloc (.cells #[.int .i64 c, .int .u8 k, .slice A n cp] 24)) := below_allocN
  have hP0 := Has.new w 24 #[.int .i64 c, .int .u8 k, .slice A n cp]
  have hl := h'.len
  generalize hW : World.alloc w _ = W0 at hb0 hP0
  have p0 := hP0.cell 0
  have p1 := hP0.cell 1
  have p2 := hP0.cell 2
  go_enter Tryz.func15, Tryz.ntmps15
  go_wp2_with fail
  try simp only [hW]
  clear hW
  refine (great_any c k A n cp l W0 (h.below hb0)).mono ?_
  rintro e w1 ⟨rfl, hb1⟩
  have hb01 := Below_trans' hb0 hb0.size hb1
  cases hg : greatS l with
  | true =>
    go_wp2
    go_ret
    exact ⟨by unfold great16; rw [hg]; rfl, hb01⟩
  | false =>
    have hr : Hid (decide ((60 : Int) < (nt : Int)) = great16 l lot) := by
      unfold Hid great16
      rw [hg, hl, Bool.false_or]
      exact decide_eq_decide.2 (by omega)
    clear hg hl
    go_wp2
    go_ret
    exact ⟨ret_b hr.out, hb01⟩
theorem lasts_bd (c k : Int) (l : List Row) (bs : List Bool) : ∀ x ∈ lastsL c k l bs, -9223372036854775808 ≤ x ∧ x ≤ 9223372036854775807 := fun x hx => by
  unfold lastsL at hx
  split at hx
  · rename_i h
    have h1 : checkS c k l = 0 ∧ k = 1 := by
      unfold firstsE at h
      split at h
      · omega
      · rename_i h2; exact ⟨Decidable.byContradiction fun e => h2 (.inl e), Decidable.byContradiction fun e => h2 (.inr e)⟩
    obtain ⟨h1, rfl⟩ := h1
    have hcs := check_ok h1
    obtain ⟨C, rfl⟩ : ∃ C : Nat, c = (C : Int) := ⟨c.toNat, by omega⟩
    obtain ⟨y, _, rfl⟩ := List.mem_map.1 hx
    have h2 := badS_bd (left := leftT bs (C : Int).toNat) (rank_ok h1).pos (y : Int)
    have h3 := (rank_ok h1).tot
    omega
  · simp at hx
set_option maxRecDepth 100000 in
set_option maxHeartbeats 4000000 in
theorem coombsTells_any (c k : Int) (A : Option Addr) (n cp : Nat) (l : List Row) (seats : Int) (At : Option Addr) (nt ct : Nat) (lot : List Int) (AB : Option Addr) (nB cB : Nat) (bs : List Bool) (w : World) (h : RRows w A n cp l) (hl : RInts w At nt ct lot) (hB : RBools w AB nB cB bs) :
    Calls Tryz.prog 7 #[.agg #[.int .i64 c, .int .u8 k, .slice A n cp], .int .i64 seats, .slice At nt ct, .slice AB nB cB] w fun e w' => e = .returned (.bool true) ∧ Below w.heap.size w w' := by
  have hb : Below w.heap.size w (w.alloc (.cells #[.int .i64 c, .int .u8 k, .slice A n cp] 24)) := below_allocN
  have hP := Has.new w 24 #[.int .i64 c, .int .u8 k, .slice A n cp]
  generalize hW : World.alloc w _ = W0 at hb hP
  have p0 := hP.cell 0
  have p1 := hP.cell 1
  have p2 := hP.cell 2
  go_enter Tryz.func7, Tryz.ntmps7
  go_wp2_with fail
  try simp only [hW]
  clear hW
  refine (great16_any c k A n cp l At nt ct lot W0 (h.below hb) (hl.below hb)).mono ?_
  rintro e z0 ⟨rfl, hbz0⟩
  have hbw0 := Below_trans' hb hb.size hbz0
  replace hP := hP.below hbz0 hP.lt
  clear p0 p1 p2
  cases hg : great16 l lot with
  | true =>
    clear hg
    go_wp2_with fail
    refine (wakes16_any _).mono ?_
    rintro e w9 ⟨rfl, hb9⟩
    go_wp2
    go_ret
    exact ⟨rfl, Below_trans' hbw0 (hbw0).size hb9⟩
  | false =>
    by_cases h6 : (60 : Int) < (nB : Int)
    · clear hg
      go_wp2_with fail
      refine (wakes16_any _).mono ?_
      rintro e w9 ⟨rfl, hb9⟩
      go_wp2
      go_ret
      exact ⟨rfl, Below_trans' hbw0 (hbw0).size hb9⟩
    · have hg1 : greatS l = false ∧ lot.length ≤ 60 := by
        unfold great16 at hg
        rw [Bool.or_eq_false_iff, decide_eq_false_iff_not] at hg
        exact ⟨hg.1, by omega⟩
      have G1 := great_no hg1.1
      have hn9 : n ≤ 1000 := by have := h.len; omega
      have hnt : nt ≤ 60 := by have := hl.len; omega
      have hlt := hg1.2
      have M1 := hide (show ∀ r ∈ l, r.1.length ≤ 1000 from fun r hr => by have := G1.2 r hr; omega)
      have hz := h.below hbw0
      have hlz := hl.below hbw0
      have hbz := hB.below hbw0
      have hbnd := hide (fun x (hx : x ∈ lot) => hl.bd hx)
      clear hg hg1 G1
      have cp_0 := hP.cell 0
      have cp_1 := hP.cell 1
      have cp_2 := hP.cell 2
      go_wp2_with fail
      refine (rtwin_any c k A n cp l z0 hz hn9 M1.out).mono ?_
      rintro e z1 ⟨vw, rfl, hOw, hb0⟩
      clear cp_0 cp_1 cp_2
      obtain ⟨Aw, nw, cw, rfl⟩ := orows_sl hOw
      have hba : Below z1.heap.size z1 (z1.alloc (.cells #[] 3)) := below_allocN
      obtain ⟨vo, zz, h41, h42, h43, h44⟩ := run_appInts (z1.alloc (.cells #[] 3)) 25 (Own.litC z1 z1.heap.size (Nat.le_refl _)) ((hlz.below hb0).below hba) (by simp; omega) hba.size
      rw [List.nil_append] at h42
      have hb1 : Below z1.heap.size z1 zz := hba.grown h43 hba.size (fun j hj => by cases hj; exact Nat.le_refl _)
      obtain ⟨Ao, co, rfl⟩ := h42.slice
      have hro := h42.ints hbnd.out
      generalize lot.length = no at h41 h42 hro ⊢
      clear h44 h42
      go_upto_region 4 with (at_builtin; refine list_app rfl rfl rfl rfl h41 ?_)
      clear h41 h43 hba
      have hb2 : Below zz.heap.size zz (zz.alloc (.cells #[.int .i64 c, .int .u8 k, .slice Aw nw cw] 24)) := below_allocN
      have hwas := Has.new zz 24 #[.int .i64 c, .int .u8 k, .slice Aw nw cw]
      generalize World.alloc zz _ = z3 at hb2 hwas ⊢
      have hB1_3 := Below_trans' hb1 hb1.size hb2
      have hB0_3 := Below_trans' hb0 hb0.size hB1_3
      have cp_0 := (hP.below hB0_3 hP.lt).cell 0
      have cp_1 := (hP.below hB0_3 hP.lt).cell 1
      have cp_2 := (hP.below hB0_3 hP.lt).cell 2
      go_wp2_with fail
      refine (pcountB_any c k A n cp l seats At nt ct lot z3 (hz.below hB0_3) (hlz.below hB0_3) (by omega)).mono ?_
      rintro e z4 ⟨E1, ne1, ce1, R1, nr1, cr1, V1, nv1, cv1, rfl, hO1, hb3⟩
      clear cp_0 cp_1 cp_2
      go_upto_region 5 with fail
      have hb4 : Below z4.heap.size z4 (z4.alloc (.cells #[.slice E1 ne1 ce1, .slice R1 nr1 cr1, .slice V1 nv1 cv1] 33)) := below_allocN
      have ho1 := Has.new z4 33 #[.slice E1 ne1 ce1, .slice R1 nr1 cr1, .slice V1 nv1 cv1]
      generalize World.alloc z4 _ = z5 at hb4 ho1 ⊢
      have go1 : z4.heap.size < z5.heap.size := ho1.lt
      have hB3_5 := Below_trans' hb3 hb3.size hb4
      have hB2_5 := Below_trans' hb2 hb2.size hB3_5
      have hB1_5 := Below_trans' hb1 hb1.size hB2_5
      have hB0_5 := Below_trans' hb0 hb0.size hB1_5
      have cp_0 := (hP.below hB0_5 hP.lt).cell 0
      have cp_1 := (hP.below hB0_5 hP.lt).cell 1
      have cp_2 := (hP.below hB0_5 hP.lt).cell 2
      go_wp2_with fail
      refine (rcountB_any c k A n cp l seats At nt ct lot z5 (hz.below hB0_5) (hlz.below hB0_5)).mono ?_
      rintro e z6 ⟨E2, ne2, ce2, R2, nr2, cr2, V2, nv2, cv2, rfl, hO2, hb5⟩
      clear cp_0 cp_1 cp_2
      go_upto_region 6 with fail
      have hb6 : Below z6.heap.size z6 (z6.alloc (.cells #[.slice E2 ne2 ce2, .slice R2 nr2 cr2, .slice V2 nv2 cv2] 33)) := below_allocN
      have ho2 := Has.new z6 33 #[.slice E2 ne2 ce2, .slice R2 nr2 cr2, .slice V2 nv2 cv2]
      generalize World.alloc z6 _ = z7 at hb6 ho2 ⊢
      have go2 : z6.heap.size < z7.heap.size := ho2.lt
      have hB5_7 := Below_trans' hb5 hb5.size hb6
      have hB4_7 := Below_trans' hb4 hb4.size hB5_7
      have hB3_7 := Below_trans' hb3 hb3.size hB4_7
      have hB2_7 := Below_trans' hb2 hb2.size hB3_7
      have hB1_7 := Below_trans' hb1 hb1.size hB2_7
      have hB0_7 := Below_trans' hb0 hb0.size hB1_7
      have cp_0 := (hP.below hB0_7 hP.lt).cell 0
      have cp_1 := (hP.below hB0_7 hP.lt).cell 1
      have cp_2 := (hP.below hB0_7 hP.lt).cell 2
      go_wp2_with fail
      refine (plasts_any c k A n cp l AB nB cB bs z7 (hz.below hB0_7) (hbz.below hB0_7)).mono ?_
      rintro e z8 ⟨v3, rfl, hF3, hb7⟩
      clear cp_0 cp_1 cp_2
      obtain ⟨F3, f3, rfl⟩ := hF3.slice
      have rF3 := hF3.ints (lasts_bd c k l bs)
      generalize (lastsL c k l bs).length = m3 at rF3 hF3 ⊢
      clear hF3
      go_upto_region 7 with fail
      have hB6_8 := Below_trans' hb6 hb6.size hb7
      have hB5_8 := Below_trans' hb5 hb5.size hB6_8
      have hB4_8 := Below_trans' hb4 hb4.size hB5_8
      have hB3_8 := Below_trans' hb3 hb3.size hB4_8
      have hB2_8 := Below_trans' hb2 hb2.size hB3_8
      have hB1_8 := Below_trans' hb1 hb1.size hB2_8
      have hB0_8 := Below_trans' hb0 hb0.size hB1_8
      have cp_0 := (hP.below hB0_8 hP.lt).cell 0
      have cp_1 := (hP.below hB0_8 hP.lt).cell 1
      have cp_2 := (hP.below hB0_8 hP.lt).cell 2
      go_wp2_with fail
      refine (rlasts_any c k A n cp l AB nB cB bs z8 (hz.below hB0_8) (hbz.below hB0_8)).mono ?_
      rintro e z9 ⟨v4, rfl, hF4, hb8⟩
      clear cp_0 cp_1 cp_2
      obtain ⟨F4, f4, rfl⟩ := hF4.slice
      have rF4 := hF4.ints (lasts_bd c k l bs)
      generalize (lastsL c k l bs).length = m4 at rF4 hF4 ⊢
      clear hF4
      go_upto_region 8 with fail
      have e1 : (mayS c k l 1 seats 1 lot == mayS c k l 1 seats 1 lot) = true := by simp
      have e3 : (firstsE c k l == firstsE c k l) = true := by simp
      have hB7_9 := Below_trans' hb7 hb7.size hb8
      have hB6_9 := Below_trans' hb6 hb6.size hB7_9
      have hB5_9 := Below_trans' hb5 hb5.size hB6_9
      have co1_0 := (ho1.below hB5_9 ho1.lt).cell 0
      have co1_1 := (ho1.below hB5_9 ho1.lt).cell 1
      have co1_2 := (ho1.below hB5_9 ho1.lt).cell 2
      have co2_0 := (ho2.below hB7_9 ho2.lt).cell 0
      have co2_1 := (ho2.below hB7_9 ho2.lt).cell 1
      have co2_2 := (ho2.below hB7_9 ho2.lt).cell 2
      go_wp2_with fail
      have hB4_9 := Below_trans' hb4 hb4.size hB5_9
      refine (same_eq _ _ _ _ _ _ _ _ _ _ _ _ _ _ _ _ _ _ _ z9 (hO1.below hB4_9) (hO2.below hB6_9)).mono ?_
      rintro e z10 ⟨rfl, hb9⟩
      clear co1_0 co1_1 co1_2 co2_0 co2_1 co2_2
      go_wp2_with fail
      have hB8_10 := Below_trans' hb8 hb8.size hb9
      refine (ints_eq _ _ _ _ _ _ _ z10 (rF3.below hB8_10) (rF4.below hb9)).mono ?_
      rintro e z11 ⟨rfl, hb10⟩
      have hB9_11 := Below_trans' hb9 hb9.size hb10
      have hB8_11 := Below_trans' hb8 hb8.size hB9_11
      have hB7_11 := Below_trans' hb7 hb7.size hB8_11
      have hB6_11 := Below_trans' hb6 hb6.size hB7_11
      have hB5_11 := Below_trans' hb5 hb5.size hB6_11
      have hB4_11 := Below_trans' hb4 hb4.size hB5_11
      have hB3_11 := Below_trans' hb3 hb3.size hB4_11
      have hB2_11 := Below_trans' hb2 hb2.size hB3_11
      have hB1_11 := Below_trans' hb1 hb1.size hB2_11
      have hB0_11 := Below_trans' hb0 hb0.size hB1_11
      have cp_0 := (hP.below hB0_11 hP.lt).cell 0
      have cp_1 := (hP.below hB0_11 hP.lt).cell 1
      have cp_2 := (hP.below hB0_11 hP.lt).cell 2
      have cwas_0 := (hwas.below hB3_11 hwas.lt).cell 0
      have cwas_1 := (hwas.below hB3_11 hwas.lt).cell 1
      have cwas_2 := (hwas.below hB3_11 hwas.lt).cell 2
      go_wp2_with fail
      refine (rsame_any c k A n cp l c k Aw nw cw l z11 (hz.below hB0_11) (hOw.rows.below hB1_11)).mono ?_
      rintro e z12 ⟨rfl, hb11⟩
      clear cp_0 cp_1 cp_2 cwas_0 cwas_1 cwas_2
      rw [sameB_self]
      go_wp2_with fail
      have hB10_12 := Below_trans' hb10 hb10.size hb11
      have hB9_12 := Below_trans' hb9 hb9.size hB10_12
      have hB8_12 := Below_trans' hb8 hb8.size hB9_12
      have hB7_12 := Below_trans' hb7 hb7.size hB8_12
      have hB6_12 := Below_trans' hb6 hb6.size hB7_12
      have hB5_12 := Below_trans' hb5 hb5.size hB6_12
      have hB4_12 := Below_trans' hb4 hb4.size hB5_12
      have hB3_12 := Below_trans' hb3 hb3.size hB4_12
      have hB2_12 := Below_trans' hb2 hb2.size hB3_12
      have hB1_12 := Below_trans' hb1 hb1.size hB2_12
      have hB0_12 := Below_trans' hb0 hb0.size hB1_12
      refine (ints_eq _ _ _ _ _ _ _ z12 (hlz.below hB0_12) (hro.below hB2_12)).mono ?_
      rintro e z13 ⟨rfl, hb12⟩
      have hB11_13 := Below_trans' hb11 hb11.size hb12
      have hB10_13 := Below_trans' hb10 hb10.size hB11_13
      have hB9_13 := Below_trans' hb9 hb9.size hB10_13
      have hB8_13 := Below_trans' hb8 hb8.size hB9_13
      have hB7_13 := Below_trans' hb7 hb7.size hB8_13
      have hB6_13 := Below_trans' hb6 hb6.size hB7_13
      have hB5_13 := Below_trans' hb5 hb5.size hB6_13
      have hB4_13 := Below_trans' hb4 hb4.size hB5_13
      have hB3_13 := Below_trans' hb3 hb3.size hB4_13
      have hB2_13 := Below_trans' hb2 hb2.size hB3_13
      have hB1_13 := Below_trans' hb1 hb1.size hB2_13
      have hB0_13 := Below_trans' hb0 hb0.size hB1_13
      have hbe := Below_trans' hbw0 hbw0.size (hB0_13)
      go_wp2_with fail
      refine (wakes16_any _).mono ?_
      rintro e w9 ⟨rfl, hb9⟩
      go_wp2
      go_ret
      exact ⟨rfl, Below_trans' hbe (hbe).size hb9⟩
end Go.Proofs.YtcmoekkaakkpjaaGreat
