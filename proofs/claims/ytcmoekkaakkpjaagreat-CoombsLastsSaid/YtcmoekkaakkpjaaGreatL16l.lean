/-
  The law CoombsLasts.
-/
import Derived.Test.YtcmoekkaakkpjaaGreatW16c
import Derived.Deep.CutRange
namespace Go.Proofs.YtcmoekkaakkpjaaGreat
open Go.RowKit Go.Proofs Go.Shelf
attribute [local go_sem] cell?_more cell?_alloc_some cell?_setCell_far frozen?_alloc_some frozen?_more

/-! How many a ballot is against. -/
theorem agB_in {left ms : List Int} {x : Int} (h : agB left ms x = true) : inL left x = true := by
  unfold agB at h
  split at h
  · exact List.find?_some (of_decide_eq_true h)
  · rw [Bool.and_eq_true] at h; exact h.1
theorem badS_out {left : List Int} {l : List Row} {x : Int} (h : inL left x = false) : badS left l x = 0 :=
  wsum_zero fun r _ => by
    cases e : agB left r.1 x with
    | false => rfl
    | true => rw [agB_in e] at h; cases h
def cntA (left ms : List Int) (C : Nat) : Nat := ((List.range C).filter fun x : Nat => agB left ms (x : Int)).length
theorem sum_if (p : Nat → Bool) (y : Int) : ∀ C : Nat, ((List.range C).map fun x : Nat => if p x = true then y else 0).sum = y * (((List.range C).filter p).length : Int)
  | 0 => by simp
  | C + 1 => by
    rw [List.range_succ, List.map_append, List.sum_append, List.filter_append, List.length_append, sum_if p y C]
    cases h : p C with
    | true => simp [h, Int.mul_add]
    | false => simp [h]
theorem sum_badL_cons (left : List Int) (a : Row) (r : List Row) : ∀ C : Nat, (badL left (a :: r) C).sum = a.2 * (cntA left a.1 C : Int) + (badL left r C).sum := fun C => by
  have h1 : ∀ x : Nat, badS left (a :: r) (x : Int) = (if agB left a.1 (x : Int) = true then a.2 else 0) + badS left r (x : Int) := fun x => by unfold badS; rw [wsum_cons]
  have h2 := sum_if (fun x : Nat => agB left a.1 (x : Int)) a.2 C
  unfold badL cntA
  rw [← h2]
  have : ∀ C : Nat, ((List.range C).map fun x : Nat => badS left (a :: r) (x : Int)).sum = ((List.range C).map fun x : Nat => if agB left a.1 (x : Int) = true then a.2 else 0).sum + ((List.range C).map fun x : Nat => badS left r (x : Int)).sum := fun C => by
    induction C with
    | zero => rfl
    | succ C ih =>
      rw [List.range_succ, List.map_append, List.map_append, List.map_append, List.sum_append, List.sum_append, List.sum_append, ih]
      simp only [List.map_cons, List.map_nil, List.sum_cons, List.sum_nil, h1]
      omega
  exact this C
theorem filter_int (p : Int → Bool) (C : Nat) : (((List.range C).filter fun x : Nat => p (x : Int)).map fun x : Nat => (x : Int)) = (rangeI C).filter p := by
  unfold rangeI; rw [List.filter_map]; rfl
theorem cntA_eq (left ms : List Int) (C : Nat) : cntA left ms C = ((rangeI C).filter (agB left ms)).length := by
  rw [← filter_int (agB left ms) C, List.length_map]; rfl
theorem cnt_le {left ms : List Int} {C : Nat} : cntA left ms C ≤ left.length := by
  rw [cntA_eq]
  exact ((nodup_rangeI C).sublist List.filter_sublist).length_le_of_subset fun x hx => inL_iff.1 (agB_in (List.mem_filter.1 hx).2)
theorem cnt_ge {left ms : List Int} {C : Nat} (hne : left ≠ []) (hr : ∀ x ∈ left, 0 ≤ x ∧ x < C) (hm : ∀ x ∈ ms, 0 ≤ x ∧ x < C) : 1 ≤ cntA left ms C := by
  rw [cntA_eq]
  suffices h : ∃ x, (0 ≤ x ∧ x < (C : Int)) ∧ agB left ms x = true by
    obtain ⟨x, hx, ha⟩ := h
    exact List.length_pos_iff.2 (List.ne_nil_of_mem (List.mem_filter.2 ⟨mem_rangeI.2 hx, ha⟩))
  cases hall : left.all (inL ms) with
  | true =>
    obtain ⟨a, ha⟩ := List.exists_mem_of_ne_nil left hne
    have ham := inL_iff.1 (List.all_eq_true.1 hall a ha)
    cases hf : ms.reverse.find? (inL left) with
    | none => exact absurd (inL_iff.2 ha) (by simpa using List.find?_eq_none.1 hf a (List.mem_reverse.2 ham))
    | some v =>
      refine ⟨v, hm v (List.mem_reverse.1 (List.mem_of_find?_eq_some hf)), ?_⟩
      unfold agB
      rw [if_pos hall, hf]; simp
  | false =>
    obtain ⟨a, ha, hn⟩ : ∃ a ∈ left, inL ms a = false := by
      have := List.all_eq_false.1 hall
      obtain ⟨a, ha, h⟩ := this
      exact ⟨a, ha, by simpa using h⟩
    refine ⟨a, hr a ha, ?_⟩
    unfold agB
    rw [if_neg (by rw [hall]; simp), inL_iff.2 ha, hn]; rfl
theorem cnt_one {left ms : List Int} {C : Nat} (hall : left.all (inL ms) = true) : cntA left ms C ≤ 1 := by
  rw [cntA_eq]
  have : (rangeI C).filter (agB left ms) ⊆ (match ms.reverse.find? (inL left) with | some v => [v] | none => []) := fun x hx => by
    have h := (List.mem_filter.1 hx).2
    unfold agB at h
    rw [if_pos hall, decide_eq_true_eq] at h
    rw [h]; simp
  have h2 := ((nodup_rangeI C).sublist (List.filter_sublist (p := agB left ms))).length_le_of_subset this
  refine Nat.le_trans h2 ?_
  split <;> simp
theorem bad_sum_ge {left : List Int} {C : Nat} (hne : left ≠ []) (hr : ∀ x ∈ left, 0 ≤ x ∧ x < C) : ∀ {l : List Row}, Pos l → (∀ r ∈ l, ∀ x ∈ r.1, 0 ≤ x ∧ x < (C : Int)) → totS l ≤ (badL left l C).sum
  | [], _, _ => by rw [badL_zero]; simp [totS]
  | a :: r, hp, hm => by
    have ih := bad_sum_ge hne hr (l := r) (fun x hx => hp x (List.mem_cons_of_mem _ hx)) (fun x hx => hm x (List.mem_cons_of_mem _ hx))
    have ha := hp a (List.mem_cons_self ..)
    have hc := cnt_ge hne hr (hm a (List.mem_cons_self ..))
    have e : totS (a :: r) = a.2 + totS r := by simp [totS]
    have hmul : a.2 * 1 ≤ a.2 * (cntA left a.1 C : Int) := Int.mul_le_mul_of_nonneg_left (by omega) (by omega)
    rw [sum_badL_cons, e]
    omega
theorem bad_sum_le {left : List Int} {C : Nat} : ∀ {l : List Row}, Pos l → (badL left l C).sum ≤ (left.length : Int) * totS l
  | [], _ => by rw [badL_zero]; simp [totS]
  | a :: r, hp => by
    have ih := bad_sum_le (left := left) (C := C) (l := r) (fun x hx => hp x (List.mem_cons_of_mem _ hx))
    have ha := hp a (List.mem_cons_self ..)
    have hc := cnt_le (left := left) (ms := a.1) (C := C)
    have e : totS (a :: r) = a.2 + totS r := by simp [totS]
    have hmul : a.2 * (cntA left a.1 C : Int) ≤ a.2 * (left.length : Int) := Int.mul_le_mul_of_nonneg_left (by omega) (by omega)
    rw [sum_badL_cons, e, Int.mul_add, Int.mul_comm (left.length : Int) a.2]
    omega
theorem bad_sum_full {left : List Int} {C : Nat} : ∀ {l : List Row}, Pos l → (∀ r ∈ l, left.all (inL r.1) = true) → (badL left l C).sum ≤ totS l
  | [], _, _ => by rw [badL_zero]; simp [totS]
  | a :: r, hp, hf => by
    have ih := bad_sum_full (left := left) (C := C) (l := r) (fun x hx => hp x (List.mem_cons_of_mem _ hx)) (fun x hx => hf x (List.mem_cons_of_mem _ hx))
    have ha := hp a (List.mem_cons_self ..)
    have hc := cnt_one (C := C) (hf a (List.mem_cons_self ..))
    have e : totS (a :: r) = a.2 + totS r := by simp [totS]
    have hmul : a.2 * (cntA left a.1 C : Int) ≤ a.2 * 1 := Int.mul_le_mul_of_nonneg_left (by omega) (by omega)
    rw [sum_badL_cons, e]
    omega
theorem bad_sum_none {l : List Row} {C : Nat} : (badL [] l C).sum = 0 := by
  have h : badL [] l C = List.replicate C 0 := by
    unfold badL
    refine List.ext_getElem (by simp) fun i h1 h2 => ?_
    simp only [List.getElem_map, List.getElem_range, List.getElem_replicate]
    exact badS_out (inL_nil _)
  rw [h]; simp
/-- A ballot that ranks as many as there are ranks all. -/
theorem full_all {ms : List Int} {C : Nat} (hn : ms.Nodup) (hm : ∀ x ∈ ms, 0 ≤ x ∧ x < (C : Int)) (hl : ms.length = C) {left : List Int} (hs : left.Sublist (rangeI C)) : left.all (inL ms) = true := by
  refine List.all_eq_true.2 fun x hx => inL_iff.2 ?_
  exact (perm_of_subset hn (fun y hy => mem_rangeI.2 (hm y hy)) (by rw [length_rangeI]; omega)).symm.subset (hs.subset hx)
/-- Do the first t ballots rank all? -/
def fullT (l : List Row) (C t : Nat) : Bool := (l.take t).all fun r => decide (r.1.length = C)
theorem fullT_succ {l : List Row} {C t : Nat} {ms : List Int} {y : Int} (h : l[t]? = some (ms, y)) : fullT l C (t + 1) = (fullT l C t && decide (ms.length = C)) := by
  unfold fullT; rw [List.take_add_one, h, List.all_append]; simp

set_option maxRecDepth 100000 in
set_option maxHeartbeats 4000000 in
theorem coombsLasts_any (c k : Int) (A : Option Addr) (n cp : Nat) (l : List Row) (A' : Option Addr) (n' c' : Nat) (bs : List Bool) (w : World) (h : RRows w A n cp l) (h' : RBools w A' n' c' bs) :
    Calls Tryz.prog 10 #[.agg #[.int .i64 c, .int .u8 k, .slice A n cp], .slice A' n' c'] w fun e w' => e = .returned (.bool true) ∧ Below w.heap.size w w' := by
  have hb0 : Below w.heap.size w (w.alloc (.cells #[.int .i64 c, .int .u8 k, .slice A n cp] 24)) := below_allocN
  have hP0 := Has.new w 24 #[.int .i64 c, .int .u8 k, .slice A n cp]
  generalize hW : World.alloc w _ = W0 at hb0 hP0
  have p0 := hP0.cell 0
  have p1 := hP0.cell 1
  have p2 := hP0.cell 2
  have hlb := hide h'.1
  have Hll := hide h.len
  go_enter Tryz.func10, Tryz.ntmps10
  go_wp2_with fail
  try simp only [hW]
  clear hW
  refine (rcheck_any c k A n cp l W0 (h.below hb0)).mono ?_
  rintro e w1 ⟨rfl, hb1⟩
  have hb01 := Below_trans' hb0 hb0.size hb1
  have hP1 := hP0.below hb1 hP0.lt
  clear p0 p1 p2
  have p1 := hP1.cell 1
  by_cases hE : checkS c k l = 0
  · have e1 : (checkS c k l != 0) = false := by simp [hE]
    by_cases hk : k = 1
    · have e2 : (k != 1) = false := by simp [hk]
      by_cases hn : (60 : Int) < (n' : Int)
      · clear hE hk
        go_wp2_with fail
        refine (wakes16_any _).mono ?_
        rintro e w9 ⟨rfl, hb9⟩
        go_wp2
        go_ret
        exact ⟨rfl, Below_trans' hb01 (hb01).size hb9⟩
      · subst hk
        have hcs := check_ok hE
        obtain ⟨C, rfl⟩ : ∃ C : Nat, c = (C : Int) := ⟨c.toNat, by omega⟩
        have HE := hide hE
        have Rk := hide (rank_ok hE)
        have Hnd := hide (marks_once hE rfl)
        have hC10 := (rank_ok hE).c10
        have hF0 := hide (firstsE_ok hE rfl)
        have htot := (rank_ok hE).tot
        have htn := tot_nn (rank_ok hE).pos
        have hln := h.le
        clear hcs hE
        have p0 := hP1.cell 0
        have p2 := hP1.cell 2
        go_wp2_with fail
        refine (plasts_any C 1 A n cp l A' n' c' bs w1 (h.below hb01) (h'.below hb01)).mono ?_
        rintro e w2 ⟨v, rfl, hO, hb2⟩
        have ea : lastsL C 1 l bs = badL (leftT bs C) l C := by unfold lastsL; rw [if_pos hF0.out, Int.toNat_natCast]
        rw [ea] at hO
        rw [hF0.out]
        clear ea p0 p1 p2
        obtain ⟨Av, cv, rfl⟩ := hO.slice
        have hbd := hide (fun x => badS_bd (left := leftT bs C) Rk.out.pos x)
        have hRv := hO.ints (fun x hx => by obtain ⟨y, _, rfl⟩ := List.mem_map.1 hx; have := hbd.out (y : Int); omega)
        rw [length_badL] at hRv ⊢
        clear hO
        have hb02 := Below_trans' hb01 hb01.size hb2
        have hP2 := hP1.below hb2 hP1.lt
        have p0 := hP2.cell 0
        have p1 := hP2.cell 1
        have p2 := hP2.cell 2
        go_wp2_with fail
        refine (many_any C 1 A n cp l w2 (h.below hb02)).mono ?_
        rintro e w3 ⟨rfl, hb3⟩
        rw [cntV_tot HE.out, HE.out]
        have hb03 := Below_trans' hb02 hb02.size hb3
        have hP3 := hP2.below hb3 hP2.lt
        have hRv3 := hRv.below hb3
        clear p0 p1 p2 hRv
        have p0 := hP3.cell 0
        go_wp2
        clear p0
        go_loopw [11, 12] (fun f i wr => ∃ t : Nat, t ≤ n ∧ i = .int .i64 t ∧ f = .bool (fullT l C t) ∧ Below w3.heap.size w3 wr) (fun f i _ => n - (intOf i).toNat)
        case atStart => exact ⟨0, Nat.zero_le _, rfl, rfl, Below.refl _ _⟩
        case round =>
          obtain ⟨t, ht, rfl, rfl, hb⟩ := hrel
          have hPr := hP3.below hb hP3.lt
          have p0 := hPr.cell 0
          have p2 := hPr.cell 2
          have hbwr := Below_trans' hb03 hb03.size hb
          by_cases hlt : t < n
          · obtain ⟨b, off, Am, nm, cm, ms, y, rfl, hc0, hRm, hc1, _, hat, _⟩ := (h.below hbwr).step hlt
            have hfs := hide (fullT_succ (C := C) hat.out)
            have hml := hRm.len
            rw [hml] at hfs
            clear hat hml
            cases hf : fullT l C t with
            | true =>
              have hfn : Hid (((nm : Int) == (C : Int)) = fullT l C (t + 1)) := by
                unfold Hid; rw [hfs.out, hf, Bool.true_and, Bool.eq_iff_iff]; simp only [beq_iff_eq, decide_eq_true_eq]; omega
              clear hf
              go_upto_region 11 with fail
              refine wp_region_more (by kernel_rfl) (by kernel_rfl) ?_
              repeat (go_big_quiet_step (fail))
              refine wpQuiet_nil ?_
              rintro w6 ⟨qw6, hww6⟩
              have hbw6 := below_of_eq hww6
              clear hww6 qw6
              go_wp2
              go_roundw
              case rel => exact ⟨t + 1, by omega, by go_num, congrArg Value.bool hfn.out, Below_trans' hb hb.size hbw6⟩
              case measure => simp [intOf] <;> omega
            | false =>
              have hfn : Hid (false = fullT l C (t + 1)) := by unfold Hid; rw [hfs.out, hf]; rfl
              clear hf
              go_upto_region 11 with fail
              refine wp_region_more (by kernel_rfl) (by kernel_rfl) ?_
              repeat (go_big_quiet_step (fail))
              refine wpQuiet_nil ?_
              rintro w6 ⟨qw6, hww6⟩
              have hbw6 := below_of_eq hww6
              clear hww6 qw6
              go_wp2
              go_roundw
              case rel => exact ⟨t + 1, by omega, by go_num, congrArg Value.bool hfn.out, Below_trans' hb hb.size hbw6⟩
              case measure => simp [intOf] <;> omega
          · have htl : l.take t = l := List.take_of_length_le (by rw [Hll.out]; omega)
            have hfa : Hid (fullT l C t = true → ∀ r ∈ l, r.1.length = C) := fun hf r hr => by
              unfold fullT at hf; rw [htl] at hf
              exact of_decide_eq_true (List.all_eq_true.1 hf r hr)
            generalize fullT l C t = full at hfa ⊢
            obtain ⟨wz, rfl⟩ : ∃ wz : World, wz = wr := ⟨_, rfl⟩
            have hRz := hRv3.below hb
            have hPz := hPr
            have hsub : (leftT bs C).Sublist (rangeI C) := List.filter_sublist
            have hss : ∀ t, t ≤ C → 0 ≤ ((badL (leftT bs C) l C).take t).sum ∧ ((badL (leftT bs C) l C).take t).sum ≤ (badL (leftT bs C) l C).sum := fun t _ => sum_take_bd (fun x hx => by obtain ⟨y, _, rfl⟩ := List.mem_map.1 hx; exact (hbd.out (y : Int)).1) t
            have hs10 : (badL (leftT bs C) l C).sum ≤ 10000000 := by
              have h1 := bad_sum_le (left := leftT bs C) (C := C) Rk.out.pos
              have h2 := length_leftT bs C
              have h3 : ((leftT bs C).length : Int) * totS l ≤ 10 * totS l := Int.mul_le_mul_of_nonneg_right (by omega) htn
              omega
            have Hss := hide hss
            have Hsub := hide hsub
            clear hss hsub htl hPr hP3 hRv3
            go_wp2
            clear p0 p2
            go_loopw [9, 10, 13] (fun s q i wr => ∃ t : Nat, t ≤ C ∧ i = .int .i64 t ∧ s = .int .i64 ((badL (leftT bs C) l C).take t).sum ∧ q = .int .i64 ((leftT bs t).length : Int) ∧ Below wz.heap.size wz wr) (fun s q i _ => C - (intOf i).toNat)
            case atStart => exact ⟨0, Nat.zero_le _, rfl, rfl, rfl, Below.refl _ _⟩
            case round =>
              obtain ⟨t, ht, rfl, rfl, rfl, hb2⟩ := hrel
              have hPr := hPz.below hb2 hPz.lt
              have p0 := hPr.cell 0
              have hst := Hss.out t ht
              have hlf := length_leftT bs t
              by_cases htC : t < C
              · obtain ⟨b4, o4, v4, rfl, hc4, _, hat4, _⟩ := (hRz.below hb2).step htC
                obtain rfl : badS (leftT bs C) l (t : Int) = v4 := by have e := hat4.out; rw [get_badL _ _ htC] at e; exact Option.some.inj e
                have hvb := hbd.out (t : Int)
                have hx1 : Hid (((badL (leftT bs C) l C).take (t + 1)).sum = ((badL (leftT bs C) l C).take t).sum + badS (leftT bs C) l (t : Int)) := by
                  unfold Hid; rw [List.take_add_one, hat4.out, List.sum_append]; simp
                have hx2 : Hid ((leftT bs (t + 1)).length = (leftT bs t).length + if bs.getD t false = true then 1 else 0) := by
                  unfold Hid; rw [leftT_succ, List.length_append]; split <;> rfl
                have hgd : Hid (bs.getD t false = isS bs (t : Int)) := (isS_getD bs t).symm
                have hbz := Below_trans' hbwr hbwr.size hb2
                have hb := hb2
                clear hat4
                generalize hs0 : ((badL (leftT bs C) l C).take t).sum = s0 at hst hx1 ⊢
                clear hs0
                cases his : isS bs (t : Int) with
                | false =>
                  have hz : badS (leftT bs C) l (t : Int) = 0 := badS_out (by
                    rw [← Bool.not_eq_true, inL_iff]
                    intro hm
                    have := (List.mem_filter.1 hm).2
                    rw [his] at this; cases this)
                  rw [hz] at hc4 hx1 hvb
                  rw [Int.add_zero] at hx1
                  rw [hgd.out, his] at hx2
                  clear hz
                  by_cases htn' : t < n'
                  · obtain ⟨b5, o5, e5, hc5⟩ := (h'.below hbz).at htn'
                    subst e5
                    rw [hgd.out, his] at hc5
                    clear his
                    go_upto_region 20 with fail
                    go_wp2
                    go_roundw
                    case rel => exact ⟨t + 1, by omega, by go_num, congrArg (Value.int .i64) hx1.out.symm, congrArg (Value.int .i64) (by rw [hx2.out]; simp), hb⟩
                    case measure => simp [intOf] <;> omega
                  · clear his
                    go_upto_region 20 with fail
                    go_wp2
                    go_roundw
                    case rel => exact ⟨t + 1, by omega, by go_num, congrArg (Value.int .i64) hx1.out.symm, congrArg (Value.int .i64) (by rw [hx2.out]; simp), hb⟩
                    case measure => simp [intOf] <;> omega
                | true =>
                  have htn' : t < n' := by have e := hgd.out; rw [his] at e; have := hlb.out; refine Decidable.byContradiction fun hx => ?_; rw [List.getD, List.getElem?_eq_none (by omega)] at e; cases e
                  obtain ⟨b5, o5, e5, hc5⟩ := (h'.below hbz).at htn'
                  subst e5
                  rw [hgd.out, his] at hc5 
                  rw [hgd.out, his] at hx2
                  have hvt : badS (leftT bs C) l (t : Int) ≤ totS l := hvb.2
                  generalize badS (leftT bs C) l (t : Int) = vb at hc4 hx1 hvb hvt
                  clear his
                  go_upto_region 20 with fail
                  go_wp2
                  go_roundw
                  case rel => exact ⟨t + 1, by omega, by go_num, congrArg (Value.int .i64) hx1.out.symm, congrArg (Value.int .i64) (by rw [hx2.out]; simp), hb⟩
                  case measure => simp [intOf] <;> omega
              · obtain rfl : C = t := by omega
                have hts : (badL (leftT bs C) l C).take C = badL (leftT bs C) l C := List.take_of_length_le (by rw [length_badL]; exact Nat.le_refl _)
                rw [hts] at hst ⊢
                have hbe := Below_trans' hbwr hbwr.size hb2
                by_cases hs0 : (leftT bs C).length = 0
                · have hnil : leftT bs C = [] := List.length_eq_zero_iff.1 hs0
                  have hz : (badL (leftT bs C) l C).sum = 0 := by rw [hnil]; exact bad_sum_none
                  rw [hz, hs0]
                  clear hnil hz hs0 hts
                  go_wp2_with fail
                  refine (wakes16_any _).mono ?_
                  rintro e w9 ⟨rfl, hb9⟩
                  go_wp2
                  go_ret
                  exact ⟨rfl, Below_trans' hbe (hbe).size hb9⟩
                · have hne : leftT bs C ≠ [] := fun e => hs0 (by rw [e]; rfl)
                  have hge := bad_sum_ge hne (fun x hx => mem_rangeI.1 (Hsub.out.subset hx)) Rk.out.pos Rk.out.marks
                  have hle := bad_sum_le (left := leftT bs C) (C := C) Rk.out.pos
                  have hfl : full = true → (badL (leftT bs C) l C).sum = totS l := fun hf => by
                    have h1 := bad_sum_full (left := leftT bs C) (C := C) Rk.out.pos (fun r hr => full_all (Hnd.out r hr) (Rk.out.marks r hr) (hfa.out hf r hr) Hsub.out)
                    omega
                  have f0 : (((leftT bs C).length : Int) == 0) = false := by simp; exact fun e => hne e
                  generalize (leftT bs C).length = q at *
                  generalize (badL (leftT bs C) l C).sum = sm at *
                  have hqm : 0 ≤ (q : Int) * totS l ∧ (q : Int) * totS l ≤ 10000000 := by
                    refine ⟨Int.mul_nonneg (by omega) htn, ?_⟩
                    have h3 : (q : Int) * totS l ≤ 10 * totS l := Int.mul_le_mul_of_nonneg_right (by omega) htn
                    omega
                  have hwr : IntKind.i64.wrap ((q : Int) * totS l) = (q : Int) * totS l := IntWalk.i64_in _ (by omega)
                  cases full with
                  | false =>
                    clear hfl hne hs0 hts
                    go_wp2_with fail
                    refine (wakes16_any _).mono ?_
                    rintro e w9 ⟨rfl, hb9⟩
                    go_wp2
                    go_ret
                    exact ⟨rfl, Below_trans' hbe (hbe).size hb9⟩
                  | true =>
                    have f7 : (sm == totS l) = true := by simp [hfl rfl]
                    clear hfl hne hs0 hts
                    go_wp2_with fail
                    refine (wakes16_any _).mono ?_
                    rintro e w9 ⟨rfl, hb9⟩
                    go_wp2
                    go_ret
                    exact ⟨rfl, Below_trans' hbe (hbe).size hb9⟩
    · have e2 : (k != 1) = true := by simp [hk]
      clear hE hk
      go_wp2_with fail
      refine (wakes16_any _).mono ?_
      rintro e w9 ⟨rfl, hb9⟩
      go_wp2
      go_ret
      exact ⟨rfl, Below_trans' hb01 (hb01).size hb9⟩
  · have e1 : (checkS c k l != 0) = true := by simp [hE]
    clear hE
    go_wp2_with fail
    refine (wakes16_any _).mono ?_
    rintro e w9 ⟨rfl, hb9⟩
    go_wp2
    go_ret
    exact ⟨rfl, Below_trans' hb01 (hb01).size hb9⟩
end Go.Proofs.YtcmoekkaakkpjaaGreat
