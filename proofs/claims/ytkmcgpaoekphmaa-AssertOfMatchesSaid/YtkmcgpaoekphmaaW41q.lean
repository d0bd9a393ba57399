/-
  The reference of contests: names, Check.
-/
import Derived.Test.YtkmcgpaoekphmaaW41i
namespace Go.Proofs.Ytkmcgpaoekphmaa
open Go.RowKit Go.Proofs Go.Shelf
attribute [local go_sem] cell?_more cell?_alloc_some cell?_setCell_far frozen?_alloc_some frozen?_more
set_option maxRecDepth 100000 in
theorem rname_any (s : ByteArray) (hs : s.size ≤ 9223372036854775807) (w : World) : Calls Try.prog 69 #[.string s] w fun e w' => e = .returned (.bool (nmB s)) ∧ w = w' := by
  by_cases h1 : s.size < 1
  · have hr : Hid (nmB s = false) := by unfold Hid nmB; rw [decide_eq_false (show ¬ 1 ≤ s.size by omega)]; rfl
    have b1 : (s.size : Int) < 1 := by omega
    go_enter Try.func69, Try.ntmps69
    go_wp2
    go_ret
    exact ⟨ret_b hr.out.symm, rfl⟩
  · have b1 : ¬ (s.size : Int) < 1 := by omega
    by_cases h40 : 40 < s.size
    · have hr : Hid (nmB s = false) := by unfold Hid nmB; rw [decide_eq_false (show ¬ s.size ≤ 40 by omega)]; simp
      have b2 : (40 : Int) < (s.size : Int) := by omega
      go_enter Try.func69, Try.ntmps69
      go_wp2
      go_ret
      exact ⟨ret_b hr.out.symm, rfl⟩
    · have b2 : ¬ (40 : Int) < (s.size : Int) := by omega
      have hr : Hid (nmB s = !(bytesI s).any badC) := by unfold Hid nmB; rw [decide_eq_true (show 1 ≤ s.size by omega), decide_eq_true (show s.size ≤ 40 by omega)]; rfl
      go_enter Try.func69, Try.ntmps69
      go_wp2
      go_loopw [3] (fun i wr => ∃ k : Nat, k ≤ s.size ∧ i = .int .i64 k ∧ Hid (((bytesI s).take k).any badC = false) ∧ w = wr) (fun i _ => s.size - (intOf i).toNat)
      case atStart => exact ⟨0, Nat.zero_le _, rfl, rfl, rfl⟩
      case round =>
        obtain ⟨k, hk, rfl, hp, rfl⟩ := hrel
        by_cases hlt : k < s.size
        · have hx := hide (bytesI_get s hlt)
          have k0 : (0 : Int) ≤ (k : Int) := by omega
          have k1 : (k : Int) < (s.size : Int) := by omega
          generalize hb : (s[k].toNat : Int) = x at hx
          by_cases hbad : badC x = true
          · have hv : Hid (nmB s = false) := by unfold Hid; rw [hr.out, List.any_eq_true.2 ⟨x, List.mem_of_getElem? hx.out, hbad⟩]; rfl
            unfold badC at hbad
            by_cases hb33 : x < 33
            · go_wp2
              go_ret
              exact ⟨ret_b hv.out.symm, by trivial⟩
            · have b126 : 126 < x := by simpa [hb33] using hbad
              clear hbad
              go_wp2
              go_ret
              exact ⟨ret_b hv.out.symm, by trivial⟩
          · have hb33 : ¬ x < 33 := fun h => hbad (by unfold badC; simp [h])
            have b126 : ¬ 126 < x := fun h => hbad (by unfold badC; simp [h])
            have hnx : Hid (((bytesI s).take (k + 1)).any badC = false) := by unfold Hid; rw [take_succ_of hx.out, List.any_append, hp.out]; simpa using hbad
            clear hbad
            go_wp2
            go_roundw
            case rel => exact ⟨k + 1, by omega, by go_num, hnx, by trivial⟩
            case measure => simp [intOf] <;> omega
        · have hv : Hid (nmB s = true) := by
            unfold Hid
            have h := hp.out
            rw [List.take_of_length_le (by rw [bytesI_len]; omega)] at h
            rw [hr.out, h]; rfl
          go_wp2
          go_ret
          exact ⟨ret_b hv.out.symm, rfl⟩

theorem is07_any (r : Nat) (w : World) : Calls Try.prog 70 #[.int .u8 (r : Int)] w fun e w' => e = .returned (.bool (decide (1 ≤ r) && decide (r ≤ 16))) ∧ w = w' := by
  by_cases h1 : 1 ≤ r
  · have b1 : (1 : Int) ≤ (r : Int) := by omega
    have hr : Hid ((decide (1 ≤ r) && decide (r ≤ 16)) = decide ((r : Int) ≤ 16)) := by unfold Hid; rw [decide_eq_true h1, Bool.true_and, decide_eq_decide]; omega
    clear h1
    go_enter Try.func70, Try.ntmps70
    go_wp2
    go_ret
    exact ⟨ret_b hr.out.symm, rfl⟩
  · have b1 : ¬ (1 : Int) ≤ (r : Int) := by omega
    have hr : Hid ((decide (1 ≤ r) && decide (r ≤ 16)) = false) := by unfold Hid; rw [decide_eq_false h1]; rfl
    clear h1
    go_enter Try.func70, Try.ntmps70
    go_wp2
    go_ret
    exact ⟨ret_b hr.out.symm, rfl⟩
theorem one07_any (r : Nat) (w : World) : Calls Try.prog 71 #[.int .u8 (r : Int)] w fun e w' => e = .returned (.bool (decide (5 ≤ r) && decide (r ≤ 10))) ∧ w = w' := by
  by_cases h1 : 5 ≤ r
  · have b1 : (5 : Int) ≤ (r : Int) := by omega
    have hr : Hid ((decide (5 ≤ r) && decide (r ≤ 10)) = decide ((r : Int) ≤ 10)) := by unfold Hid; rw [decide_eq_true h1, Bool.true_and, decide_eq_decide]; omega
    clear h1
    go_enter Try.func71, Try.ntmps71
    go_wp2
    go_ret
    exact ⟨ret_b hr.out.symm, rfl⟩
  · have b1 : ¬ (5 : Int) ≤ (r : Int) := by omega
    have hr : Hid ((decide (5 ≤ r) && decide (r ≤ 10)) = false) := by unfold Hid; rw [decide_eq_false h1]; rfl
    clear h1
    go_enter Try.func71, Try.ntmps71
    go_wp2
    go_ret
    exact ⟨ret_b hr.out.symm, rfl⟩
theorem lists07_any (r : Nat) (w : World) : Calls Try.prog 72 #[.int .u8 (r : Int)] w fun e w' => e = .returned (.bool (decide (14 ≤ r) && decide (r ≤ 16))) ∧ w = w' := by
  by_cases h1 : 14 ≤ r
  · have b1 : (14 : Int) ≤ (r : Int) := by omega
    have hr : Hid ((decide (14 ≤ r) && decide (r ≤ 16)) = decide ((r : Int) ≤ 16)) := by unfold Hid; rw [decide_eq_true h1, Bool.true_and, decide_eq_decide]; omega
    clear h1
    go_enter Try.func72, Try.ntmps72
    go_wp2
    go_ret
    exact ⟨ret_b hr.out.symm, rfl⟩
  · have b1 : ¬ (14 : Int) ≤ (r : Int) := by omega
    have hr : Hid ((decide (14 ≤ r) && decide (r ≤ 16)) = false) := by unfold Hid; rw [decide_eq_false h1]; rfl
    clear h1
    go_enter Try.func72, Try.ntmps72
    go_wp2
    go_ret
    exact ⟨ret_b hr.out.symm, rfl⟩
theorem seatsOf_is (r : Nat) : seatsOf r = if 5 ≤ r ∧ r ≤ 10 then 1 else if 14 ≤ r ∧ r ≤ 16 then 3 else if 1 ≤ r ∧ r ≤ 16 then 2 else 0 := by
  by_cases h : r < 17
  · have : r = 0 ∨ r = 1 ∨ r = 2 ∨ r = 3 ∨ r = 4 ∨ r = 5 ∨ r = 6 ∨ r = 7 ∨ r = 8 ∨ r = 9 ∨ r = 10 ∨ r = 11 ∨ r = 12 ∨ r = 13 ∨ r = 14 ∨ r = 15 ∨ r = 16 := by omega
    rcases this with rfl | rfl | rfl | rfl | rfl | rfl | rfl | rfl | rfl | rfl | rfl | rfl | rfl | rfl | rfl | rfl | rfl <;> rfl
  · rw [if_neg (by omega), if_neg (by omega), if_neg (by omega)]
    unfold seatsOf
    rw [List.getD_eq_getElem?_getD, List.getElem?_eq_none (by show 17 ≤ r; omega)]; rfl
/-- May there be such a contest? -/
def mayB (name : ByteArray) (cs : List ByteArray) (seats : Int) (rule : Nat) : Bool :=
  nmB name && decide (1 ≤ cs.length ∧ cs.length ≤ 10) && !oddB cs && !twS cs && fitsB rule seats cs.length
theorem contest_may {name : ByteArray} {cs : List ByteArray} {seats : Int} {rule : Nat} (h : cs.length ≤ 10) : contestE name cs seats rule = if mayB name cs seats rule = true then 0 else 8 := by
  unfold contestE mayB
  rw [if_neg (by omega)]
  by_cases h0 : cs.length = 0
  · rw [if_pos (.inl h0), decide_eq_false (by omega)]; simp
  · rw [decide_eq_true (by omega)]
    cases nmB name <;> cases oddB cs <;> cases twS cs <;> cases fitsB rule seats cs.length <;> simp [h0]
theorem may_seats {name : ByteArray} {cs : List ByteArray} {seats : Int} {rule : Nat} (h : seats < 1 ∨ 10 < seats) : mayB name cs seats rule = false := by
  unfold mayB fitsB; rw [if_pos h]; simp
theorem may_rule {name : ByteArray} {cs : List ByteArray} {seats : Int} {rule : Nat} (h : ¬ (1 ≤ rule ∧ rule ≤ 16)) : mayB name cs seats rule = false := by
  have hs : seatsOf rule = 0 := by rw [seatsOf_is, if_neg (by omega), if_neg (by omega), if_neg h]
  unfold mayB fitsB
  rw [hs]
  split <;> simp
theorem may_odd {name : ByteArray} {cs : List ByteArray} {seats : Int} {rule : Nat} (h : oddB cs = true) : mayB name cs seats rule = false := by unfold mayB; rw [h]; simp
theorem may_tw {name : ByteArray} {cs : List ByteArray} {seats : Int} {rule : Nat} (h : twS cs = true) : mayB name cs seats rule = false := by unfold mayB; rw [h]; simp

/-- How long the strings are. -/
def StrsLe (name : ByteArray) (cs : List ByteArray) : Prop := name.size ≤ 9223372036854775807 ∧ ∀ s ∈ cs, s.size ≤ 9223372036854775807
theorem rname_val {E : Bool} (s : ByteArray) (hs : s.size ≤ 9223372036854775807) (w : World) (hE : nmB s = E) : Calls Try.prog 69 #[.string s] w fun e w' => e = .returned (.bool E) ∧ w = w' := hE ▸ rname_any s hs w
theorem is07_val {E : Bool} (r : Nat) (w : World) (hE : (decide (1 ≤ r) && decide (r ≤ 16)) = E) : Calls Try.prog 70 #[.int .u8 (r : Int)] w fun e w' => e = .returned (.bool E) ∧ w = w' := hE ▸ is07_any r w
theorem one07_val {E : Bool} (r : Nat) (w : World) (hE : (decide (5 ≤ r) && decide (r ≤ 10)) = E) : Calls Try.prog 71 #[.int .u8 (r : Int)] w fun e w' => e = .returned (.bool E) ∧ w = w' := hE ▸ one07_any r w
theorem lists07_val {E : Bool} (r : Nat) (w : World) (hE : (decide (14 ≤ r) && decide (r ≤ 16)) = E) : Calls Try.prog 72 #[.int .u8 (r : Int)] w fun e w' => e = .returned (.bool E) ∧ w = w' := hE ▸ lists07_any r w
set_option maxRecDepth 100000 in
set_option maxHeartbeats 8000000 in
theorem rmay07_any (name : ByteArray) (A : Option Addr) (n cp : Nat) (cs : List ByteArray) (seats : Int) (rule : Nat) (w : World) (h : RStrs w A n cp cs) (hle : StrsLe name cs) :
    Calls Try.prog 55 #[.agg #[.string name, .slice A n cp, .int .i64 seats, .int .u8 (rule : Int)]] w fun e w' => e = .returned (.bool (mayB name cs seats rule)) ∧ Below w.heap.size w w' := by
  have Hl := hide h.len
  have hn := h.le
  have Hs1 := hide hle.1
  have Hs2 := hide hle.2
  clear hle
  have hb : Below w.heap.size w (w.alloc (.cells #[.string name, .slice A n cp, .int .i64 seats, .int .u8 (rule : Int)] 34)) := below_allocN
  have hP := Has.new w 34 #[.string name, .slice A n cp, .int .i64 seats, .int .u8 (rule : Int)]
  go_enter Try.func55, Try.ntmps55
  go_upto_region 1 with fail
  generalize World.alloc w _ = W0 at hb hP ⊢
  have p0 := hP.cell 0
  have p1 := hP.cell 1
  have p2 := hP.cell 2
  have p3 := hP.cell 3
  have h0 := h.below hb
  cases hnm : nmB name with
  | false =>
    have hv : Hid (mayB name cs seats rule = false) := by unfold Hid mayB; rw [hnm]; rfl
    have Hnm := hide hnm
    clear hnm
    go_wp2_with (go_at_call 69; with_reducible refine (rname_val _ Hs1.out _ Hnm.out).mono ?_; rintro e w' ⟨rfl, rfl⟩)
    go_ret
    exact ⟨ret_b hv.out.symm, hb⟩
  | true =>
    have Hnm := hide hnm
    clear hnm
    by_cases n1 : n < 1
    · have hv : Hid (mayB name cs seats rule = false) := by unfold Hid mayB; rw [Hl.out, decide_eq_false (by omega)]; simp
      have b1 : (n : Int) < 1 := by omega
      clear n1
      go_wp2_with (go_at_call 69; with_reducible refine (rname_val _ Hs1.out _ Hnm.out).mono ?_; rintro e w' ⟨rfl, rfl⟩)
      go_ret
      exact ⟨ret_b hv.out.symm, hb⟩
    · have b1 : ¬ (n : Int) < 1 := by omega
      by_cases n10 : 10 < n
      · have hv : Hid (mayB name cs seats rule = false) := by unfold Hid mayB; rw [Hl.out, decide_eq_false (by omega)]; simp
        have b2 : (10 : Int) < (n : Int) := by omega
        clear n1 n10
        go_wp2_with (go_at_call 69; with_reducible refine (rname_val _ Hs1.out _ Hnm.out).mono ?_; rintro e w' ⟨rfl, rfl⟩)
        go_ret
        exact ⟨ret_b hv.out.symm, hb⟩
      · have b2 : ¬ (10 : Int) < (n : Int) := by omega
        have Hn := hide (And.intro (Nat.le_of_not_lt n1) (Nat.le_of_not_lt n10))
        clear n1 n10
        cases his : (decide (1 ≤ rule) && decide (rule ≤ 16)) with
        | false =>
          have hv : Hid (mayB name cs seats rule = false) := may_rule (by simpa using his)
          have His := hide his
          clear his
          go_wp2_with (first | (go_at_call 69; with_reducible refine (rname_val _ Hs1.out _ Hnm.out).mono ?_; rintro e w' ⟨rfl, rfl⟩) | (go_at_call 70; with_reducible refine (is07_val _ _ His.out).mono ?_; rintro e w' ⟨rfl, rfl⟩))
          go_ret
          exact ⟨ret_b hv.out.symm, hb⟩
        | true =>
          have His := hide his
          clear his
          by_cases s1 : seats < 1
          · have hv : Hid (mayB name cs seats rule = false) := may_seats (.inl s1)
            go_wp2_with (first | (go_at_call 69; with_reducible refine (rname_val _ Hs1.out _ Hnm.out).mono ?_; rintro e w' ⟨rfl, rfl⟩) | (go_at_call 70; with_reducible refine (is07_val _ _ His.out).mono ?_; rintro e w' ⟨rfl, rfl⟩))
            go_ret
            exact ⟨ret_b hv.out.symm, hb⟩
          · by_cases s10 : 10 < seats
            · have hv : Hid (mayB name cs seats rule = false) := may_seats (.inr s10)
              go_wp2_with (first | (go_at_call 69; with_reducible refine (rname_val _ Hs1.out _ Hnm.out).mono ?_; rintro e w' ⟨rfl, rfl⟩) | (go_at_call 70; with_reducible refine (is07_val _ _ His.out).mono ?_; rintro e w' ⟨rfl, rfl⟩))
              go_ret
              exact ⟨ret_b hv.out.symm, hb⟩
            · have Hs := hide (show ¬ (seats < 1 ∨ 10 < seats) by omega)
              go_wp2_with (first | (go_at_call 69; with_reducible refine (rname_val _ Hs1.out _ Hnm.out).mono ?_; rintro e w' ⟨rfl, rfl⟩) | (go_at_call 70; with_reducible refine (is07_val _ _ His.out).mono ?_; rintro e w' ⟨rfl, rfl⟩))
              clear s1 s10
              go_loopw [3] (fun i wr => ∃ k : Nat, k ≤ n ∧ i = .int .i64 k ∧ Hid (oddB (cs.take k) = false) ∧ Hid (∀ j, j < k → hasS (cs.take j) (cs.getD j ByteArray.empty) = false) ∧ Below W0.heap.size W0 wr) (fun i _ => n - (intOf i).toNat)
              case atStart => exact ⟨0, Nat.zero_le _, rfl, rfl, fun j hj => by omega, Below.refl _ _⟩
              case round =>
                obtain ⟨k, hk, rfl, hod, htw, hbr⟩ := hrel
                obtain ⟨wo, rfl⟩ : ∃ wo : World, wo = wr := ⟨_, rfl⟩
                have hPo := hP.below hbr hP.lt
                have h1 := h0.below hbr
                have hbo := Below_trans' hb hb.size hbr
                clear p0 p1 p2 p3
                have p1 := hPo.cell 1
                by_cases hlt : k < n
                · obtain ⟨b, off, t, e1, hc, _, Hx⟩ := h1.step hlt
                  have ht6 := hide (Hs2.out t (List.mem_of_getElem? Hx.out))
                  cases hnt : nmB t with
                  | false =>
                    have hv : Hid (mayB name cs seats rule = false) := may_odd (List.any_eq_true.2 ⟨t, List.mem_of_getElem? Hx.out, by rw [hnt]; rfl⟩)
                    have Hnt := hide hnt
                    clear hnt
                    subst e1
                    go_wp2_with (go_at_call 69; with_reducible refine (rname_val _ ht6.out _ Hnt.out).mono ?_; rintro e w' ⟨rfl, rfl⟩)
                    go_ret
                    exact ⟨ret_b hv.out.symm, hbo⟩
                  | true =>
                    have hod' : Hid (oddB (cs.take (k + 1)) = false) := by
                      unfold Hid
                      rw [List.take_add_one, Hx.out]
                      show oddB (cs.take k ++ [t]) = false
                      unfold oddB at *
                      rw [List.any_append, hod.out]; simp [hnt]
                    have Hnt := hide hnt
                    have hgt : Hid (cs.getD k ByteArray.empty = t) := by unfold Hid; simp [List.getD, Hx.out]
                    clear hnt
                    subst e1
                    go_wp2_with (go_at_call 69; with_reducible refine (rname_val _ ht6.out _ Hnt.out).mono ?_; rintro e w' ⟨rfl, rfl⟩)
                    clear p1 hc
                    go_loopw [4] (fun i wr => ∃ m : Nat, m ≤ k ∧ i = .int .i64 m ∧ Hid (hasS (cs.take m) t = false) ∧ Below W0.heap.size W0 wr) (fun i _ => k - (intOf i).toNat)
                    case atStart => exact ⟨0, Nat.zero_le _, rfl, rfl, hbr⟩
                    case round =>
                      obtain ⟨m, hm, rfl, hhs, hbi⟩ := hrel
                      have hPi := hP.below hbi hP.lt
                      have p1 := hPi.cell 1
                      have hbi0 := Below_trans' hb hb.size hbi
                      have h2 := h0.below hbi
                      by_cases hmk : m < k
                      · obtain ⟨b2, off2, u, e2, hcu, _, Hu⟩ := h2.step (k := m) (by omega)
                        obtain ⟨b3, off3, t3, e3, hct, _, Ht3⟩ := h2.step (k := k) hlt
                        obtain rfl : t = t3 := Option.some.inj (Hx.out.symm.trans Ht3.out)
                        cases e2
                        cases e3
                        cases hq : (t.toList == u.toList) with
                        | true =>
                          have hv : Hid (mayB name cs seats rule = false) := by
                            refine may_tw (List.any_eq_true.2 ⟨k, by rw [List.mem_range, Hl.out]; exact hlt, ?_⟩)
                            rw [hgt.out]
                            exact List.any_eq_true.2 ⟨u, List.mem_of_getElem? (i := m) (by rw [List.getElem?_take_of_lt hmk]; exact Hu.out), hq⟩
                          have q1 : u.toList = t.toList := by have : t.toList = u.toList := by simpa using hq
                                                              exact this.symm
                          have q2 : (u.toList == t.toList) = true := by simpa using q1
                          clear hq
                          go_upto_region 11 with fail
                          refine wp_region_more (by kernel_rfl) (by kernel_rfl) ?_
                          repeat (go_big_quiet_step (fail))
                          refine wpQuiet_nil ?_
                          rintro w2 ⟨qw2, hww2⟩
                          have hbw2 := below_of_eq hww2
                          clear hww2 qw2
                          go_wp2
                          go_ret
                          exact ⟨ret_b hv.out.symm, Below_trans' hbi0 hbi0.size hbw2⟩
                        | false =>
                          have hnx : Hid (hasS (cs.take (m + 1)) t = false) := by
                            unfold Hid
                            rw [List.take_add_one, Hu.out]
                            show hasS (cs.take m ++ [u]) t = false
                            unfold hasS at *
                            rw [List.any_append, hhs.out]; simp only [List.any_cons, hq]; rfl
                          have q1 : ¬ u.toList = t.toList := fun e => by rw [e] at hq; simp at hq
                          have q2 : (u.toList == t.toList) = false := by simpa using q1
                          clear hq
                          go_upto_region 11 with fail
                          refine wp_region_more (by kernel_rfl) (by kernel_rfl) ?_
                          repeat (go_big_quiet_step (fail))
                          refine wpQuiet_nil ?_
                          rintro w2 ⟨qw2, hww2⟩
                          have hbw2 := below_of_eq hww2
                          clear hww2 qw2
                          have hb2 := Below_trans' hbi hbi.size hbw2
                          go_wp2
                          go_roundw
                          case rel => exact ⟨m + 1, by omega, by go_num, hnx, hb2⟩
                          case measure => simp [intOf] <;> omega
                      · obtain rfl : k = m := by omega
                        have htw' : Hid (∀ j, j < k + 1 → hasS (cs.take j) (cs.getD j ByteArray.empty) = false) := fun j hj => by
                          rcases Nat.lt_or_ge j k with h1 | h1
                          · exact htw.out j h1
                          · obtain rfl : j = k := by omega
                            rw [hgt.out]; exact hhs.out
                        go_wp2
                        go_roundw
                        case rel => exact ⟨k + 1, by omega, by go_num, hod', htw', hbi⟩
                        case measure => simp [intOf] <;> omega
                · obtain rfl : n = k := by omega
                  have hv0 : Hid (mayB name cs seats rule = fitsB rule seats n) := by
                    have ho : oddB cs = false := by have := hod.out; rwa [List.take_of_length_le (by rw [Hl.out]; exact Nat.le_refl _)] at this
                    have ht : twS cs = false := by
                      unfold twS
                      rw [List.any_eq_false]
                      intro j hj
                      rw [List.mem_range, Hl.out] at hj
                      rw [htw.out j hj]; simp
                    unfold Hid mayB
                    rw [Hnm.out, Hl.out, ho, ht, decide_eq_true Hn.out]; rfl
                  have p2 := hPo.cell 2
                  have p3 := hPo.cell 3
                  have Hseat := hide (seatsOf_is rule)
                  cases h1o : (decide (5 ≤ rule) && decide (rule ≤ 10)) with
                  | true =>
                    have hv : Hid (mayB name cs seats rule = (seats == 1)) := by
                      simp only [Bool.and_eq_true, decide_eq_true_eq] at h1o
                      unfold Hid; rw [hv0.out]; unfold fitsB
                      rw [if_neg Hs.out, Hseat.out, if_pos h1o]; rfl
                    have H1o := hide h1o
                    clear h1o
                    go_wp2_with (go_at_call 71; with_reducible refine (one07_val _ _ H1o.out).mono ?_; rintro e w' ⟨rfl, rfl⟩)
                    go_ret
                    exact ⟨ret_b hv.out.symm, hbo⟩
                  | false =>
                    have H1o := hide h1o
                    have hno : ¬ (5 ≤ rule ∧ rule ≤ 10) := fun hh => by rw [decide_eq_true hh.1, decide_eq_true hh.2] at h1o; cases h1o
                    cases hli : (decide (14 ≤ rule) && decide (rule ≤ 16)) with
                    | true =>
                      have hv : Hid (mayB name cs seats rule = true) := by
                        simp only [Bool.and_eq_true, decide_eq_true_eq] at hli
                        unfold Hid; rw [hv0.out]; unfold fitsB
                        rw [if_neg Hs.out, Hseat.out, if_neg hno, if_pos hli]; rfl
                      have Hli := hide hli
                      clear hli h1o hno
                      go_wp2_with (first | (go_at_call 71; with_reducible refine (one07_val _ _ H1o.out).mono ?_; rintro e w' ⟨rfl, rfl⟩) | (go_at_call 72; with_reducible refine (lists07_val _ _ Hli.out).mono ?_; rintro e w' ⟨rfl, rfl⟩))
                      go_ret
                      exact ⟨ret_b hv.out.symm, hbo⟩
                    | false =>
                      have hv : Hid (mayB name cs seats rule = decide (seats ≤ (n : Int))) := by
                        have hnl : ¬ (14 ≤ rule ∧ rule ≤ 16) := fun hh => by rw [decide_eq_true hh.1, decide_eq_true hh.2] at hli; cases hli
                        have hi : 1 ≤ rule ∧ rule ≤ 16 := by have := His.out; simpa using this
                        unfold Hid; rw [hv0.out]; unfold fitsB
                        rw [if_neg Hs.out, Hseat.out, if_neg hno, if_neg hnl, if_pos hi]; rfl
                      have Hli := hide hli
                      clear hli h1o hno
                      go_wp2_with (first | (go_at_call 71; with_reducible refine (one07_val _ _ H1o.out).mono ?_; rintro e w' ⟨rfl, rfl⟩) | (go_at_call 72; with_reducible refine (lists07_val _ _ Hli.out).mono ?_; rintro e w' ⟨rfl, rfl⟩))
                      go_ret
                      exact ⟨ret_b hv.out.symm, hbo⟩
end Go.Proofs.Ytkmcgpaoekphmaa
