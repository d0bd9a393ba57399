/-
  The reference's With, Twin, whole.
-/
import Derived.Test.YtoeajgjpakilgaaGreatApp
import Derived.Test.YtoeajgjpakilgaaGreatW9p
namespace Go.Proofs.YtoeajgjpakilgaaGreat
open Go.RowKit Go.Proofs
attribute [local go_sem] cell?_more cell?_alloc_some cell?_setCell_far frozen?_alloc_some frozen?_more
theorem SRows.slice' {w : World} {B : Nat} {v : Value} {l : List Row} (h : SRows w B v l) : ∃ A n c, v = .slice A n c := let ⟨A, c, e⟩ := h.slice; ⟨A, _, c, e⟩
theorem sliced_rows {w : World} {A : Option Addr} {n c i : Nat} {l : List Row} (h : RRows w A n c l) (hi : i ≤ n) : ∃ A' n2 c2, Hid (sliced A i n c 2 = .slice A' n2 c2) ∧ n2 ≤ n ∧ RRows w A' n2 c2 (l.drop i) := by
  obtain ⟨h1, h2, h3, h4⟩ := h
  refine ⟨_, _, _, rfl, Nat.sub_le _ _, by rw [List.length_drop, h1], by omega, by omega, fun hn => ?_⟩
  obtain ⟨b, off, rfl, hc⟩ := h4 (by omega)
  refine ⟨b, off + i * 2, ?_, fun j hj => ?_⟩
  · have hci : ¬ (c = i) := by omega
    simp [hci, Addr.add]
  · obtain ⟨Am, nm, cm, k1, k2, k3, k4⟩ := hc (i + j) (by omega)
    have hg : (l.drop i).getD j ([], 0) = l.getD (i + j) ([], 0) := by simp [List.getD, List.getElem?_drop]
    rw [hg]
    exact ⟨Am, nm, cm, by rw [← k1]; congr 2; omega, k2, by rw [← k3]; congr 2; omega, k4⟩

section
variable {ops : Array Oper} {rest : List Oper} {o : Oper} {a : Act} {w : World} {Q : Exit → Act → World → Prop}
theorem sliceRows (hg : o.guard = none) {x lo : Operand} (ho : o.op = .slice 25 x (some lo) none none) {A A' : Option Addr} {n c i n2 c2 : Nat} {z : Int} (hx : a.eval x = .slice A n c) (hlo : a.eval lo = .int .i64 z) (hz : z = (i : Int)) (hi : i ≤ n) (hA : Hid (sliced A i n c 2 = .slice A' n2 c2))
    (h : wpList Tryz.prog ops Q rest (a.put o.dst (.slice A' n2 c2)) w) : wpList Tryz.prog ops Q (o :: rest) a w :=
  wpList_plain hg fun _ hK => by
    subst hz
    have he : Tryz.prog.elem 25 = 55 := by kernel_rfl
    have hu : Tryz.prog.underlying 25 = some (.slice (Tryz.prog.elem 25)) := by rw [he]; exact Tryz.underlying25
    have hs : (sizeOf 55).run Tryz.prog w = .ok 2 w := Tryz.sizeOf55 w
    have hr : (Instr.sliceAt 25 (.slice A n c) (some (.int .i64 (i : Int))) none none).run Tryz.prog w = .ok (.slice A' n2 c2) w := by
      rw [run_sliceAt_slice w _ _ _ _ _ hu, run_slice_l w _ _ _ _ hu .i64 (i : Int) (by omega) (by omega)]
      rw [Int.toNat_natCast, ← hA.out, he, hs]; rfl
    unfold Oper.wp execOp
    simp only [ho, Option.map_some, Option.map_none, hx, hlo, Sem.run_bind, hr, Result.andThen_ok]
    exact hK _ _ h
end

/-- Old rows appended to rows of one's own. -/
theorem run_appOld (w0 w : World) (ty : TypeId) {B : Nat} {v : Value} {l : List Row} (hown : SRows w B v l) {A : Option Addr} {n c : Nat} {l' : List Row} (hr : RRows w0 A n c l') (hb : Below w0.heap.size w0 w) (hn : l.length + n ≤ 1000000) (hB : B ≤ w.heap.size) (hB0 : w0.heap.size ≤ B) :
    ∃ v' w', (Builtin.append_ #[25, 25] ty #[v, .slice A n c]).run Tryz.prog w = .ok v' w' ∧ SRows w' B v' (l ++ l') ∧ w.grownBy w' v.ownBlock ∧ (v'.ownBlock = v.ownBlock ∨ v'.ownBlock = some w.heap.size) := by
  refine run_appRows w ty hown (hr.below hb) (fun _ _ => trivial) hn hB fun i hi b off e Am nm cm hc hnm => ?_
  obtain ⟨b', off', e', hcs⟩ := hr.2.2.2 (by omega)
  rw [e] at e'
  cases e'
  obtain ⟨Am', nm', cm', k1, k2, _⟩ := hcs i hi
  have k1' := keep_cell hb k1
  rw [hc] at k1'
  cases k1'
  obtain ⟨b2, off2, e2, hc2⟩ := k2.2.2.2.2 hnm
  refine ⟨b2, off2, e2, fun e3 => ?_⟩
  have h1 : b2 < w0.heap.size := World.block_lt_of_cell? w0 _ (hc2 0 hnm)
  have h2 := (hown.own_lt e3.symm).1
  omega

/-- The rows with the number of the marks m set to y. -/
def withS (l : List Row) (m : List Int) (y : Int) : List Row := l.take (plS l m) ++ ((if 0 < y then [(m, y)] else []) ++ l.drop (plS l m + if foundS l m = true then 1 else 0))

/-- What With hands back. -/
def WithPost (w : World) (l' : List Row) (e : Ending) (w' : World) : Prop := ∃ v, e = .returned v ∧ SRows w' w.heap.size v l' ∧ Below w.heap.size w w'

theorem foundS_at {l : List Row} {m ms : List Int} {y : Int} (h : l[plS l m]? = some (ms, y)) : foundS l m = (ms == m) := by
  unfold foundS; rw [h]; by_cases e : ms = m <;> simp [e]
theorem foundS_end {l : List Row} {m : List Int} (h : ¬ plS l m < l.length) : foundS l m = false := by
  unfold foundS; rw [List.getElem?_eq_none (by omega)]
theorem Below.grown' {B : Nat} {a w w' : World} {r : Option Nat} (h : Below B a w) (hg : w.grownBy w' r) (hB : B ≤ w.heap.size) (hr : ∀ k, r = some k → B ≤ k) : Below B a w' :=
  Frame'.below h (Frame'.of_grown hg) (fun k e => hr k e.symm) hB


set_option maxRecDepth 100000 in
set_option maxHeartbeats 4000000 in
theorem with_any (A : Option Addr) (n cp : Nat) (l : List Row) (A' : Option Addr) (n' c' : Nat) (m : List Int) (y : Int) (w : World) (h : RRows w A n cp l) (h' : RInts w A' n' c' m) (hn : n ≤ 1000) (hn' : n' ≤ 1000) (hy : I64 y) :
    Calls Tryz.prog 23 #[.slice A n cp, .slice A' n' c', .int .i64 y] w (WithPost w (withS l m y)) := by
  have hle := h.le
  have hl := h.len
  have hml := hide h'.len
  have hpl := plS_le l m
  go_enter Tryz.func23, Tryz.ntmps23
  go_wp2_with fail
  go_loopw [7, 8] (fun u i wr => ∃ (t : Nat) (v : Value), t ≤ plS l m ∧ v = u ∧ i = .int .i64 t ∧ SRows wr w.heap.size v (l.take t) ∧ Below w.heap.size w wr) (fun _ i _ => n - (intOf i).toNat)
  case atStart => exact ⟨0, _, Nat.zero_le _, rfl, rfl, by rw [List.take_zero]; exact SRows.nil_ _ _, Below.refl _ _⟩
  case round =>
    obtain ⟨t, v, ht, rfl, rfl, hO, hb⟩ := hrel
    have hlt' : (l.take t).length = t := by rw [List.length_take]; omega
    have hB := hb.size
    by_cases hlp : t < plS l m
    · have hlt : t < n := by omega
      obtain ⟨b, off, Am, nm, cm, ms, y0, rfl, hc0, hm0, hc1, hd, hat, hy0⟩ := h.step hlt
      have hah : aheadB ms m = true := by
        have := plS_before hat.out hlp
        simpa [aheadB] using this
      have hat2 : Hid (l.take (t + 1) = l.take t ++ [(ms, y0)]) := by unfold Hid; rw [List.take_add_one, hat.out]; rfl
      have hmb : 0 < nm → ∃ b' off', Am = some ⟨b', off', none⟩ ∧ b' < w.heap.size := fun hnm => by
        obtain ⟨b', off', e, hc⟩ := hm0.2.2.2.2 hnm
        exact ⟨b', off', e, World.block_lt_of_cell? w _ (hc 0 hnm)⟩
      have Hmb := hide hmb
      clear hmb
      have q0 := keep_cell hb hc0
      go_wp2_with fail
      refine (ahead_any Am A' nm cm n' c' ms m _ (hm0.below hb) (h'.below hb)).mono ?_
      rintro e w2 ⟨rfl, hbw⟩
      rw [hah]
      have hb2 := Below_trans' hb hb.size hbw
      have hO2 := hO.below hbw
      have q0 := keep_cell hb2 hc0
      have q1 := keep_cell hb2 hc1
      have hu : SMarks (w2.alloc (.cells #[.slice Am nm cm, .int .i64 y0] 55)) v.ownBlock (.slice Am nm cm) ms := SMarks.of ((hm0.below hb2).below ((Below.refl _ _).alloc (Nat.le_refl _) _)) (fun hnm => by
        obtain ⟨b', off', e, hlt⟩ := Hmb.out hnm
        exact ⟨b', off', e, fun e2 => by have := (hO.own_lt e2.symm).1; omega⟩)
      have hO3 := hO2.below ((Below.refl _ _).alloc (Nat.le_refl _) (.cells #[.slice Am nm cm, .int .i64 y0] 55))
      have hb3 := hb2.alloc hb2.size (.cells #[.slice Am nm cm, .int .i64 y0] 55)
      have hol := fun k hk => (hO3.own_lt (k := k) hk).1
      clear hO hb hO2 hbw
      go_wp2_with (at_builtin; refine appRow rfl rfl rfl hO3 rfl ((Has.new w2 55 #[.slice Am nm cm, .int .i64 y0]).cell 0) ((Has.new w2 55 #[.slice Am nm cm, .int .i64 y0]).cell 1) hu ⟨by omega, by omega⟩ (by omega) hb3.size ?_; intro v4 w4 hO4 hg4 _)
      rw [← hat2.out] at hO4
      have hb4 := Below.grown' hb3 hg4 hb3.size (fun k hk => hol k hk)
      clear hb3 hO3 hg4 hb2 hu
      go_roundw
      case rel => exact ⟨t + 1, _, by omega, rfl, by go_num, hO4, hb4⟩
      case measure => simp [intOf] <;> omega
    · obtain rfl : t = plS l m := by omega
      have hpe : Hid (plS l m = plS l m) := rfl
      obtain ⟨p, hp⟩ : ∃ p, plS l m = p := ⟨_, rfl⟩
      have HW := hide (show withS l m y = l.take (plS l m) ++ ((if 0 < y then [(m, y)] else []) ++ l.drop (plS l m + if foundS l m = true then 1 else 0)) from rfl)
      have HF1 := hide (fun ms y0 (h : l[plS l m]? = some (ms, y0)) => foundS_at h)
      have HP := hide (fun r (h : l[plS l m]? = some r) => plS_at h)
      rw [hp] at HW HF1 HP hO hlt' hpl
      rw [hp]
      have hpp := hide hp
      clear hp hlp ht hpe
      by_cases hlt : p < n
      · obtain ⟨b, off, Am, nm, cm, ms, y0, rfl, hc0, hm0, hc1, hd, hat, hy0⟩ := h.step hlt
        have hah : aheadB ms m = false := by
          have := HP.out _ hat.out
          simpa [aheadB] using this
        have q0 := keep_cell hb hc0
        go_wp2_with fail
        refine (ahead_any Am A' nm cm n' c' ms m _ (hm0.below hb) (h'.below hb)).mono ?_
        rintro e w2 ⟨rfl, hbw⟩
        rw [hah]
        have hb2 := Below_trans' hb hb.size hbw
        have hO2 := hO.below hbw
        have q0 := keep_cell hb2 hc0
        clear hO hb hbw
        obtain ⟨W2, hW2⟩ : ∃ W2, W2 = w2 := ⟨_, rfl⟩
        subst hW2
        have Hf := HF1.out ms y0 hat.out
        clear q0
        by_cases hy1 : 0 < y
        · have hbz : Below W2.heap.size W2 (W2.alloc (.cells #[] 3)) := (Below.refl _ _).alloc (Nat.le_refl _) _
          have hOz : Own (W2.alloc (.cells #[] 3)) W2.heap.size (.slice (some ⟨W2.heap.size, 0, none⟩) 0 0) [] := World.ownsRow_made W2 #[] 0 (Nat.le_refl _) (by unfold maxLen; omega) rfl
          have h'2 := (h'.below hb2).below hbz
          obtain ⟨v4, w4, h41, h42, h43, h44⟩ := run_appInts _ 22 hOz h'2 (by simp; have := h'.len; omega) (by simp)
          have hF4 : Frame' (fun b => b = W2.heap.size) (W2.alloc (.cells #[] 3)) w4 := (Frame'.of_grown h43).mono (fun k _ e => by cases e; rfl)
          have hb4 : Below W2.heap.size W2 w4 := Frame'.below hbz hF4 (fun k e => by have e : k = W2.heap.size := e; omega) (by simp)
          rw [List.nil_append] at h42
          obtain ⟨A4, c4, rfl⟩ := h42.slice
          have hr4 := h42.ints (fun x hx => h'.bd hx)
          have hmk : Hid (0 < m.length → ∃ b off, A4 = some ⟨b, off, none⟩ ∧ W2.heap.size ≤ b) := fun hn => by
            rcases h42.2 with ⟨e, e2⟩ | ⟨g, cap, cur, e, hg, _⟩
            · omega
            · cases e; exact ⟨g, 0, rfl, hg⟩
          have hba : Below w4.heap.size w4 (w4.alloc (.cells #[.slice A4 m.length c4, .int .i64 y] 55)) := (Below.refl _ _).alloc (Nat.le_refl _) _
          have hb5 := Below_trans' hb2 hb2.size (Below_trans' hb4 hb4.size hba)
          have hO5 := hO2.below (Below_trans' hb4 hb4.size hba)
          have hu : SMarks (w4.alloc (.cells #[.slice A4 m.length c4, .int .i64 y] 55)) v.ownBlock (.slice A4 m.length c4) m := SMarks.of (hr4.below hba) (fun hn => by
            obtain ⟨b, off, e, hb⟩ := hmk.out hn
            exact ⟨b, off, e, fun e2 => by have := (hO2.own_lt e2.symm).2; omega⟩)
          have r0 := (Has.new w4 55 #[.slice A4 m.length c4, .int .i64 y]).cell 0
          have r1 := (Has.new w4 55 #[.slice A4 m.length c4, .int .i64 y]).cell 1
          have hol := fun k hk => (hO5.own_lt (k := k) hk).1
          clear hF4 hr4 h42 h43 h44 hmk hba h'2 hOz hbz hb4 hO2
          go_upto_region 8 with (first
            | (at_builtin; refine list_app (s := .tmp 34) (x := .tmp 35) rfl rfl rfl rfl h41 ?_)
            | (at_builtin; refine appRow (s := .tmp 33) (x := .tmp 39) rfl rfl rfl hO5 rfl r0 r1 hu hy (by omega) hb5.size ?_; intro v6 w6 hO6 hg6 _))
          have hb6 := Below.grown' hb5 hg6 hb5.size hol
          obtain ⟨Av6, nv6, cv6, rfl⟩ := hO6.slice'
          clear hO5 hg6 hb5 hb2 h41 hu r0 r1 hol
          have q0 := keep_cell hb6 hc0
          go_wp2_with fail
          refine (ints_any Am A' nm cm n' c' ms m _ (hm0.below hb6) (h'.below hb6)).mono ?_
          rintro e w7 ⟨rfl, hbw⟩
          have hb7 := Below_trans' hb6 hb6.size hbw
          have hO7 := hO6.below hbw
          clear q0 hbw
          cases hme : ms == m with
          | true =>
            rw [hme] at Hf
            obtain ⟨A6, n6, c6, hA6, hn6, hr6⟩ := sliced_rows h (show (p + 1) ≤ n by omega)
            obtain ⟨v8, w8, h81, h82, h83, h84⟩ := run_appOld w w7 25 hO7 hr6 hb7 (by simp; omega) hb7.size (Nat.le_refl _)
            have hB8 := Below.grown' hb7 h83 hb7.size (fun k hk => (hO7.own_lt hk).1)
            clear hO7 hO6 hb6 hr6 h83 h84
            go_upto_region 10 with fail
            go_wp2_with (first
              | (refine sliceRows (x := .tmp 57) (lo := .tmp 58) rfl rfl rfl rfl ?_ ?_ hA6 ?_; omega; omega)
              | (at_builtin; refine list_app (s := .tmp 56) (x := .tmp 59) rfl rfl rfl rfl h81 ?_))
            go_ret
            refine ⟨v8, rfl, ?_, hB8⟩
            rw [HW.out, if_pos (by omega), Hf]
            simpa using h82
          | false =>
            rw [hme] at Hf
            obtain ⟨A6, n6, c6, hA6, hn6, hr6⟩ := sliced_rows h (show p ≤ n by omega)
            obtain ⟨v8, w8, h81, h82, h83, h84⟩ := run_appOld w w7 25 hO7 hr6 hb7 (by simp; omega) hb7.size (Nat.le_refl _)
            have hB8 := Below.grown' hb7 h83 hb7.size (fun k hk => (hO7.own_lt hk).1)
            clear hO7 hO6 hb6 hr6 h83 h84
            go_upto_region 10 with fail
            go_wp2_with (first
              | (refine sliceRows (x := .tmp 57) (lo := .tmp 58) rfl rfl rfl rfl ?_ ?_ hA6 ?_; omega; omega)
              | (at_builtin; refine list_app (s := .tmp 56) (x := .tmp 59) rfl rfl rfl rfl h81 ?_))
            go_ret
            refine ⟨v8, rfl, ?_, hB8⟩
            rw [HW.out, if_pos (by omega), Hf]
            simpa using h82
        · go_upto_region 8 with fail
          obtain ⟨w6, hw6⟩ : ∃ w6, w6 = W2 := ⟨_, rfl⟩
          subst hw6
          have hb6 := hb2
          have hO6 := hO2
          obtain ⟨Av6, nv6, cv6, rfl⟩ := hO6.slice'
          clear hb2 hO2
          have q0 := keep_cell hb6 hc0
          go_wp2_with fail
          refine (ints_any Am A' nm cm n' c' ms m _ (hm0.below hb6) (h'.below hb6)).mono ?_
          rintro e w7 ⟨rfl, hbw⟩
          have hb7 := Below_trans' hb6 hb6.size hbw
          have hO7 := hO6.below hbw
          clear q0 hbw
          cases hme : ms == m with
          | true =>
            rw [hme] at Hf
            obtain ⟨A6, n6, c6, hA6, hn6, hr6⟩ := sliced_rows h (show (p + 1) ≤ n by omega)
            obtain ⟨v8, w8, h81, h82, h83, h84⟩ := run_appOld w w7 25 hO7 hr6 hb7 (by simp; omega) hb7.size (Nat.le_refl _)
            have hB8 := Below.grown' hb7 h83 hb7.size (fun k hk => (hO7.own_lt hk).1)
            clear hO7 hO6 hb6 hr6 h83 h84
            go_upto_region 10 with fail
            go_wp2_with (first
              | (refine sliceRows (x := .tmp 57) (lo := .tmp 58) rfl rfl rfl rfl ?_ ?_ hA6 ?_; omega; omega)
              | (at_builtin; refine list_app (s := .tmp 56) (x := .tmp 59) rfl rfl rfl rfl h81 ?_))
            go_ret
            refine ⟨v8, rfl, ?_, hB8⟩
            rw [HW.out, if_neg (by omega), Hf]
            simpa using h82
          | false =>
            rw [hme] at Hf
            obtain ⟨A6, n6, c6, hA6, hn6, hr6⟩ := sliced_rows h (show p ≤ n by omega)
            obtain ⟨v8, w8, h81, h82, h83, h84⟩ := run_appOld w w7 25 hO7 hr6 hb7 (by simp; omega) hb7.size (Nat.le_refl _)
            have hB8 := Below.grown' hb7 h83 hb7.size (fun k hk => (hO7.own_lt hk).1)
            clear hO7 hO6 hb6 hr6 h83 h84
            go_upto_region 10 with fail
            go_wp2_with (first
              | (refine sliceRows (x := .tmp 57) (lo := .tmp 58) rfl rfl rfl rfl ?_ ?_ hA6 ?_; omega; omega)
              | (at_builtin; refine list_app (s := .tmp 56) (x := .tmp 59) rfl rfl rfl rfl h81 ?_))
            go_ret
            refine ⟨v8, rfl, ?_, hB8⟩
            rw [HW.out, if_neg (by omega), Hf]
            simpa using h82
      · have hpn : p = n := by omega
        have Hf : foundS l m = false := by
          have e : plS l m = p := hpp.out
          rw [← e] at hpn
          exact foundS_end (by omega)
        obtain ⟨W2, hW2⟩ : ∃ W2, W2 = wr := ⟨_, rfl⟩
        subst hW2
        have hb2 := hb
        have hO2 := hO
        have hpn1 : p ≤ n := by omega
        have hpn2 : n ≤ p := by omega
        have hpn3 : ¬ (p : Int) < (n : Int) := by omega
        clear hb hO hpp hpn hlt
        by_cases hy1 : 0 < y
        · have hbz : Below W2.heap.size W2 (W2.alloc (.cells #[] 3)) := (Below.refl _ _).alloc (Nat.le_refl _) _
          have hOz : Own (W2.alloc (.cells #[] 3)) W2.heap.size (.slice (some ⟨W2.heap.size, 0, none⟩) 0 0) [] := World.ownsRow_made W2 #[] 0 (Nat.le_refl _) (by unfold maxLen; omega) rfl
          have h'2 := (h'.below hb2).below hbz
          obtain ⟨v4, w4, h41, h42, h43, h44⟩ := run_appInts _ 22 hOz h'2 (by simp; have := h'.len; omega) (by simp)
          have hF4 : Frame' (fun b => b = W2.heap.size) (W2.alloc (.cells #[] 3)) w4 := (Frame'.of_grown h43).mono (fun k _ e => by cases e; rfl)
          have hb4 : Below W2.heap.size W2 w4 := Frame'.below hbz hF4 (fun k e => by have e : k = W2.heap.size := e; omega) (by simp)
          rw [List.nil_append] at h42
          obtain ⟨A4, c4, rfl⟩ := h42.slice
          have hr4 := h42.ints (fun x hx => h'.bd hx)
          have hmk : Hid (0 < m.length → ∃ b off, A4 = some ⟨b, off, none⟩ ∧ W2.heap.size ≤ b) := fun hn => by
            rcases h42.2 with ⟨e, e2⟩ | ⟨g, cap, cur, e, hg, _⟩
            · omega
            · cases e; exact ⟨g, 0, rfl, hg⟩
          have hba : Below w4.heap.size w4 (w4.alloc (.cells #[.slice A4 m.length c4, .int .i64 y] 55)) := (Below.refl _ _).alloc (Nat.le_refl _) _
          have hb5 := Below_trans' hb2 hb2.size (Below_trans' hb4 hb4.size hba)
          have hO5 := hO2.below (Below_trans' hb4 hb4.size hba)
          have hu : SMarks (w4.alloc (.cells #[.slice A4 m.length c4, .int .i64 y] 55)) v.ownBlock (.slice A4 m.length c4) m := SMarks.of (hr4.below hba) (fun hn => by
            obtain ⟨b, off, e, hb⟩ := hmk.out hn
            exact ⟨b, off, e, fun e2 => by have := (hO2.own_lt e2.symm).2; omega⟩)
          have r0 := (Has.new w4 55 #[.slice A4 m.length c4, .int .i64 y]).cell 0
          have r1 := (Has.new w4 55 #[.slice A4 m.length c4, .int .i64 y]).cell 1
          have hol := fun k hk => (hO5.own_lt (k := k) hk).1
          clear hF4 hr4 h42 h43 h44 hmk hba h'2 hOz hbz hb4 hO2
          go_upto_region 8 with (first
            | (at_builtin; refine list_app (s := .tmp 34) (x := .tmp 35) rfl rfl rfl rfl h41 ?_)
            | (at_builtin; refine appRow (s := .tmp 33) (x := .tmp 39) rfl rfl rfl hO5 rfl r0 r1 hu hy (by omega) hb5.size ?_; intro v6 w6 hO6 hg6 _))
          have hb6 := Below.grown' hb5 hg6 hb5.size hol
          obtain ⟨Av6, nv6, cv6, rfl⟩ := hO6.slice'
          clear hO5 hg6 hb5 hb2 h41 hu r0 r1 hol
          obtain ⟨w7, hw7⟩ : ∃ w7, w7 = w6 := ⟨_, rfl⟩
          subst hw7
          have hb7 := hb6
          have hO7 := hO6
          obtain ⟨A6, n6, c6, hA6, hn6, hr6⟩ := sliced_rows h (show p ≤ n by omega)
          obtain ⟨v8, w8, h81, h82, h83, h84⟩ := run_appOld w w7 25 hO7 hr6 hb7 (by simp; omega) hb7.size (Nat.le_refl _)
          have hB8 := Below.grown' hb7 h83 hb7.size (fun k hk => (hO7.own_lt hk).1)
          clear hO7 hO6 hb6 hr6 h83 h84
          go_upto_region 10 with fail
          go_wp2_with (first
            | (refine sliceRows (x := .tmp 57) (lo := .tmp 58) rfl rfl rfl rfl ?_ ?_ hA6 ?_; omega; omega)
            | (at_builtin; refine list_app (s := .tmp 56) (x := .tmp 59) rfl rfl rfl rfl h81 ?_))
          go_ret
          refine ⟨v8, rfl, ?_, hB8⟩
          rw [HW.out, if_pos (by omega), Hf]
          simpa using h82
        · go_upto_region 8 with fail
          obtain ⟨w6, hw6⟩ : ∃ w6, w6 = W2 := ⟨_, rfl⟩
          subst hw6
          have hb6 := hb2
          have hO6 := hO2
          obtain ⟨Av6, nv6, cv6, rfl⟩ := hO6.slice'
          clear hb2 hO2
          obtain ⟨w7, hw7⟩ : ∃ w7, w7 = w6 := ⟨_, rfl⟩
          subst hw7
          have hb7 := hb6
          have hO7 := hO6
          obtain ⟨A6, n6, c6, hA6, hn6, hr6⟩ := sliced_rows h (show p ≤ n by omega)
          obtain ⟨v8, w8, h81, h82, h83, h84⟩ := run_appOld w w7 25 hO7 hr6 hb7 (by simp; omega) hb7.size (Nat.le_refl _)
          have hB8 := Below.grown' hb7 h83 hb7.size (fun k hk => (hO7.own_lt hk).1)
          clear hO7 hO6 hb6 hr6 h83 h84
          go_upto_region 10 with fail
          go_wp2_with (first
            | (refine sliceRows (x := .tmp 57) (lo := .tmp 58) rfl rfl rfl rfl ?_ ?_ hA6 ?_; omega; omega)
            | (at_builtin; refine list_app (s := .tmp 56) (x := .tmp 59) rfl rfl rfl rfl h81 ?_))
          go_ret
          refine ⟨v8, rfl, ?_, hB8⟩
          rw [HW.out, if_neg (by omega), Hf]
          simpa using h82
end Go.Proofs.YtoeajgjpakilgaaGreat
