/-
  The program's drop and Take.
-/
import Derived.Test.YtleniljhacnikaaGreatW9q
namespace Go.Proofs.YtleniljhacnikaaGreat
open Go.RowKit Go.Proofs
attribute [local go_sem] cell?_more cell?_alloc_some cell?_setCell_far frozen?_alloc_some frozen?_more

/-- What drop leaves: the rows less y ballots of the marks ms, if there are as many. -/
def DropPost (w : World) (g B : Nat) (c k : Int) (v : Value) (l : List Row) (ms : List Int) (y : Int) (e : Ending) (w' : World) : Prop :=
  e = .returned (.bool (dropS l ms y).isSome) ∧ ∃ v', PutPost w g B c k v ((dropS l ms y).getD l) v' w'

theorem eraseIdx_set' {α : Type} (l : List α) (i : Nat) (x : α) : (l.set i x).take i ++ (l.set i x).drop (i + 1) = l.eraseIdx i := by
  rw [List.take_set_of_le (Nat.le_refl _), List.drop_set_of_lt (Nat.lt_succ_self _), List.eraseIdx_eq_take_drop_succ]

set_option maxRecDepth 100000 in
set_option maxHeartbeats 2000000 in
theorem drop_any (c k : Int) (v : Value) (l : List Row) (g B : Nat) (A : Option Addr) (n cp : Nat) (ms : List Int) (y : Int) (w : World) (hP : Has w g 24 #[.int .i64 c, .int .u8 k, v]) (hO : ORows w B v l) (hgB : g < B) (_hB : B ≤ w.heap.size)
    (hasc : Asc l) (hll : l.length ≤ 1000) (hm : RInts w A n cp ms) (hy : 1 ≤ y ∧ y ≤ 9223372036854775807) (hz : ∀ z, l[plS l ms]? = some (ms, z) → 0 ≤ z ∧ z ≤ 9223372036854775807) :
    Calls Tryz.prog 40 #[.pointer (some ⟨g, 0, none⟩), .slice A n cp, .int .i64 y] w (DropPost w g B c k v l ms y) := by
  obtain ⟨A1, n1, c1, rfl⟩ : ∃ A1 n1 c1, v = .slice A1 n1 c1 := by
    rcases hO.slice with ⟨e, _⟩ | ⟨g', cap, cur, e, _⟩
    · exact ⟨none, 0, 0, e⟩
    · exact ⟨_, _, _, e⟩
  have hrow := hO.rows
  have hl1 := hrow.len
  have p0 : w.cell? ⟨g, 0, none⟩ = some (.int .i64 c) := hP.cell 0
  have p1 : w.cell? ⟨g, 1, none⟩ = some (.int .u8 k) := hP.cell 1
  have p2 : w.cell? ⟨g, 2, none⟩ = some (.slice A1 n1 c1) := hP.cell 2
  have hpl := plS_le l ms
  have Hasc := hide hasc
  have Hz := hide hz
  clear hasc hz
  go_enter Tryz.func40, Tryz.ntmps40
  go_wp2_with fail
  refine (place9_any c k A1 n1 c1 l A n cp ms w hrow hm (by omega) Hasc.out).mono ?_
  rintro e w1 ⟨rfl, hbw⟩
  have hP1 := hP.below hbw hP.lt
  have hO1 := hO.below hbw
  have p2 : w1.cell? ⟨g, 2, none⟩ = some (.slice A1 n1 c1) := hP1.cell 2
  clear p0 p1
  cases hf : foundS l ms with
  | false =>
    have hno := hide (dropS_none (y := y) (foundS_false hf))
    clear hf Hz Hasc
    go_wp2
    go_ret
    exact ⟨by rw [hno.out]; rfl, _, by rw [hno.out]; exact ⟨hP1, hO1, Frame'.of_below hbw⟩⟩
  | true =>
    obtain ⟨z, hat⟩ := foundS_true hf
    have hd := hide (dropS_is (y := y) hat)
    have hI := Hz.out z hat
    have hlt := (List.getElem?_eq_some_iff.1 hat).1
    obtain ⟨gr, rfl, hgr⟩ : ∃ gr, A1 = some ⟨gr, 0, none⟩ ∧ B ≤ gr := by
      rcases hO1.slice with ⟨e, e2⟩ | ⟨g', cap, cur, e, hb, _⟩
      · rw [e2] at hlt; simp at hlt
      · cases e; exact ⟨g', rfl, hb⟩
    obtain ⟨b, off, Am, nm, cm, ms', y', eA, hc0, hm0, hc1, hd0, hat', hy'⟩ := hO1.rows.step (k := plS l ms) (by omega)
    cases eA
    have hat2 := hat'.out
    rw [hat] at hat2
    cases hat2
    rw [Nat.zero_add] at hc1
    have hplt : (plS l ms : Int) < (n1 : Int) := by omega
    have hpl0 : (0 : Int) ≤ (plS l ms : Int) := by omega
    by_cases hzy : z < y
    · have hno : Hid (dropS l ms y = none) := by unfold Hid; rw [hd.out, if_pos hzy]
      generalize plS l ms = pl at *
      clear hf Hz Hasc hat hd0 hat' hd hpl hP hO hrow hc0
      go_wp2
      go_ret
      exact ⟨by rw [hno.out]; rfl, _, by rw [hno.out]; exact ⟨hP1, hO1, Frame'.of_below hbw⟩⟩
    · have hfr : w1.frozen? ⟨gr, plS l ms * 2 + 1, none⟩ = false := by
        obtain ⟨cs, e, h1, _⟩ := hO1
        rw [hl1] at h1
        exact h1.frozenAt _
      have hdi : I64 (z - y) := ⟨by omega, by omega⟩
      have hOs := hO1.setMany hl1 hat hdi
      have hPs := hP1.far (p := ⟨gr, plS l ms * 2 + 1, none⟩) (by show g ≠ gr; omega) (.int .i64 (z - y))
      have hFs := Frame'.setCell (p := ⟨gr, plS l ms * 2 + 1, none⟩) (Frame'.of_below (S := fun b => b = g ∨ some b = some gr) hbw) (.inl (.inr rfl)) (.int .i64 (z - y))
      have hcs : (w1.setCell ⟨gr, plS l ms * 2 + 1, none⟩ (.int .i64 (z - y))).cell? ⟨gr, plS l ms * 2 + 1, none⟩ = some (.int .i64 (z - y)) := by
        obtain ⟨b9, off9, Am9, nm9, cm9, ms9, y9, eA9, -, -, hc9, -, hat9, -⟩ := hOs.rows.step (k := plS l ms) (by omega)
        cases eA9
        have := hat9.out
        rw [List.getElem?_set_self hlt] at this
        cases this
        rwa [Nat.zero_add] at hc9
      have Hat := hide hat
      have Hlt := hide hlt
      have Hl1 := hide hl1
      obtain ⟨pl, hplE⟩ : ∃ pl, plS l ms = pl := ⟨_, rfl⟩
      rw [hplE] at hfr hOs hPs hFs hcs hplt hpl0 hc1 Hat Hlt hd hc0
      have hwp : IntKind.i64.wrap ((pl : Int) + 1) = (pl : Int) + 1 := IntWalk.i64_in _ (by have := Hlt.out; omega)
      have hplt' : pl < n1 := by omega
      rw [hplE]
      clear hf Hz Hasc hat hd0 hat' hplE hP hO hrow hc0 hlt hpl hO1
      have hll' : n1 ≤ 1000000 := by omega
      clear hl1
      go_upto_region 5 with fail
      generalize World.setCell w1 _ _ = W4 at hOs hPs hFs hcs ⊢
      clear hc1 hfr hP1 p2
      obtain ⟨d, hdd⟩ : ∃ d, d = z - y := ⟨_, rfl⟩
      rw [← hdd] at hOs hcs hdi
      have p2 : W4.cell? ⟨g, 2, none⟩ = some (.slice (some ⟨gr, 0, none⟩) n1 c1) := hPs.cell 2
      by_cases hd0 : d = 0
      · have hsome : Hid (dropS l ms y = some (l.eraseIdx pl)) := by unfold Hid; rw [hd.out, if_neg (by omega), if_pos (by omega)]
        subst hd0
        have hPl := hPs.lt
        obtain ⟨cs, hcs2, hown, hmk⟩ := hOs
        rw [List.length_set, Hl1.out] at hown
        have Hcs := hide hcs2
        have Hmk := hide hmk
        have hone := hide (one_cell2 (cs := cs) fun i x hx => by
          obtain ⟨A', n', c', e, _⟩ := (Hmk.out x (List.mem_of_getElem? hx)).1
          exact ⟨A', n', c', e⟩)
        clear hcs2 hmk
        go_wp2_with fail
        refine (deleteR_any B gr n1 c1 pl (cs.flatMap cell2) W4 hown hll' hplt' hone.out).mono ?_
        rintro e w5 ⟨rfl, hown5, hF5⟩
        have hP5 := hF5.has hPs (by show ¬ (g = gr); omega)
        have q2 : w5.cell? ⟨g, 2, none⟩ = some (.slice (some ⟨gr, 0, none⟩) n1 c1) := hP5.cell 2
        have qf := hP5.free 2
        clear hown p2 hcs hPs
        go_wp2
        go_ret
        have k6 : Frame' (fun b => b = g) w5 (w5.setCell ⟨g, 2, none⟩ (.slice (some ⟨gr, 0, none⟩) (pl + (n1 - (pl + 1))) c1)) := Frame'.setCell (p := ⟨g, 2, none⟩) (Frame'.refl (fun b => b = g) w5) (.inl rfl) _
        refine ⟨by rw [hsome.out]; rfl, .slice (some ⟨gr, 0, none⟩) (pl + (n1 - (pl + 1))) c1, ?_⟩
        rw [hsome.out]
        have hel : (l.eraseIdx pl).length = pl + (n1 - (pl + 1)) := by rw [List.length_eraseIdx_of_lt Hlt.out, Hl1.out]; omega
        refine ⟨hP5.put 2 _, ⟨cs.take pl ++ cs.drop (pl + 1), ?_, ?_, ?_⟩, ?_⟩
        · rw [List.map_append, List.map_take, List.map_drop, Hcs.out]; exact eraseIdx_set' _ _ _
        · show World.ownsRow _ _ _ _ _ (l.eraseIdx pl).length _
          rw [hel, List.flatMap_append, ← take_cell2, ← drop_cell2]
          exact owns_frame hown5 k6 (fun b hb e => by
            have hb : gr = b := by cases hb; rfl
            have e : b = g := e
            omega)
        · intro x hx
          have hin : x ∈ cs := by
            rcases List.mem_append.1 hx with h | h
            · exact List.mem_of_mem_take h
            · exact List.mem_of_mem_drop h
          exact ⟨((Hmk.out x hin).1.frame hF5 (fun b _ hb e => hb (by rw [e]; rfl))).frame k6 (fun b hb _ e => by omega), (Hmk.out x hin).2⟩
        · exact (hFs.trans (hF5.mono fun b _ e => .inr (by rw [e]))).trans (k6.mono fun b _ e => .inl e)
      · have hsome : Hid (dropS l ms y = some (l.set pl (ms, d))) := by unfold Hid; rw [hd.out, if_neg (by omega), if_neg (by omega), hdd]
        have hne : (d == 0) = false := by simpa using hd0
        clear hd0 hdd
        go_wp2
        go_ret
        exact ⟨by rw [hsome.out]; rfl, _, by rw [hsome.out]; exact ⟨hPs, hOs, hFs⟩⟩

/-- y ballots less, of one kind of marks. -/
def takeP (c k : Int) (l : List Row) (kb : Int) (mb : List Int) (y : Int) : PR :=
  if mayS c k l kb mb y = 0 then (match dropS l mb y with | some l' => ⟨0, c, k, l'⟩ | none => badP 6) else badP (mayS c k l kb mb y)

set_option maxRecDepth 100000 in
set_option maxHeartbeats 2000000 in
theorem ptake_any (c k : Int) (A : Option Addr) (n cp : Nat) (l : List Row) (kb : Int) (Ab : Option Addr) (nb cb : Nat) (mb : List Int) (y : Int) (w : World) (h : RRows w A n cp l) (hm : RInts w Ab nb cb mb) (hyy : y ≤ 9223372036854775807) :
    Calls Tryz.prog 18 #[.agg #[.int .i64 c, .int .u8 k, .slice A n cp], .agg #[.int .u8 kb, .slice Ab nb cb], .int .i64 y] w (PPostO w (takeP c k l kb mb y)) := by
  have hl := h.len
  have hml := hide hm.len
  have hS0 := (((Hs.nil w).alloc 24 #[.int .i64 c, .int .u8 k, .slice A n cp]).alloc 32 #[.int .u8 kb, .slice Ab nb cb]).alloc 24 #[.int .i64 0, .int .u8 0, .slice none 0 0]
  have hb0 : Below w.heap.size w (((w.alloc (.cells #[.int .i64 c, .int .u8 k, .slice A n cp] 24)).alloc (.cells #[.int .u8 kb, .slice Ab nb cb] 32)).alloc (.cells #[.int .i64 0, .int .u8 0, .slice none 0 0] 24)) := (((Below.refl _ _).alloc (Nat.le_refl _) _).alloc (by simp) _).alloc (by simp; omega) _
  have hz0 : (((w.alloc (.cells #[.int .i64 c, .int .u8 k, .slice A n cp] 24)).alloc (.cells #[.int .u8 kb, .slice Ab nb cb] 32)).alloc (.cells #[.int .i64 0, .int .u8 0, .slice none 0 0] 24)).heap.size = w.heap.size + 3 := by simp
  simp only [World.size_alloc] at hS0
  go_enter Tryz.func18, Tryz.ntmps18
  go_wp2_with fail
  generalize hW : World.alloc (World.alloc (World.alloc _ _) _) _ = W0 at hS0 hb0 hz0
  try rw [hW]
  clear hW
  refine (pmay_any c k A n cp l kb Ab nb cb mb y _ (h.below hb0) (hm.below hb0)).mono ?_
  rintro e w1 ⟨rfl, hbw⟩
  obtain ⟨hR, hQ, hP, -⟩ := hS0.below hbw
  have hb1 := Below_trans' hb0 hb0.size hbw
  have hz1 : w.heap.size + 3 ≤ w1.heap.size := by have := hbw.size; omega
  have hm1 := hm.below hb1
  clear hS0 hb0 hbw hz0
  have hyI : Hid (y ≤ 9223372036854775807) := hyy
  clear hyy
  by_cases herr : mayS c k l kb mb y = 0
  · obtain ⟨hc1, hk1, hc2, hy1⟩ := may_ok herr
    have hr : Hid (takeP c k l kb mb y = (match dropS l mb y with | some l' => ⟨0, c, k, l'⟩ | none => badP 6)) := by unfold Hid takeP; rw [if_pos herr]
    rw [herr]
    have H1 := hide hc1
    have H2 := hide hc2
    have h64 := (check_iff.1 hc1).1
    clear herr hc1 hk1 hc2
    have p0 : w1.cell? ⟨w.heap.size, 0, none⟩ = some (.int .i64 c) := hP.cell 0
    have p1 : w1.cell? ⟨w.heap.size, 1, none⟩ = some (.int .u8 k) := hP.cell 1
    have p2 : w1.cell? ⟨w.heap.size, 2, none⟩ = some (.slice A n cp) := hP.cell 2
    go_wp2_with fail
    refine (twin_any c k A n cp l w1 (h.below hb1) (by omega) (fun r hr => by have := (row_small H1.out hr).1; omega)).mono ?_
    rintro e w2 ⟨v, rfl, hO, hbw⟩
    replace hO := hO.mono hz1
    have hR2 := hR.below hbw hR.lt
    have hQ2 := hQ.below hbw hQ.lt
    have hP2 := hP.below hbw hP.lt
    have hm2 := hm1.below hbw
    have hb2 := Below_trans' hb1 hb1.size hbw
    have hz2 : w.heap.size + 3 ≤ w2.heap.size := Nat.le_trans hz1 hbw.size
    clear hR hQ hP hb1 hbw p0 p1 p2 hz1 hm1
    have p0 : w2.cell? ⟨w.heap.size, 0, none⟩ = some (.int .i64 c) := hP2.cell 0
    have p1 : w2.cell? ⟨w.heap.size, 1, none⟩ = some (.int .u8 k) := hP2.cell 1
    have p2 : w2.cell? ⟨w.heap.size, 2, none⟩ = some (.slice A n cp) := hP2.cell 2
    have f0 := hP2.free 0
    have f1 := hP2.free 1
    have f2 := hP2.free 2
    have q1 : w2.cell? ⟨w.heap.size + 1, 1, none⟩ = some (.slice Ab nb cb) := hQ2.cell 1
    obtain ⟨Av, nv, cv, rfl⟩ : ∃ Av nv cv, v = .slice Av nv cv := by
      rcases hO.slice with ⟨e, _⟩ | ⟨g', cap, cur, e, _⟩
      · exact ⟨none, 0, 0, e⟩
      · exact ⟨_, _, _, e⟩
    have hP3 := put3 (x' := .int .i64 c) (y' := .int .u8 k) (z' := .slice Av nv cv) hP2
    have k3 := frame3 w2 w.heap.size (.int .i64 c) (.int .u8 k) (.slice Av nv cv)
    have hO3 := hO.frame k3 (fun b hb _ e => by omega)
    have hR3 := k3.has hR2 (by show ¬ (w.heap.size + 2 = w.heap.size); omega)
    have hQ3 := k3.has hQ2 (by show ¬ (w.heap.size + 1 = w.heap.size); omega)
    have hb3 := below3 hb2 (Nat.le_refl _) (.int .i64 c) (.int .u8 k) (.slice Av nv cv)
    have hm3 := hm.below hb3
    have hz3 := Nat.le_trans hz2 k3.size
    go_upto_region 5 with fail
    generalize hW : World.setCell _ _ _ = W3 at hP3 hO3 hR3 hb3 hz3 hm3 hQ3
    try rw [hW]
    clear hW k3 hO hP2 hQ2 hR2 hb2 hz2 p0 p1 p2 f0 f1 f2 q1 hm2
    have q1 : W3.cell? ⟨w.heap.size + 1, 1, none⟩ = some (.slice Ab nb cb) := hQ3.cell 1
    have hasc : Hid (Asc l) := (check_iff.1 H1.out).2.2.2.2.2.2.1
    have hpos : Hid (Pos l) := (check_iff.1 H1.out).2.2.2.2.2.2.2.1
    have htot : Hid (totS l ≤ 1000000) := (check_iff.1 H1.out).2.2.2.2.2.1
    go_wp2_with fail
    refine (drop_any c k (.slice Av nv cv) l w.heap.size (w.heap.size + 3) Ab nb cb mb y W3 hP3 hO3 (by omega) hz3 hasc.out (by omega) hm3 ⟨by omega, hyI.out⟩ (fun z hz => by
      have h1 := hpos.out _ (List.mem_of_getElem? hz)
      have h2 := le_tot hpos.out (List.mem_of_getElem? hz)
      have h3 := htot.out
      simp only at h1 h2
      exact ⟨by omega, by omega⟩)).mono ?_
    rintro e w4 ⟨rfl, v4, hP4, hO4, hF⟩
    have hol := fun k hk => hO3.own_lt (k := k) hk
    have hR4 := hF.has hR3 (by
      rintro (e | e)
      · omega
      · have := (hol _ e.symm).1; omega)
    have hb4 : Below w.heap.size w w4 := Frame'.below hb3 hF (by
      rintro b (e | e)
      · omega
      · have := (hol _ e.symm).1; omega) hb3.size
    clear hP3 hO3 hR3 hQ3 hb3 hz3 hm3 hF hol q1
    have z0 : w4.cell? ⟨w.heap.size + 2, 0, none⟩ = some (.int .i64 0) := hR4.cell 0
    have z1 : w4.cell? ⟨w.heap.size + 2, 1, none⟩ = some (.int .u8 0) := hR4.cell 1
    have z2 : w4.cell? ⟨w.heap.size + 2, 2, none⟩ = some (.slice none 0 0) := hR4.cell 2
    have y0 := hR4.free 0
    have y1 := hR4.free 1
    have y2 := hR4.free 2
    cases hd : dropS l mb y with
    | none =>
      rw [hd] at hr hO4
      go_wp2
      refine retProf2 rfl rfl rfl (put3 hR4) rfl rfl ⟨none, 0, 0, ?_, ?_, below3 hb4 (by omega) _ _ _⟩
      · rw [hr.out]; rfl
      · rw [hr.out]; exact ORows.nil_ _ _
    | some l' =>
      rw [hd] at hr hO4
      obtain ⟨Aw, nw, cw, rfl⟩ : ∃ Av nv cv, v4 = .slice Av nv cv := by
        rcases hO4.slice with ⟨e, _⟩ | ⟨g', cap, cur, e, _⟩
        · exact ⟨none, 0, 0, e⟩
        · exact ⟨_, _, _, e⟩
      have p0 : w4.cell? ⟨w.heap.size, 0, none⟩ = some (.int .i64 c) := hP4.cell 0
      have p1 : w4.cell? ⟨w.heap.size, 1, none⟩ = some (.int .u8 k) := hP4.cell 1
      have p2 : w4.cell? ⟨w.heap.size, 2, none⟩ = some (.slice Aw nw cw) := hP4.cell 2
      go_wp2
      refine retProf2 rfl rfl rfl (put3 hR4) rfl rfl ⟨Aw, nw, cw, ?_, ?_, below3 hb4 (by omega) _ _ _⟩
      · rw [hr.out]; rfl
      · rw [hr.out]
        exact (hO4.frame (frame3 w4 (w.heap.size + 2) _ _ _) (fun b hb _ e => by omega)).mono (by omega)
  · have hr : Hid (takeP c k l kb mb y = badP (mayS c k l kb mb y)) := by unfold Hid takeP; rw [if_neg herr]
    have hne : (mayS c k l kb mb y != 0) = true := by rw [bne_iff_ne]; exact herr
    clear herr
    have z0 : w1.cell? ⟨w.heap.size + 2, 0, none⟩ = some (.int .i64 0) := hR.cell 0
    have z1 : w1.cell? ⟨w.heap.size + 2, 1, none⟩ = some (.int .u8 0) := hR.cell 1
    have z2 : w1.cell? ⟨w.heap.size + 2, 2, none⟩ = some (.slice none 0 0) := hR.cell 2
    have y0 := hR.free 0
    have y1 := hR.free 1
    have y2 := hR.free 2
    go_wp2
    refine retProf2 rfl rfl rfl (put3 hR) rfl rfl ⟨none, 0, 0, ?_, ?_, below3 hb1 (by omega) _ _ _⟩
    · rw [hr.out]; rfl
    · rw [hr.out]; exact ORows.nil_ _ _
end Go.Proofs.YtleniljhacnikaaGreat
