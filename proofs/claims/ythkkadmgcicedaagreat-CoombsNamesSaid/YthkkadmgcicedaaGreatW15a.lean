/-
  First preferences: runoff.firsts at any closure, the reference's Had.
  Firsts, of both.
-/
import Derived.Test.YthkkadmgcicedaaGreatW11g
namespace Go.Proofs.YthkkadmgcicedaaGreat
open Go.RowKit Go.Proofs Go.Shelf
attribute [local go_sem] cell?_more cell?_alloc_some cell?_setCell_far frozen?_alloc_some frozen?_more
/-- What a valid ranked profile gives. -/
structure RankOK (l : List Row) (C : Nat) : Prop where
  len : l.length ≤ 64
  c1 : 1 ≤ C
  c10 : C ≤ 10
  tot : totS l ≤ 1000000
  pos : Pos l
  marks : ∀ r ∈ l, ∀ x ∈ r.1, 0 ≤ x ∧ x < C
theorem rank_ok {l : List Row} {C : Nat} (h : checkS C 1 l = 0) : RankOK l C := by
  obtain ⟨h1, h2, h3, _, _, h4, _, h5, h6⟩ := check_iff.1 h
  exact ⟨h1, by omega, by omega, h4, h5, fun r hr => (marks_of (h6 r hr)).2.1 (by omega)⟩
theorem pos_take {l : List Row} (h : Pos l) (t : Nat) : Pos (l.take t) := fun x hx => h x (List.mem_of_mem_take hx)
theorem tot_nn {l : List Row} (h : Pos l) : 0 ≤ totS l := Int.le_trans (wsum_nn (φ := fun _ => true) h) (wsum_le_tot h)
theorem tot_take {l : List Row} (h : Pos l) (t : Nat) : totS (l.take t) ≤ totS l := by
  have e : totS l = totS (l.take t) + totS (l.drop t) := by
    unfold totS
    rw [← List.sum_append, ← List.map_append, List.take_append_drop]
  have := tot_nn (l := l.drop t) fun x hx => h x (List.mem_of_mem_drop hx)
  omega
theorem RankOK.room {l : List Row} {C t : Nat} (h : RankOK l C) {ms : List Int} {y : Int} (hat : l[t]? = some (ms, y)) (φ : Int → Bool) (x : Int) :
    0 < y ∧ y ≤ 1000000 ∧ 0 ≤ hadS φ (l.take t) x ∧ hadS φ (l.take t) x + y ≤ 1000000 ∧ 0 ≤ lostS φ (l.take t) ∧ lostS φ (l.take t) + y ≤ 1000000 := by
  have h1 := hadS_bd (φ := φ) (pos_take h.pos t) x
  have h2 := lostS_bd (φ := φ) (pos_take h.pos t)
  have h3 := totS_take_succ hat
  have h4 := tot_take h.pos (t + 1)
  have h5 := h.tot
  have h6 := h.pos _ (List.mem_of_getElem? hat)
  simp at h3 h6
  omega
theorem firstS_find (p : Int → Bool) : ∀ (l : List Int) (k : Int), (firstS p l k = -1 ∧ l.find? p = none) ∨ ∃ (i : Nat) (v : Int), l[i]? = some v ∧ firstS p l k = k + i ∧ l.find? p = some v
  | [], k => .inl ⟨rfl, rfl⟩
  | y :: r, k => by
    cases hy : p y with
    | true => exact .inr ⟨0, y, rfl, by simp [firstS, hy], by simp [hy]⟩
    | false =>
      rcases firstS_find p r (k + 1) with ⟨e, h⟩ | ⟨i, v, hi, e, h⟩
      · exact .inl ⟨by simp [firstS, hy, e], by simp [hy, h]⟩
      · exact .inr ⟨i + 1, v, by simpa using hi, by simp [firstS, hy, e]; omega, by simp [hy, h]⟩

/-- What hands back first preferences. -/
def FPost (w : World) (φ : Int → Bool) (l : List Row) (C : Nat) (e : Ending) (w' : World) : Prop :=
  ∃ v, e = .returned (.tuple #[v, .int .i64 (lostS φ l)]) ∧ Own w' w.heap.size v (hadL φ l C) ∧ Below w.heap.size w w'

set_option maxRecDepth 100000 in
set_option maxHeartbeats 1000000 in
theorem firsts_at (F : FuncId) (eg : ∀ args w, (callFunc F args).run Tryz.prog w = .ok (.enter F args) w) (φ : Int → Bool) (lb : Array Value) (C : Nat) (A : Option Addr) (n cp : Nat) (l : List Row) (w : World) (h : RRows w A n cp l) (hr : RankOK l C)
    (hp : ∀ W, Below w.heap.size w W → ∀ x : Int, 0 ≤ x → x < (C : Int) → Calls Tryz.prog F (#[.int .i64 x] ++ lb) W fun e w' => e = .returned (.bool (φ x)) ∧ Below W.heap.size W w') :
    Calls Tryz.prog 47 #[.agg #[.int .i64 C, .int .u8 1, .slice A n cp], .func (.func F) #[] lb] w (FPost w φ l C) := by
  have hl := hide h.len
  have hle := h.le
  have Hr := hide hr
  have Hp := hide hp
  have hC10 := hr.c10
  clear hr hp
  have hb0 : Below w.heap.size w (w.alloc (.cells #[.int .i64 C, .int .u8 1, .slice A n cp] 24)) := (Below.refl _ _).alloc (Nat.le_refl _) _
  have hH0 := Has.new w 24 #[.int .i64 C, .int .u8 1, .slice A n cp]
  have hmk := run_make_row' (P := Tryz.prog) 25 3 (.int .i64 0) 8 Tryz.underlying25 info3 rfl .i64 .i64 C (by omega) (by omega)
  generalize hW : World.alloc w _ = W0 at hb0 hH0
  have hM := Own.made W0 w.heap.size C hb0.size (by omega)
  have hbM : Below W0.heap.size W0 (W0.alloc (.cells (madeCells #[.int .i64 0] C) 3)) := (Below.refl _ _).alloc (Nat.le_refl _) _
  have hH1 := hH0.below hbM hH0.lt
  have hb1 := Below_trans' hb0 hb0.size hbM
  have s0 := hH0.cell 0
  have s2 := hH1.cell 2
  have hg1 : w.heap.size < W0.heap.size := hH0.lt
  go_enter Tryz.func47, Tryz.ntmps47
  go_wp2
  try simp only [hW]
  clear hW s0 s2
  generalize hW1 : World.alloc W0 _ = W1 at hM hbM hH1 hb1 ⊢
  clear hW1
  generalize W0.heap.size = g at hM hbM hg1 ⊢
  go_loopw [5, 15] (fun lost i wr => ∃ t : Nat, t ≤ n ∧ i = .int .i64 t ∧ lost = .int .i64 (lostS φ (l.take t)) ∧ Own wr w.heap.size (.slice (some ⟨g, 0, none⟩) C C) (hadL φ (l.take t) C) ∧ Below w.heap.size w wr) (fun lost i _ => n - (intOf i).toNat)
  case atStart => exact ⟨0, Nat.zero_le _, rfl, rfl, by rw [List.take_zero, hadL_zero]; exact hM, hb1⟩
  case round =>
    obtain ⟨t, ht, rfl, rfl, hO, hb⟩ := hrel
    have hz := hb.size
    by_cases hlt : t < n
    · obtain ⟨b, off, Am, nm, cm, ms, y, rfl, hc0, hRm, hc1, _, hat, hy0, hy1⟩ := (h.below hb).step hlt
      have hroom := hide (Hr.out.room hat.out φ)
      have hmr := hide (Hr.out.marks _ (List.mem_of_getElem? hat.out))
      have hlen : (hadL φ (l.take t) C).length = C := length_hadL _ _ _
      have hba : Below wr.heap.size wr (wr.alloc (.cells #[.slice Am nm cm, .int .i64 y] 45)) := (Below.refl _ _).alloc (Nat.le_refl _) _
      have hHr := Has.new wr 45 #[.slice Am nm cm, .int .i64 y]
      have hgne : Hid (∀ k, w.heap.size ≤ k → k < wr.heap.size → k ≠ wr.heap.size) := fun k _ h => by omega
      have hgw : g < wr.heap.size := (Own.own_lt hO rfl).2
      generalize hV : World.alloc wr _ = V at hba hHr
      have hIdx := indexFunc_at F eg φ lb Am nm cm ms V (hRm.below hba) (fun W hb' x hx => Hp.out W (Below_trans' hb hz (Below_trans' hba hba.size hb')) x (hmr.out x hx).1 (hmr.out x hx).2)
      have s0 := hHr.cell 0
      have Hat := hide hat
      clear hat
      rcases firstS_find φ ms 0 with ⟨e1, hf⟩ | ⟨i, v, hiv, e1, hf⟩
      · rw [e1] at hIdx
        have hlm := hide (lostS_miss Hat.out.out hf)
        have hhm := hide (hadL_miss (n := C) Hat.out.out hf)
        have hro := hroom.out 0
        clear hf e1 hroom
        go_wp2_with fail
        try rw [hV]
        clear hV s0
        refine hIdx.mono ?_
        rintro e w1 ⟨rfl, hb1⟩
        have hb01 := Below_trans' hba hba.size hb1
        have s1 := (hHr.below hb1 hHr.lt).cell 1
        clear hIdx
        go_wp2
        go_roundw
        case rel => exact ⟨t + 1, by omega, by go_num, by rw [hlm.out], by rw [hhm.out]; exact hO.below hb01, Below_trans' hb hz hb01⟩
        case measure => simp [intOf] <;> omega
      · rw [e1, show (0 : Int) + i = i by omega] at hIdx
        obtain ⟨hv0, hv1⟩ := hmr.out v (List.mem_of_getElem? hiv)
        obtain ⟨X, rfl⟩ : ∃ X : Nat, v = (X : Int) := ⟨v.toNat, by omega⟩
        have hlm := hide (lostS_hit Hat.out.out hf)
        have hhm := hide (hadL_hit (n := C) Hat.out.out hf)
        have hro := hroom.out (X : Int)
        have hXg := hide (get_hadL φ (l.take t) (show X < C by omega))
        have hil : i < ms.length := (List.getElem?_eq_some_iff.1 hiv).1
        have Hiv := hide hiv
        clear hf e1 hroom hiv
        go_wp2_with fail
        try rw [hV]
        clear hV s0
        refine hIdx.mono ?_
        rintro e w1 ⟨rfl, hb1⟩
        have hb01 := Below_trans' hba hba.size hb1
        have hHr1 := hHr.below hb1 hHr.lt
        have s0 := hHr1.cell 0
        have s1 := hHr1.cell 1
        have hRm1 := hRm.below hb01
        have hin : i < nm := by have := hRm1.len; omega
        obtain ⟨b3, off3, v3, rfl, hc3, _, hat3, _⟩ := hRm1.step hin
        obtain rfl : (X : Int) = v3 := by have := hat3.out; rw [Hiv.out] at this; exact Option.some.inj this
        have hO1 := hO.below hb01
        obtain ⟨u, hu, hcu, hfu⟩ := hO1.at hlen (show X < C by omega)
        obtain rfl : hadS φ (l.take t) (X : Int) = u := by have := hu.out; rw [hXg.out] at this; exact Option.some.inj this
        clear hat3 hu hIdx
        go_upto_region 7 with fail
        refine wp_region_more_tail 12 (by kernel_rfl) (by kernel_rfl) ?_
        simp only [List.take]
        repeat (go_big_quiet_step (fail))
        refine wpQuiet_nil ?_
        rintro w2 ⟨qq, hw2⟩
        have hb2 := below_of_eq hw2
        clear hw2 qq
        have hO2 := hO1.below hb2
        obtain ⟨u2, hu2, hcu2, hfu2⟩ := hO2.at hlen (show X < C by omega)
        have hbf := Below_trans' hb hz (Below_trans' hb01 hb01.size hb2)
        clear hcu hfu s0 s1 hc3 hu2 hlen
        go_wp2
        go_roundw
        case rel => exact ⟨t + 1, by omega, by go_num, by rw [hlm.out], by rw [hhm.out]; exact hO2.set (length_hadL _ _ _) X _, hbf.setCell (p := ⟨g, X, none⟩) (Nat.le_of_lt hg1) _⟩
        case measure => simp [intOf] <;> omega
    · have e : Hid (l.take t = l) := List.take_of_length_le (by rw [hl.out]; omega)
      rw [e.out] at hO ⊢
      go_wp2
      go_ret2
      exact ⟨_, rfl, hO, hb⟩

/-- Ranks that a candidate is in. -/
theorem find_from {p : Int → Bool} {ms : List Int} {k : Nat} {v : Int} (hn : ∀ x ∈ ms.take k, p x = false) (hv : ms[k]? = some v) (h : p v = true) : ms.find? p = some v := by
  have e : ms = ms.take k ++ v :: ms.drop (k + 1) := by
    have hk := (List.getElem?_eq_some_iff.1 hv)
    obtain ⟨hk, e⟩ := hk
    conv => lhs; rw [← List.take_append_drop k ms]
    rw [List.drop_eq_getElem_cons hk, e]
  rw [e, List.find?_append, List.find?_eq_none.2 (fun x hx => by rw [hn x hx]; simp)]
  simp [h]
theorem find_not {p : Int → Bool} {ms : List Int} (hn : ∀ x ∈ ms, p x = false) : ms.find? p = none := List.find?_eq_none.2 fun x hx => by rw [hn x hx]; simp

end Go.Proofs.YthkkadmgcicedaaGreat

namespace Go.Proofs.YthkkadmgcicedaaGreat
open Go.RowKit Go.Proofs Go.Shelf
attribute [local go_sem] cell?_more cell?_alloc_some cell?_setCell_far frozen?_alloc_some frozen?_more
theorem RBools.at {w : World} {A : Option Addr} {n c k : Nat} {bs : List Bool} (h : RBools w A n c bs) (hk : k < n) : ∃ b off, A = some ⟨b, off, none⟩ ∧ w.cell? ⟨b, off + k, none⟩ = some (.bool (bs.getD k false)) := by
  obtain ⟨b, off, e, hc⟩ := h.2.2.2 (by omega)
  exact ⟨b, off, e, hc k hk⟩
def firstsE (c k : Int) (l : List Row) : Int := if checkS c k l ≠ 0 ∨ k ≠ 1 then 8 else 0
def firstsL (c k : Int) (l : List Row) (bs : List Bool) : List Int := if firstsE c k l = 0 then hadL (isS bs) l c.toNat else []
def firstsN (c k : Int) (l : List Row) (bs : List Bool) : Int := if firstsE c k l = 0 then lostS (isS bs) l else 0
theorem firstsE_bad {c k : Int} {l : List Row} (h : checkS c k l ≠ 0 ∨ k ≠ 1) : firstsE c k l = 8 := by unfold firstsE; rw [if_pos h]
theorem firstsE_ok {c k : Int} {l : List Row} (h : checkS c k l = 0) (hk : k = 1) : firstsE c k l = 0 := by unfold firstsE; rw [if_neg (fun h' => h'.elim (fun h'' => h'' h) (fun h'' => h'' hk))]
/-- What Firsts hands back. -/
def FsPost (w : World) (c k : Int) (l : List Row) (bs : List Bool) (e : Ending) (w' : World) : Prop :=
  ∃ v, e = .returned (.tuple #[v, .int .i64 (firstsN c k l bs), .int .i64 (firstsE c k l)]) ∧ Own w' w.heap.size v (firstsL c k l bs) ∧ Below w.heap.size w w'

theorem ret_vii {v : Value} {a b a' b' : Int} (h1 : a = a') (h2 : b = b') : Ending.returned (.tuple #[v, .int .i64 a, .int .i64 b]) = .returned (.tuple #[v, .int .i64 a', .int .i64 b']) := by rw [h1, h2]
theorem left1_any (x : Int) (bl : Nat) (A : Option Addr) (n c : Nat) (bs : List Bool) (w : World) (hx : 0 ≤ x) (hc : w.cell? ⟨bl, 0, none⟩ = some (.slice A n c)) (h : RBools w A n c bs) :
    Calls Tryz.prog 48 #[.int .i64 x, .pointer (some ⟨bl, 0, none⟩)] w fun e w' => e = .returned (.bool (isS bs x)) ∧ w = w' := by
  obtain ⟨X, rfl⟩ : ∃ X : Nat, x = X := ⟨x.toNat, by omega⟩
  have hr := hide (isS_getD bs X)
  by_cases hlt : X < n
  · obtain ⟨b, off, rfl, hcx⟩ := h.at hlt
    go_enter Tryz.func48, Tryz.ntmps48
    go_wp2
    go_ret
    exact ⟨ret_b hr.out.symm, rfl⟩
  · have hr2 : Hid (isS bs (X : Int) = false) := by unfold Hid; rw [hr.out, List.getD, List.getElem?_eq_none (by rw [h.1]; omega)]; rfl
    go_enter Tryz.func48, Tryz.ntmps48
    go_wp2
    go_ret
    exact ⟨ret_b hr2.out.symm, rfl⟩

set_option maxRecDepth 100000 in
theorem pfirsts_any (c k : Int) (A : Option Addr) (n cp : Nat) (l : List Row) (A' : Option Addr) (n' c' : Nat) (bs : List Bool) (w : World) (h : RRows w A n cp l) (h' : RBools w A' n' c' bs) :
    Calls Tryz.prog 27 #[.agg #[.int .i64 c, .int .u8 k, .slice A n cp], .slice A' n' c'] w (FsPost w c k l bs) := by
  have hb0 : Below w.heap.size w (w.alloc (.cells #[.int .i64 c, .int .u8 k, .slice A n cp] 24)) := (Below.refl _ _).alloc (Nat.le_refl _) _
  have hH0 := Has.new w 24 #[.int .i64 c, .int .u8 k, .slice A n cp]
  generalize hV : World.alloc w _ = V at hb0 hH0
  have hbv : Below V.heap.size V (V.alloc (.cells #[.slice A' n' c'] 35)) := (Below.refl _ _).alloc (Nat.le_refl _) _
  have hL0 := Has.new V 35 #[.slice A' n' c']
  have hP0 := hH0.below hbv hH0.lt
  have hb00 := Below_trans' hb0 hb0.size hbv
  generalize hW : World.alloc V _ = W0 at hbv hL0 hP0 hb00
  have s0 := hP0.cell 0
  have s1 := hP0.cell 1
  have s2 := hP0.cell 2
  have eg2 : ∀ args w, (callFunc 48 args).run Tryz.prog w = .ok (.enter 48 args) w := enters_of Tryz.func48 (by kernel_rfl) rfl
  go_enter Tryz.func27, Tryz.ntmps27
  go_wp2_with fail
  try simp only [hV, hW]
  clear hV hW
  refine (pcheck_any c k A n cp l W0 (h.below hb00)).mono ?_
  rintro e w1 ⟨rfl, hb1⟩
  have hb01 := Below_trans' hb00 hb00.size hb1
  have hP1 := hP0.below hb1 hP0.lt
  have hL1 := hL0.below hb1 hL0.lt
  have r0 := hP1.cell 0
  have r1 := hP1.cell 1
  have r2 := hP1.cell 2
  clear s0 s1 s2 hH0 hP0
  by_cases hE : checkS c k l = 0
  · have e1 : (checkS c k l != 0) = false := by simp [hE]
    by_cases hk : k = 1
    · subst hk
      have hcs := check_ok hE
      obtain ⟨C, rfl⟩ : ∃ C : Nat, c = (C : Int) := ⟨c.toNat, by omega⟩
      have hF0 := hide (firstsE_ok hE rfl)
      have hfi := firsts_at 48 eg2 (isS bs) #[.pointer (some ⟨V.heap.size, 0, none⟩)] C A n cp l w1 (h.below hb01) (rank_ok hE) (fun W hb x hx _ => by
        refine (left1_any x V.heap.size A' n' c' bs W hx ((hL1.below hb hL1.lt).cell 0) (h'.below (Below_trans' hb01 hb01.size hb))).mono ?_
        rintro e w' ⟨rfl, rfl⟩
        exact ⟨rfl, Below.refl _ _⟩)
      clear hcs hE
      go_wp2_with fail
      refine hfi.mono ?_
      rintro e w2 ⟨v, rfl, hO, hb2⟩
      have hOv : Own w2 w.heap.size v (firstsL C 1 l bs) := by
        have := hO.mono hb01.size
        unfold firstsL; rw [if_pos hF0.out]; simpa using this
      have hN : Hid (firstsN C 1 l bs = lostS (isS bs) l) := by unfold Hid firstsN; rw [if_pos hF0.out]
      obtain ⟨Av, cv, rfl⟩ := hO.slice
      generalize (hadL (isS bs) l C).length = nv at hOv ⊢
      clear hO
      go_wp2
      go_ret3
      exact ⟨_, ret_vii hN.out.symm hF0.out.symm, hOv, Below_trans' hb01 hb01.size hb2⟩
    · have e2 : (k != 1) = true := by simp [hk]
      have hF0 := hide (firstsE_bad (c := c) (l := l) (.inr hk))
      clear hE hk
      have hOv : Own w1 w.heap.size (.slice none 0 0) (firstsL c k l bs) := by unfold firstsL; rw [hF0.out, if_neg (by omega)]; exact Own.nil_ _ _
      have hN : Hid (firstsN c k l bs = 0) := by unfold Hid firstsN; rw [hF0.out, if_neg (by omega)]
      go_wp2
      go_ret3
      exact ⟨_, ret_vii hN.out.symm hF0.out.symm, hOv, hb01⟩
  · have e1 : (checkS c k l != 0) = true := by simp [hE]
    have hF0 := hide (firstsE_bad (k := k) (.inl hE))
    clear hE
    have hOv : Own w1 w.heap.size (.slice none 0 0) (firstsL c k l bs) := by unfold firstsL; rw [hF0.out, if_neg (by omega)]; exact Own.nil_ _ _
    have hN : Hid (firstsN c k l bs = 0) := by unfold Hid firstsN; rw [hF0.out, if_neg (by omega)]
    go_wp2
    go_ret3
    exact ⟨_, ret_vii hN.out.symm hF0.out.symm, hOv, hb01⟩

/-- The candidates that are left. -/
def leftT (bs : List Bool) (k : Nat) : List Int := (rangeI k).filter (isS bs)
theorem leftT_succ (bs : List Bool) (k : Nat) : leftT bs (k + 1) = leftT bs k ++ if bs.getD k false = true then [(k : Int)] else [] := by
  unfold leftT
  rw [rangeI_succ, List.filter_append]
  congr 1
  simp only [List.filter_cons, List.filter_nil, isS_getD]
theorem length_leftT (bs : List Bool) (k : Nat) : (leftT bs k).length ≤ k := Nat.le_trans (List.length_filter_le _ _) (by rw [length_rangeI]; exact Nat.le_refl _)
theorem leftT_in (bs : List Bool) : inL (leftT bs bs.length) = isS bs := by
  funext x
  rw [Bool.eq_iff_iff, inL_iff]
  unfold leftT
  rw [List.mem_filter, mem_rangeI]
  refine ⟨fun h => h.2, fun h => ⟨?_, h⟩⟩
  unfold isS at h
  rw [Bool.and_eq_true] at h
  exact inR_iff.1 h.1

end Go.Proofs.YthkkadmgcicedaaGreat
