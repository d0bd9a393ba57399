/-
  The program's Minus.
-/
import Derived.Test.YtleniljhacnikaaW9r
import Derived.Test.YtleniljhacnikaaSpecT
namespace Go.Proofs.Ytleniljhacnikaa
open Go.RowKit Go.Proofs
attribute [local go_sem] cell?_more cell?_alloc_some cell?_setCell_far frozen?_alloc_some frozen?_more
set_option maxRecDepth 100000 in
set_option maxHeartbeats 1000000 in
theorem all_minus (A : Option Addr) (n c : Nat) (l : List Row) (cb : Array Value) (p : Nat → Bool) (Inv : Nat → World → Prop) (Fin : World → Prop) (w w0 : World)
    (hr : RRows w0 A n c l) (h0 : Inv 0 w) (hrows : ∀ i W, Inv i W → Below w0.heap.size w0 W) (hkeep : ∀ i W W', Inv i W → Below W.heap.size W W' → Inv i W')
    (hone : ∀ i W Am nm cm Al nl cl ms ml y yl, i < n → Inv i W → l[i - 1]? = some (ml, yl) → l[i]? = some (ms, y) → (-9223372036854775808 ≤ y ∧ y ≤ 9223372036854775807) → RInts w0 Al nl cl ml → RInts w0 Am nm cm ms →
      Calls Try.prog 95 (#[.agg #[.slice Al nl cl, .int .i64 yl], .agg #[.slice Am nm cm, .int .i64 y]] ++ cb) W (OnePost i p Inv Fin)) :
    Calls Try.prog 76 #[.slice A n c, .func (.func 95) #[] cb] w (AllPost n p Inv Fin) := by
  have hn := hr.le
  have H0 := hide h0
  have HR := hide hrows
  have HK := hide hkeep
  have HO := hide hone
  clear h0 hrows hkeep hone
  go_enter Try.func76, Try.ntmps76
  go_wp2
  go_loopw [9] (fun i wr => ∃ k : Nat, k ≤ n ∧ i = .int .i64 k ∧ Hid (∀ j, j < k → p j = true) ∧ Hid (Inv k wr)) (fun i _ => n - (intOf i).toNat)
  case atStart => exact ⟨0, Nat.zero_le _, rfl, fun j hj => absurd hj (by omega), H0.out⟩
  case round =>
    obtain ⟨k, hk, rfl, hp, hI⟩ := hrel
    by_cases hlt : k < n
    · have hB := HR.out k wr hI.out
      obtain ⟨b, off, Am, nm, cm, ms, y, e0, hc0, hm0, hc1, hd, hat, hy⟩ := hr.step hlt
      obtain ⟨b', off', Al, nl, cl, ml, yl, e1, hc0', hm0', hc1', hd', hat', hy'⟩ := hr.step (k := k - 1) (by omega)
      subst e0
      cases e1
      have hc0 := keep_cell hB hc0
      have hc1 := keep_cell hB hc1
      have hc0' := keep_cell hB hc0'
      have hc1' := keep_cell hB hc1'
      have b1 : (0 : Int) ≤ (k : Int) := by omega
      have b2 : (k : Int) < (n : Int) := by omega
      by_cases hk0 : k = 0
      · have b5 : ((k : Int) - 1 < 0) = True := eq_true (by omega)
        have e1 : IntKind.i64.wrap ((k : Int) - 1) = (k : Int) - 1 := IntWalk.i64_in _ (by omega)
        have hn0 : 0 < n := by omega
        have Hk0 := hide hk0
        clear hk0
        go_wp2
        obtain ⟨W, hW⟩ : ∃ W, W = wr.alloc (.cells #[.slice Am nm cm, .int .i64 y] 48) := ⟨_, rfl⟩
        rw [← hW]
        have hbW : Below wr.heap.size wr W := by rw [hW]; exact (Below.refl _ _).alloc (Nat.le_refl _) _
        have hwW : Has W wr.heap.size 48 #[.slice Am nm cm, .int .i64 y] := by rw [hW]; exact Has.new _ _ _
        clear hW
        have k0 := keep_cell hbW hc0
        have k1 := keep_cell hbW hc1
        have k2 := keep_cell hbW hc0'
        have k3 := keep_cell hbW hc1'
        have k4 : W.cell? ⟨wr.heap.size, 0, none⟩ = some (.slice Am nm cm) := hwW.cell 0
        have k5 : W.cell? ⟨wr.heap.size, 1, none⟩ = some (.int .i64 y) := hwW.cell 1
        rw [show k - 1 = 0 by have := Hk0.out; omega] at k2 k3; simp only [Nat.zero_mul, Nat.add_zero] at k2 k3
        refine wp_region_still_tail 8 (by kernel_rfl) (by kernel_rfl) ?_
        simp only [List.take_succ_cons, List.take_zero, List.drop_succ_cons, List.drop_zero]
        change wpStill _ _ W.drew _ _ _
        still_step
        still_step
        still_step
        still_step
        still_step
        still_step
        still_step
        still_step
        refine wpStill_nil ?_
        have hIW := hide (HK.out k wr W.drew hI.out hbW.drew)
        have hbD : Below wr.heap.size wr W.drew := hbW.drew
        have hcon := hide (HO.out k W.drew Am nm cm Al nl cl ms ml y yl hlt hIW.out hat'.out hat.out hy hm0' hm0)
        by_cases hpk : p k = true
        · have Hpk := hide hpk
          clear hpk
          go_wp2_with fail
          refine (hcon.out).mono ?_
          rintro e w2 ⟨he, h1, h2⟩
          rw [Hpk.out] at he
          subst he
          have H1 := hide (h1 Hpk.out)
          clear h1 h2
          go_wp2
          go_roundw
          case rel => exact ⟨k + 1, by omega, by go_num, fun j hj => by
            by_cases ej : j = k
            · rw [ej]; exact Hpk.out
            · exact hp.out j (by omega), H1.out⟩
          case measure => simp [intOf] <;> omega
        · have Hpk := hide (Bool.eq_false_iff.2 hpk)
          clear hpk
          go_wp2_with fail
          refine (hcon.out).mono ?_
          rintro e w2 ⟨he, h1, h2⟩
          rw [Hpk.out] at he
          subst he
          have H2 := hide (h2 Hpk.out)
          clear h1 h2
          go_wp2
          go_ret
          exact ⟨ret_b (allN_false hlt Hpk.out).symm, (fun h => by rw [allN_false hlt Hpk.out] at h; cases h), fun _ => H2.out⟩
      · have b5 : ((k : Int) - 1 < 0) = False := eq_false (by omega)
        have b3 : (1 : Int) ≤ (k : Int) := by omega
        have b4 : (k : Int) - 1 < (n : Int) := by omega
        have e1 : IntKind.i64.wrap ((k : Int) - 1) = (k : Int) - 1 := IntWalk.i64_in _ (by omega)
        have e2 : ((k : Int) - 1).toNat = k - 1 := by omega
        go_wp2
        obtain ⟨W, hW⟩ : ∃ W, W = wr.alloc (.cells #[.slice Am nm cm, .int .i64 y] 48) := ⟨_, rfl⟩
        rw [← hW]
        have hbW : Below wr.heap.size wr W := by rw [hW]; exact (Below.refl _ _).alloc (Nat.le_refl _) _
        have hwW : Has W wr.heap.size 48 #[.slice Am nm cm, .int .i64 y] := by rw [hW]; exact Has.new _ _ _
        clear hW
        have k0 := keep_cell hbW hc0
        have k1 := keep_cell hbW hc1
        have k2 := keep_cell hbW hc0'
        have k3 := keep_cell hbW hc1'
        have k4 : W.cell? ⟨wr.heap.size, 0, none⟩ = some (.slice Am nm cm) := hwW.cell 0
        have k5 : W.cell? ⟨wr.heap.size, 1, none⟩ = some (.int .i64 y) := hwW.cell 1
        skip
        refine wp_region_still_tail 8 (by kernel_rfl) (by kernel_rfl) ?_
        simp only [List.take_succ_cons, List.take_zero, List.drop_succ_cons, List.drop_zero]
        change wpStill _ _ W.drew _ _ _
        still_step
        still_step
        still_step
        still_step
        still_step
        still_step
        still_step
        still_step
        refine wpStill_nil ?_
        have hIW := hide (HK.out k wr W.drew hI.out hbW.drew)
        have hbD : Below wr.heap.size wr W.drew := hbW.drew
        have hcon := hide (HO.out k W.drew Am nm cm Al nl cl ms ml y yl hlt hIW.out hat'.out hat.out hy hm0' hm0)
        by_cases hpk : p k = true
        · have Hpk := hide hpk
          clear hpk
          go_wp2_with fail
          refine (hcon.out).mono ?_
          rintro e w2 ⟨he, h1, h2⟩
          rw [Hpk.out] at he
          subst he
          have H1 := hide (h1 Hpk.out)
          clear h1 h2
          go_wp2
          go_roundw
          case rel => exact ⟨k + 1, by omega, by go_num, fun j hj => by
            by_cases ej : j = k
            · rw [ej]; exact Hpk.out
            · exact hp.out j (by omega), H1.out⟩
          case measure => simp [intOf] <;> omega
        · have Hpk := hide (Bool.eq_false_iff.2 hpk)
          clear hpk
          go_wp2_with fail
          refine (hcon.out).mono ?_
          rintro e w2 ⟨he, h1, h2⟩
          rw [Hpk.out] at he
          subst he
          have H2 := hide (h2 Hpk.out)
          clear h1 h2
          go_wp2
          go_ret
          exact ⟨ret_b (allN_false hlt Hpk.out).symm, (fun h => by rw [allN_false hlt Hpk.out] at h; cases h), fun _ => H2.out⟩
    · obtain rfl : k = n := by omega
      have hat : allN k p = true := allN_true.2 hp.out
      have Hat := hide hat
      clear hat
      go_wp2
      go_ret
      exact ⟨ret_b Hat.out.symm, fun _ => hI.out, fun h => by rw [Hat.out] at h; cases h⟩

/-- What holds after i rows have been taken away; what holds where one could not be. -/
def MInv (w W : World) (g : Nat) (c k : Int) (l l' : List Row) (i : Nat) (w' : World) : Prop :=
  ∃ v, Has w' g 24 #[.int .i64 c, .int .u8 k, v] ∧ ORows w' (g + 3) v (minS l l' i) ∧ Has w' (g + 2) 24 #[.int .i64 0, .int .u8 0, .slice none 0 0] ∧ Below w.heap.size w w' ∧ g + 3 ≤ w'.heap.size ∧ W.heap.size ≤ w'.heap.size
def MFin (w : World) (g : Nat) (w' : World) : Prop := Has w' (g + 2) 24 #[.int .i64 0, .int .u8 0, .slice none 0 0] ∧ Below w.heap.size w w'
theorem MInv.keep {w W : World} {g : Nat} {c k : Int} {l l' : List Row} {i : Nat} {w' w'' : World} (h : MInv w W g c k l l' i w') (hb : Below w'.heap.size w' w'') : MInv w W g c k l l' i w'' := by
  obtain ⟨v, h1, h2, h3, h4, h5, h6⟩ := h
  exact ⟨v, h1.below hb h1.lt, h2.below hb, h3.below hb h3.lt, Below_trans' h4 h4.size hb, Nat.le_trans h5 hb.size, Nat.le_trans h6 hb.size⟩

set_option maxRecDepth 100000 in
set_option maxHeartbeats 1000000 in
theorem minus1_any (w0 W0 : World) (c k : Int) (l l' : List Row) (i : Nat) (w : World) (Am : Option Addr) (nm cm : Nat) (Al : Option Addr) (nl cl : Nat) (ms : List Int) (y yl : Int)
    (hI : MInv w0 W0 w0.heap.size c k l l' i w) (hat : l'[i]? = some (ms, y)) (hr : RInts w Am nm cm ms) (hy : 1 ≤ y ∧ y ≤ 1000000) (ha : Asc l) (hp : Pos l) (hp' : Pos l') (hll : l.length ≤ 1000) (ht : totS l ≤ 1000000) :
    Calls Try.prog 95 (#[.agg #[.slice Al nl cl, .int .i64 yl], .agg #[.slice Am nm cm, .int .i64 y]] ++ #[.pointer (some ⟨w0.heap.size, 0, none⟩)]) w (OnePost i (mayMin l l') (MInv w0 W0 w0.heap.size c k l l') (MFin w0 w0.heap.size)) := by
  obtain ⟨v, hP, hO, hR, hb, hz, hz'⟩ := hI
  have hinv := hide (minS_inv ha hp hp' i)
  have hnext := hide (minS_succ (l := l) hat)
  have hmay := hide (mayMin_at (l := l) hat)
  have Hp := hide hp
  clear ha hp hp'
  have hb0 : Below w.heap.size w ((w.alloc (.cells #[.slice Al nl cl, .int .i64 yl] 48)).alloc (.cells #[.slice Am nm cm, .int .i64 y] 48)) := ((Below.refl _ _).alloc (Nat.le_refl _) _).alloc (by simp) _
  go_enter Try.func95, Try.ntmps95
  go_wp2_with fail
  have hP0 := hP.below hb0 hP.lt
  have hO0 := hO.below hb0
  have hR0 := hR.below hb0 hR.lt
  have hr0 := hr.below hb0
  have hb1 := Below_trans' hb hb.size hb0
  have hz1 := Nat.le_trans hz hb0.size
  have hz2 := Nat.le_trans hz' hb0.size
  refine (drop_any c k v (minS l l' i) w0.heap.size (w0.heap.size + 3) Am nm cm ms y _ hP0 hO0 (by omega) hz1 hinv.out.1 (by have := hinv.out.2.2.1; omega) hr0 ⟨hy.1, by omega⟩ (fun z hz => by
    have h1 := hinv.out.2.1 _ (List.mem_of_getElem? hz)
    have h2 := le_tot hinv.out.2.1 (List.mem_of_getElem? hz)
    have h3 := hinv.out.2.2.2
    simp only at h1 h2
    exact ⟨by omega, by omega⟩)).mono ?_
  rintro e w4 ⟨rfl, v4, hP4, hO4, hF⟩
  have hol := fun k hk => hO0.own_lt (k := k) hk
  have hR4 := hF.has hR0 (by
    rintro (e | e)
    · omega
    · have := (hol _ e.symm).1; omega)
  have hb4 : Below w0.heap.size w0 w4 := Frame'.below hb1 hF (by
    rintro b (e | e)
    · omega
    · have := (hol _ e.symm).1; omega) hb1.size
  have hz4 := Nat.le_trans hz1 hF.size
  have hz5 := Nat.le_trans hz2 hF.size
  rw [← hmay.out]
  clear hP hO hR hb hP0 hO0 hR0 hr0 hb1 hb0 hol hF
  go_wp2
  go_ret
  refine ⟨rfl, fun _ => ⟨v4, hP4, ?_, hR4, hb4, hz4, hz5⟩, fun _ => ⟨hR4, hb4⟩⟩
  rw [hnext.out]; exact hO4

/-- The difference of two profiles. -/
def minusP (c k : Int) (l : List Row) (c' k' : Int) (l' : List Row) : PR :=
  if bothS c k l c' k' l' = 0 then (if allN l'.length (mayMin l l') = true then ⟨0, c, k, minS l l' l'.length⟩ else badP 6) else badP (bothS c k l c' k' l')

set_option maxRecDepth 100000 in
set_option maxHeartbeats 2000000 in
theorem pminus_any (c k : Int) (A : Option Addr) (n cp : Nat) (l : List Row) (c' k' : Int) (A' : Option Addr) (n' cp' : Nat) (l' : List Row) (w : World) (h : RRows w A n cp l) (h' : RRows w A' n' cp' l') :
    Calls Try.prog 56 #[.agg #[.int .i64 c, .int .u8 k, .slice A n cp], .agg #[.int .i64 c', .int .u8 k', .slice A' n' cp']] w (PPostO w (minusP c k l c' k' l')) := by
  have hl := h.len
  have hl' := hide h'.len
  have hS0 := (((Hs.nil w).alloc 24 #[.int .i64 c, .int .u8 k, .slice A n cp]).alloc 24 #[.int .i64 c', .int .u8 k', .slice A' n' cp']).alloc 24 #[.int .i64 0, .int .u8 0, .slice none 0 0]
  have hb0 : Below w.heap.size w (((w.alloc (.cells #[.int .i64 c, .int .u8 k, .slice A n cp] 24)).alloc (.cells #[.int .i64 c', .int .u8 k', .slice A' n' cp'] 24)).alloc (.cells #[.int .i64 0, .int .u8 0, .slice none 0 0] 24)) := (((Below.refl _ _).alloc (Nat.le_refl _) _).alloc (by simp) _).alloc (by simp; omega) _
  have hz0 : (((w.alloc (.cells #[.int .i64 c, .int .u8 k, .slice A n cp] 24)).alloc (.cells #[.int .i64 c', .int .u8 k', .slice A' n' cp'] 24)).alloc (.cells #[.int .i64 0, .int .u8 0, .slice none 0 0] 24)).heap.size = w.heap.size + 3 := by simp
  simp only [World.size_alloc] at hS0
  go_enter Try.func56, Try.ntmps56
  go_wp2_with fail
  generalize hW : World.alloc (World.alloc (World.alloc _ _) _) _ = W0 at hS0 hb0 hz0
  try rw [hW]
  clear hW
  refine (both_any c k A n cp l c' k' A' n' cp' l' _ (h.below hb0) (h'.below hb0)).mono ?_
  rintro e w1 ⟨rfl, hbw⟩
  obtain ⟨hR, hQ, hP, -⟩ := hS0.below hbw
  have hb1 := Below_trans' hb0 hb0.size hbw
  have hz1 : w.heap.size + 3 ≤ w1.heap.size := by have := hbw.size; omega
  clear hS0 hb0 hbw hz0
  by_cases herr : bothS c k l c' k' l' = 0
  · obtain ⟨hc1, hc2, hkk, hcc⟩ := both_ok herr
    have hr : Hid (minusP c k l c' k' l' = if allN l'.length (mayMin l l') = true then ⟨0, c, k, minS l l' l'.length⟩ else badP 6) := by unfold Hid minusP; rw [if_pos herr]
    rw [herr]
    have H1 := hide hc1
    have H2 := hide hc2
    have h64 := (check_iff.1 hc1).1
    clear herr hkk hcc hc1 hc2
    have p0 : w1.cell? ⟨w.heap.size, 0, none⟩ = some (.int .i64 c) := hP.cell 0
    have p1 : w1.cell? ⟨w.heap.size, 1, none⟩ = some (.int .u8 k) := hP.cell 1
    have p2 : w1.cell? ⟨w.heap.size, 2, none⟩ = some (.slice A n cp) := hP.cell 2
    go_wp2_with fail
    refine (twin_any c k A n cp l w1 (h.below hb1) (by omega) (fun r hr => by have := (row_small H1.out hr).1; omega)).mono ?_
    rintro e w2 ⟨v, rfl, hO, hbw⟩
    replace hO := hO.mono hz1
    have hR2 := hR.below hbw hR.lt
    have hQ2 := hQ.below hbw hQ.lt
    have hP2 := hP.below hbw hP.lt
    have hb2 := Below_trans' hb1 hb1.size hbw
    have hz2 : w.heap.size + 3 ≤ w2.heap.size := Nat.le_trans hz1 hbw.size
    clear hR hQ hP hb1 hbw p0 p1 p2 hz1
    have p0 : w2.cell? ⟨w.heap.size, 0, none⟩ = some (.int .i64 c) := hP2.cell 0
    have p1 : w2.cell? ⟨w.heap.size, 1, none⟩ = some (.int .u8 k) := hP2.cell 1
    have p2 : w2.cell? ⟨w.heap.size, 2, none⟩ = some (.slice A n cp) := hP2.cell 2
    have f0 := hP2.free 0
    have f1 := hP2.free 1
    have f2 := hP2.free 2
    obtain ⟨Av, nv, cv, rfl⟩ : ∃ Av nv cv, v = .slice Av nv cv := by
      rcases hO.slice with ⟨e, _⟩ | ⟨g', cap, cur, e, _⟩
      · exact ⟨none, 0, 0, e⟩
      · exact ⟨_, _, _, e⟩
    have hP3 := put3 (x' := .int .i64 c) (y' := .int .u8 k) (z' := .slice Av nv cv) hP2
    have k3 := frame3 w2 w.heap.size (.int .i64 c) (.int .u8 k) (.slice Av nv cv)
    have hO3 := hO.frame k3 (fun b hb _ e => by omega)
    have hR3 := k3.has hR2 (by show ¬ (w.heap.size + 2 = w.heap.size); omega)
    have hQ3 := k3.has hQ2 (by show ¬ (w.heap.size + 1 = w.heap.size); omega)
    have hb3 := below3 hb2 (Nat.le_refl _) (.int .i64 c) (.int .u8 k) (.slice Av nv cv)
    have hz3 := Nat.le_trans hz2 k3.size
    go_upto_region 5 with fail
    generalize hW : World.setCell _ _ _ = W3 at hP3 hO3 hR3 hb3 hz3 hQ3
    try rw [hW]
    clear hW k3 hO hP2 hQ2 hR2 hb2 hz2 p0 p1 p2 f0 f1 f2
    have q2 : W3.cell? ⟨w.heap.size + 1, 2, none⟩ = some (.slice A' n' cp') := hQ3.cell 2
    have hcon := hide (all_minus A' n' cp' l' #[.pointer (some ⟨w.heap.size, 0, none⟩)] (mayMin l l') (MInv w W3 w.heap.size c k l l') (MFin w w.heap.size) W3 w h' ⟨_, hP3, hO3, hR3, hb3, hz3, Nat.le_refl _⟩
      (fun i W hI => let ⟨_, _, _, _, hb, _⟩ := hI; hb) (fun i W W' hI hb => hI.keep hb)
      (fun i W Am nm cm Al nl cl ms ml y yl hi hI hl hm hy hr hr' => by
        have hy' := row_small H2.out (List.mem_of_getElem? hm)
        simp only at hy'
        obtain ⟨_, _, _, _, _, q6, q7, q8, _⟩ := check_iff.1 H1.out
        exact minus1_any w W3 c k l l' i W Am nm cm Al nl cl ms y yl hI hm (hr'.below (let ⟨_, _, _, _, hb, _⟩ := hI; hb)) ⟨by omega, by omega⟩ q7 q8 (check_iff.1 H2.out).2.2.2.2.2.2.2.1 (by omega) q6))
    clear hP3 hO3 hR3 hQ3 hb3 hz3
    go_wp2_with fail
    refine (hcon.out).mono ?_
    rintro e w4 ⟨rfl, hY, hN⟩
    clear hcon q2
    cases hall : allN n' (mayMin l l') with
    | true =>
      obtain ⟨v4, hP4, hO4, hR4, hb4, hz4, -⟩ := hY hall
      have hr2 : Hid (minusP c k l c' k' l' = ⟨0, c, k, minS l l' n'⟩) := by unfold Hid; rw [hr.out, hl'.out, if_pos hall]
      clear hY hN hall hr
      obtain ⟨Aw, nw, cw, rfl⟩ : ∃ Av nv cv, v4 = .slice Av nv cv := by
        rcases hO4.slice with ⟨e, _⟩ | ⟨g', cap, cur, e, _⟩
        · exact ⟨none, 0, 0, e⟩
        · exact ⟨_, _, _, e⟩
      have z0 : w4.cell? ⟨w.heap.size + 2, 0, none⟩ = some (.int .i64 0) := hR4.cell 0
      have z1 : w4.cell? ⟨w.heap.size + 2, 1, none⟩ = some (.int .u8 0) := hR4.cell 1
      have z2 : w4.cell? ⟨w.heap.size + 2, 2, none⟩ = some (.slice none 0 0) := hR4.cell 2
      have y0 := hR4.free 0
      have y1 := hR4.free 1
      have y2 := hR4.free 2
      have p0 : w4.cell? ⟨w.heap.size, 0, none⟩ = some (.int .i64 c) := hP4.cell 0
      have p1 : w4.cell? ⟨w.heap.size, 1, none⟩ = some (.int .u8 k) := hP4.cell 1
      have p2 : w4.cell? ⟨w.heap.size, 2, none⟩ = some (.slice Aw nw cw) := hP4.cell 2
      go_wp2
      refine retProf2 rfl rfl rfl (put3 hR4) rfl rfl ⟨Aw, nw, cw, ?_, ?_, below3 hb4 (by omega) _ _ _⟩
      · rw [hr2.out]; rfl
      · rw [hr2.out]
        exact (hO4.frame (frame3 w4 (w.heap.size + 2) _ _ _) (fun b hb _ e => by omega)).mono (by omega)
    | false =>
      obtain ⟨hR4, hb4⟩ := hN hall
      have hr2 : Hid (minusP c k l c' k' l' = badP 6) := by unfold Hid; rw [hr.out, hl'.out, if_neg (by rw [hall]; simp)]
      clear hY hN hall hr
      have z0 : w4.cell? ⟨w.heap.size + 2, 0, none⟩ = some (.int .i64 0) := hR4.cell 0
      have z1 : w4.cell? ⟨w.heap.size + 2, 1, none⟩ = some (.int .u8 0) := hR4.cell 1
      have z2 : w4.cell? ⟨w.heap.size + 2, 2, none⟩ = some (.slice none 0 0) := hR4.cell 2
      have y0 := hR4.free 0
      have y1 := hR4.free 1
      have y2 := hR4.free 2
      go_wp2
      refine retProf2 rfl rfl rfl (put3 hR4) rfl rfl ⟨none, 0, 0, ?_, ?_, below3 hb4 (by omega) _ _ _⟩
      · rw [hr2.out]; rfl
      · rw [hr2.out]; exact ORows.nil_ _ _
  · have hr : Hid (minusP c k l c' k' l' = badP (bothS c k l c' k' l')) := by unfold Hid minusP; rw [if_neg herr]
    have hne : (bothS c k l c' k' l' != 0) = true := by rw [bne_iff_ne]; exact herr
    clear herr
    have z0 : w1.cell? ⟨w.heap.size + 2, 0, none⟩ = some (.int .i64 0) := hR.cell 0
    have z1 : w1.cell? ⟨w.heap.size + 2, 1, none⟩ = some (.int .u8 0) := hR.cell 1
    have z2 : w1.cell? ⟨w.heap.size + 2, 2, none⟩ = some (.slice none 0 0) := hR.cell 2
    have y0 := hR.free 0
    have y1 := hR.free 1
    have y2 := hR.free 2
    go_wp2
    refine retProf2 rfl rfl rfl (put3 hR) rfl rfl ⟨none, 0, 0, ?_, ?_, below3 hb1 (by omega) _ _ _⟩
    · rw [hr.out]; rfl
    · rw [hr.out]; exact ORows.nil_ _ _
end Go.Proofs.Ytleniljhacnikaa
