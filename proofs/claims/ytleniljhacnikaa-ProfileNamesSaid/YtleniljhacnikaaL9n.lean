/-
  The law ProfileNames.
-/
import Derived.Test.YtleniljhacnikaaL9k
import Derived.Test.YtleniljhacnikaaSpecG
namespace Go.Proofs.Ytleniljhacnikaa
open Go.RowKit Go.Proofs
attribute [local go_sem] cell?_more cell?_alloc_some cell?_setCell_far frozen?_alloc_some frozen?_more

theorem Own.frame' {S : Nat → Prop} {w w' : World} {B g n c : Nat} {xs : List Int} (h : Own w B (.slice (some ⟨g, 0, none⟩) n c) xs) (k : Frame' S w w') (hS : ¬ S g) : Own w' B (.slice (some ⟨g, 0, none⟩) n c) xs :=
  owns_frame h k (fun b hb => by cases hb; exact hS)
theorem OwnB.frame' {S : Nat → Prop} {w w' : World} {B g n c : Nat} {xs : List Bool} (h : OwnB w B (.slice (some ⟨g, 0, none⟩) n c) xs) (k : Frame' S w w') (hS : ¬ S g) : OwnB w' B (.slice (some ⟨g, 0, none⟩) n c) xs :=
  owns_frame h k (fun b hb => by cases hb; exact hS)


set_option maxRecDepth 100000 in
set_option maxHeartbeats 8000000 in
theorem profileNames_any (c k : Int) (A : Option Addr) (n cp : Nat) (l : List Row) (A' : Option Addr) (n' c' : Nat) (p : List Int) (A2 : Option Addr) (n2 c2 : Nat) (left : List Bool) (w : World) (h : RRows w A n cp l) (h' : RInts w A' n' c' p) (h2 : RBools w A2 n2 c2 left) :
    Calls Try.prog 13 #[.agg #[.int .i64 c, .int .u8 k, .slice A n cp], .slice A' n' c', .slice A2 n2 c2] w fun e w' => e = .returned (.bool true) ∧ Below w.heap.size w w' := by
  have hl' := hide h'.len
  have hle := h'.le
  have hle2 : n2 ≤ 9223372036854775807 := Nat.le_trans h2.2.1 h2.2.2.1
  have hl2 := hide h2.len
  have hP0 : Has (w.alloc (.cells #[.int .i64 c, .int .u8 k, .slice A n cp] 24)) w.heap.size 24 #[.int .i64 c, .int .u8 k, .slice A n cp] := Has.new _ _ _
  have hb0 : Below w.heap.size w (w.alloc (.cells #[.int .i64 c, .int .u8 k, .slice A n cp] 24)) := (Below.refl _ _).alloc (Nat.le_refl _) _
  go_enter Try.func13, Try.ntmps13
  go_wp2_with fail
  refine (rcheck_any _ _ A n cp l _ (h.below hb0)).mono ?_
  rintro e w1 ⟨rfl, hbw⟩
  have hP1 := hP0.below hbw hP0.lt
  have hb1 := Below_trans' hb0 hb0.size hbw
  clear hP0 hb0 hbw
  by_cases herr : checkS c k l = 0
  · rw [herr]
    have H1 := hide herr
    clear herr
    go_wp2_with fail
    refine (rturned_any A' n' c' p w1 (h'.below hb1)).mono ?_
    rintro e w2 ⟨rfl, rfl⟩
    cases hp : turnedS p with
    | false =>
      go_wp2_with fail
      refine (wakes9_any _).mono ?_
      rintro e w9 ⟨rfl, hbw⟩
      go_wp2
      go_ret
      exact ⟨rfl, Below_trans' hb1 hb1.size hbw⟩
    | true =>
      have Hp := hide hp
      clear hp
      have p0 : w1.cell? ⟨w.heap.size, 0, none⟩ = some (.int .i64 (c)) := (hP1).cell 0
      have p1 : w1.cell? ⟨w.heap.size, 1, none⟩ = some (.int .u8 k) := (hP1).cell 1
      have p2 : w1.cell? ⟨w.heap.size, 2, none⟩ = some (.slice A n cp) := (hP1).cell 2
      by_cases hnc : (n' : Int) = c
      · subst hnc
        have hN := hide (names_of Hp.out hl'.out)
        have hn10 := hN.out.le
        have hn1 := hN.out.one
        have hmk := run_make_row' (P := Try.prog) 28 3 (.int .i64 0) 8 Try.underlying28 info3 rfl .i64 .i64 n' (by omega) (by omega)
        have hmk2 := run_make_row' (P := Try.prog) 52 4 (.bool false) 1 Try.underlying52 info4 rfl .i64 .i64 n' (by omega) (by omega)
        have hu2 : Below w1.heap.size w1 (w1.alloc (.cells (madeCells #[.int .i64 0] n') 3)) := (Below.refl _ _).alloc (Nat.le_refl _) _
        have hO2 : Own (w1.alloc (.cells (madeCells #[.int .i64 0] n') 3)) (w.heap.size + 1) (.slice (some ⟨w1.heap.size, 0, none⟩) n' n') (partR 3 (rangeI n') p 0) := by
          rw [partR_zero, length_rangeI]
          unfold Own
          have := World.ownsRow_lit (base := w.heap.size + 1) (e := 3) (size := 1) w1 (madeCells #[.int .i64 0] n') n' (by have := hP1.lt; omega) (by unfold maxLen; omega) (by rw [size_madeCells]; simp)
          rw [toList_madeCells_one] at this
          simpa using this
        have hga : w.heap.size + 1 ≤ w1.heap.size := hP1.lt
        have hgz : (w1.alloc (.cells (madeCells #[.int .i64 0] n') 3)).heap.size = w1.heap.size + 1 := by simp
        go_upto_region 5 with fail
        have hP2 := hP1.below hu2 hP1.lt
        have hb2 := Below_trans' hb1 hb1.size hu2
        generalize hW : World.alloc w1 _ = W2 at hP2 hb2 hO2 hgz
        try rw [hW]
        clear hW hu2 hP1 hb1 hmk p0 p1 p2
        have hu3 : Below W2.heap.size W2 (W2.alloc (.cells (madeCells #[.bool false] n') 4)) := (Below.refl _ _).alloc (Nat.le_refl _) _
        have hM3 : OwnB (W2.alloc (.cells (madeCells #[.bool false] n') 4)) (w.heap.size + 1) (.slice (some ⟨W2.heap.size, 0, none⟩) n' n') (movB left p 0) := by
          rw [movB_zero, hl'.out]
          exact OwnB.made W2 _ n' (by omega) (by omega)
        go_upto_region 6 with fail
        have hP3 := hP2.below hu3 hP2.lt
        have hb3 := Below_trans' hb2 hb2.size hu3
        have hO3 := hO2.below hu3
        generalize hW : World.alloc W2 _ = W3 at hP3 hb3 hO3 hM3
        try rw [hW]
        clear hW hu3 hP2 hb2 hO2 hmk2
        rw [hgz] at hM3
        obtain ⟨gb, hgb⟩ : ∃ gb, gb = w1.heap.size + 1 := ⟨_, rfl⟩
        rw [← hgb] at hM3 ⊢
        have hgz' : w1.heap.size < gb := by omega
        clear hgb hgz
        generalize w1.heap.size = ga at hga hO3 hgz' ⊢
        have hpb : Hid (0 < n' → ∃ b off, A' = some ⟨b, off, none⟩ ∧ b < w.heap.size) := fun hn => let ⟨b, off, e, hc⟩ := h'.2.2.2.2 hn; ⟨b, off, e, World.block_lt_of_cell? w _ (hc 0 hn)⟩
        go_wp2_with fail
        go_loopw [10] (fun i wr => ∃ (t : Nat), t ≤ n' ∧ i = .int .i64 t ∧ Hid (Own wr (w.heap.size + 1) (.slice (some ⟨ga, 0, none⟩) n' n') (partR 3 (rangeI n') p t)) ∧ Hid (OwnB wr (w.heap.size + 1) (.slice (some ⟨gb, 0, none⟩) n' n') (movB left p t)) ∧ Hid (Frame' (fun b => b = ga ∨ b = gb) W3 wr)) (fun i _ => n' - (intOf i).toNat)
        case atStart => exact ⟨0, Nat.zero_le _, rfl, hO3, hM3, Frame'.refl _ _⟩
        case round =>
          obtain ⟨t, ht, rfl, hO, hM, hF⟩ := hrel
          have hbr : Below w.heap.size w wr := Frame'.below hb3 hF.out (fun k e => by have e : k = ga ∨ k = gb := e; omega) hb3.size
          by_cases hlt : t < n'
          · obtain ⟨b', off', v0, rfl, hc', hd', hat', hv1, hv2⟩ := h'.step hlt
            obtain ⟨V, rfl, hVn⟩ : ∃ V : Nat, v0 = V ∧ V < n' := by
              have := hN.out.rng v0 (List.mem_of_getElem? hat'.out)
              exact ⟨v0.toNat, by omega, by omega⟩
            have hyl : Hid ((partR 3 (rangeI n') p t).length = n') := by unfold Hid; rw [length_partR, length_rangeI]
            have hml : Hid ((movB left p t).length = n') := by unfold Hid; rw [length_movB, hl'.out]
            obtain ⟨u, hu, cu, fu⟩ := hO.out.at hyl.out hVn
            have hnext : Hid (partR 3 (rangeI n') p (t + 1) = (partR 3 (rangeI n') p t).set V (t : Int)) := by
              unfold Hid
              rw [partR_point hN.out.nd (get_rangeI hlt) hat'.out (by omega) (by rw [length_rangeI]; omega), Int.toNat_natCast]
            have hnextM : Hid (movB left p (t + 1) = (movB left p t).set V (left.getD t false)) := by
              unfold Hid
              rw [movB_point hN.out.nd hat'.out (by omega), Int.toNat_natCast]
            have b1 : (0 : Int) ≤ (t : Int) := by omega
            have b2 : (t : Int) < (n' : Int) := by omega
            have b3 : (0 : Int) ≤ (V : Int) := by omega
            have b4 : (V : Int) < (n' : Int) := by omega
            have q' := keep_cell hbr hc'
            have hB5 := Own.set hO.out hyl.out V (t : Int)
            have hF5 := Frame'.setCell (p := ⟨ga, V, none⟩) hF.out (.inl (.inl rfl)) (.int .i64 (t : Int))
            rw [← hnext.out] at hB5
            have hM5 := OwnB.frame' hM.out (Frame'.setCell (p := ⟨ga, V, none⟩) (Frame'.refl (fun b => b = ga) wr) (.inl rfl) (.int .i64 (t : Int))) (fun e => by have e : gb = ga := e; omega)
            have hb5 := hbr.setCell (p := ⟨ga, V, none⟩) (by show w.heap.size ≤ ga; omega) (.int .i64 (t : Int))
            go_upto_region 10 with fail
            generalize World.setCell wr _ _ = W5 at hB5 hF5 hM5 hb5 ⊢
            clear hO hM hF hnext hbr q' cu fu hu
            have q' := keep_cell hb5 hc'
            obtain ⟨u2, cu, fu⟩ := hM5.at hml.out hVn
            have cud : W5.drew.cell? ⟨gb, V, none⟩ = some (.bool u2) := cu
            have fud : W5.drew.frozen? ⟨gb, V, none⟩ = false := fu
            by_cases hlL : t < n2
            · have i3 : (t : Int) < (n2 : Int) := by omega
              obtain ⟨b9, off9, rfl, hc9⟩ := h2.step hlL
              have q9 := keep_cell hb5 hc9
              generalize left.getD t false = x9 at hc9 q9 hnextM
              have hO7 := OwnB.set hM5 hml.out V x9
              have hF7 := Frame'.setCell (p := ⟨gb, V, none⟩) hF5 (.inl (.inr rfl)) (.bool x9)
              rw [← hnextM.out] at hO7
              have hB7 := Own.frame' hB5 (Frame'.setCell (p := ⟨gb, V, none⟩) (Frame'.refl (fun b => b = gb) W5) (.inl rfl) (.bool x9)) (fun e => by have e : ga = gb := e; omega)
              refine wp_region_still_tail 16 (by kernel_rfl) (by kernel_rfl) ?_
              simp only [List.take_succ_cons, List.take_zero, List.drop_succ_cons, List.drop_zero]
              change wpStill _ _ (World.drew _) _ _ _
              repeat still_step
              refine wpStill_nil ?_
              clear hM5 hB5 hF5
              go_wp2
              go_roundw
              case rel => exact ⟨t + 1, by omega, by go_num, hB7, hO7, hF7.os, hF7.tape, hF7.output, hF7.size, hF7.block⟩
              case measure => simp [intOf] <;> omega
            · have i3 : ¬ (t : Int) < (n2 : Int) := by omega
              have hx : left.getD t false = false := by rw [List.getD_eq_getElem?_getD, List.getElem?_eq_none (by have := hl2.out; omega)]; rfl
              rw [hx] at hnextM
              clear hx
              have hO7 := OwnB.set hM5 hml.out V false
              have hF7 := Frame'.setCell (p := ⟨gb, V, none⟩) hF5 (.inl (.inr rfl)) (.bool false)
              rw [← hnextM.out] at hO7
              have hB7 := Own.frame' hB5 (Frame'.setCell (p := ⟨gb, V, none⟩) (Frame'.refl (fun b => b = gb) W5) (.inl rfl) (.bool false)) (fun e => by have e : ga = gb := e; omega)
              refine wp_region_still_tail 16 (by kernel_rfl) (by kernel_rfl) ?_
              simp only [List.take_succ_cons, List.take_zero, List.drop_succ_cons, List.drop_zero]
              change wpStill _ _ (World.drew _) _ _ _
              repeat still_step
              refine wpStill_nil ?_
              clear hM5 hB5 hF5
              go_wp2
              go_roundw
              case rel => exact ⟨t + 1, by omega, by go_num, hB7, hO7, hF7.os, hF7.tape, hF7.output, hF7.size, hF7.block⟩
              case measure => simp [intOf] <;> omega
          · have htn : t = n' := by omega
            subst htn
            have hOb : Own wr (w.heap.size + 1) (.slice (some ⟨ga, 0, none⟩) t t) (backS p) := by have := hO.out; rwa [back_made Hp.out hl'.out] at this
            have hbt := hide (back_turned Hp.out hl'.out)
            have hbi := hOb.ints (fun x hx => by
              have := (turned_iff.1 hbt.out.1).2.2 x hx
              omega)
            have hmo := hM.out.bools
            have hQ := hF.out.has hP3 (fun e => by have e : w.heap.size = ga ∨ w.heap.size = gb := e; omega)
            obtain ⟨T1, T2, T3, T4, T5, T6⟩ := names_law left Hp.out hl'.out H1.out
            have G1 := hide T1
            have G2 := hide T2
            have G3 := hide T3
            have G4 := hide T4
            have G5 := hide T5
            have G6 := hide T6
            clear T1 T2 T3 T4 T5 T6 hOb hO hM hF hP3 hb3 hO3 hM3 hlt
            have hS0 := Fs.nil wr
            have hQ0 : Fs wr [fHas w.heap.size 24 #[.int .i64 (t : Int), .int .u8 k, .slice A n cp], fInts (some ⟨ga, 0, none⟩) t t (backS p), fBools (some ⟨gb, 0, none⟩) t t (movB left p t)] := ⟨hQ, hbi, hmo, trivial⟩
            obtain ⟨w0, hw0⟩ : ∃ w0, w0 = wr := ⟨_, rfl⟩
            subst hw0
            have hb0 := hbr
            clear hbr hQ hbi hmo
            have b2 : ¬ (t : Int) < (t : Int) := by omega
            have p0 : w0.cell? ⟨w.heap.size, 0, none⟩ = some (.int .i64 (t)) := (hQ0.1).cell 0
            have p1 : w0.cell? ⟨w.heap.size, 1, none⟩ = some (.int .u8 k) := (hQ0.1).cell 1
            have p2 : w0.cell? ⟨w.heap.size, 2, none⟩ = some (.slice A n cp) := (hQ0.1).cell 2
            go_wp2_with fail
            refine (prename_any t k A n cp l _ _ _ p _ (h.below hb0) (h'.below hb0) H1.out Hp.out rfl).mono ?_
            rintro e w1 ⟨Ao, no, co, rfl, hOk, hbw⟩
            skip
            simp only at hOk ⊢
            clear p0 p1 p2
            have hQ1 := hQ0.below hbw
            have hS1 := hS0.below hbw
            have hb1 := Below_trans' hb0 hb0.size hbw
            clear hQ0 hS0 hb0 hbw
            replace hS1 := hS1.rows hOk.rows
            clear hOk
            go_upto_region 12 with fail
            have hbw : Below w1.heap.size w1 (w1.alloc (.cells #[.int .i64 (t : Int), .int .u8 k, .slice Ao no co] 24)) := (Below.refl _ _).alloc (Nat.le_refl _) _
            have hN := Has.new w1 24 #[.int .i64 (t : Int), .int .u8 k, .slice Ao no co]
            have hQ2 := hQ1.below hbw
            have hS2 := (hS1.below hbw).has hN
            have hb2 := Below_trans' hb1 hb1.size hbw
            clear hQ1 hS1 hb1 hN hbw
            generalize hW : World.alloc w1 _ = w2 at hQ2 hS2 hb2
            try rw [hW]
            clear hW
            generalize w1.heap.size = vo at hS2 ⊢
            have p0 : w2.cell? ⟨vo, 0, none⟩ = some (.int .i64 (t)) := (hS2.1).cell 0
            have p1 : w2.cell? ⟨vo, 1, none⟩ = some (.int .u8 k) := (hS2.1).cell 1
            have p2 : w2.cell? ⟨vo, 2, none⟩ = some (.slice Ao no co) := (hS2.1).cell 2
            go_wp2_with fail
            refine (prename_any t k Ao no co _ _ _ _ (backS p) _ hS2.2.1 hQ2.2.1 G1.out hbt.out.1 rfl).mono ?_
            rintro e w3 ⟨Aw, nw, cw, rfl, hOk, hbw⟩
            rw [G2.out] at hOk
            simp only at hOk ⊢
            clear p0 p1 p2
            have hQ3 := hQ2.below hbw
            have hS3 := hS2.below hbw
            have hb3 := Below_trans' hb2 hb2.size hbw
            clear hQ2 hS2 hb2 hbw
            replace hS3 := hS3.rows hOk.rows
            clear hOk
            go_upto_region 13 with fail
            have hbw : Below w3.heap.size w3 (w3.alloc (.cells #[.int .i64 (t : Int), .int .u8 k, .slice Aw nw cw] 24)) := (Below.refl _ _).alloc (Nat.le_refl _) _
            have hN := Has.new w3 24 #[.int .i64 (t : Int), .int .u8 k, .slice Aw nw cw]
            have hQ4 := hQ3.below hbw
            have hS4 := (hS3.below hbw).has hN
            have hb4 := Below_trans' hb3 hb3.size hbw
            clear hQ3 hS3 hb3 hN hbw
            generalize hW : World.alloc w3 _ = w4 at hQ4 hS4 hb4
            try rw [hW]
            clear hW
            generalize w3.heap.size = vw at hS4 ⊢
            have p0 : w4.cell? ⟨w.heap.size, 0, none⟩ = some (.int .i64 (t)) := (hQ4.1).cell 0
            have p1 : w4.cell? ⟨w.heap.size, 1, none⟩ = some (.int .u8 k) := (hQ4.1).cell 1
            have p2 : w4.cell? ⟨w.heap.size, 2, none⟩ = some (.slice A n cp) := (hQ4.1).cell 2
            go_wp2_with fail
            refine (many_any t k A n cp l _ (h.below hb4)).mono ?_
            rintro e w5 ⟨rfl, hbw⟩
            rw [H1.out, show cntV (t : Int) k l anyRow = totS l by unfold cntV; rw [if_pos H1.out, cntP_any]]
            clear p0 p1 p2
            have hQ5 := hQ4.below hbw
            have hS5 := hS4.below hbw
            have hb5 := Below_trans' hb4 hb4.size hbw
            clear hQ4 hS4 hb4 hbw
            go_upto_region 14 with fail
            have p0 : w5.cell? ⟨vo, 0, none⟩ = some (.int .i64 (t)) := (hS5.2.2.1).cell 0
            have p1 : w5.cell? ⟨vo, 1, none⟩ = some (.int .u8 k) := (hS5.2.2.1).cell 1
            have p2 : w5.cell? ⟨vo, 2, none⟩ = some (.slice Ao no co) := (hS5.2.2.1).cell 2
            go_wp2_with fail
            refine (many_any t k Ao no co _ _ hS5.2.2.2.1).mono ?_
            rintro e w6 ⟨rfl, hbw⟩
            rw [G1.out, show cntV (t : Int) k (eachS (fun ms => renS k ms p) l) anyRow = totS l by unfold cntV; rw [if_pos G1.out, cntP_any, G3.out]]
            clear p0 p1 p2
            have hQ6 := hQ5.below hbw
            have hS6 := hS5.below hbw
            have hb6 := Below_trans' hb5 hb5.size hbw
            clear hQ5 hS5 hb5 hbw
            go_upto_region 15 with fail
            have p0 : w6.cell? ⟨w.heap.size, 0, none⟩ = some (.int .i64 (t)) := (hQ6.1).cell 0
            have p1 : w6.cell? ⟨w.heap.size, 1, none⟩ = some (.int .u8 k) := (hQ6.1).cell 1
            have p2 : w6.cell? ⟨w.heap.size, 2, none⟩ = some (.slice A n cp) := (hQ6.1).cell 2
            go_wp2_with fail
            refine (pkeep_any t k A n cp l _ _ _ left _ (h.below hb6) (h2.below hb6)).mono ?_
            rintro e w7 ⟨Ak, nk, ck, rfl, hOk, hbw⟩
            rw [G4.out] at hOk ⊢
            simp only at hOk ⊢
            clear p0 p1 p2
            have hQ7 := hQ6.below hbw
            have hS7 := hS6.below hbw
            have hb7 := Below_trans' hb6 hb6.size hbw
            clear hQ6 hS6 hb6 hbw
            replace hS7 := hS7.rows hOk.rows
            clear hOk
            go_upto_region 16 with fail
            have hbw : Below w7.heap.size w7 (w7.alloc (.cells #[.int .i64 (t : Int), .int .u8 k, .slice Ak nk ck] 24)) := (Below.refl _ _).alloc (Nat.le_refl _) _
            have hN := Has.new w7 24 #[.int .i64 (t : Int), .int .u8 k, .slice Ak nk ck]
            have hQ8 := hQ7.below hbw
            have hS8 := (hS7.below hbw).has hN
            have hb8 := Below_trans' hb7 hb7.size hbw
            clear hQ7 hS7 hb7 hN hbw
            generalize hW : World.alloc w7 _ = w8 at hQ8 hS8 hb8
            try rw [hW]
            clear hW
            generalize w7.heap.size = vk at hS8 ⊢
            have p0 : w8.cell? ⟨vk, 0, none⟩ = some (.int .i64 (t)) := (hS8.1).cell 0
            have p1 : w8.cell? ⟨vk, 1, none⟩ = some (.int .u8 k) := (hS8.1).cell 1
            have p2 : w8.cell? ⟨vk, 2, none⟩ = some (.slice Ak nk ck) := (hS8.1).cell 2
            go_wp2_with fail
            refine (prename_any t k Ak nk ck _ _ _ _ p _ hS8.2.1 (h'.below hb8) G5.out Hp.out rfl).mono ?_
            rintro e w9 ⟨A1, n1, c1, rfl, hOk, hbw⟩
            skip
            simp only at hOk ⊢
            clear p0 p1 p2
            have hQ9 := hQ8.below hbw
            have hS9 := hS8.below hbw
            have hb9 := Below_trans' hb8 hb8.size hbw
            clear hQ8 hS8 hb8 hbw
            replace hS9 := hS9.rows hOk.rows
            clear hOk
            go_upto_region 17 with fail
            have hbw : Below w9.heap.size w9 (w9.alloc (.cells #[.int .i64 (t : Int), .int .u8 k, .slice A1 n1 c1] 24)) := (Below.refl _ _).alloc (Nat.le_refl _) _
            have hN := Has.new w9 24 #[.int .i64 (t : Int), .int .u8 k, .slice A1 n1 c1]
            have hQ10 := hQ9.below hbw
            have hS10 := (hS9.below hbw).has hN
            have hb10 := Below_trans' hb9 hb9.size hbw
            clear hQ9 hS9 hb9 hN hbw
            generalize hW : World.alloc w9 _ = w10 at hQ10 hS10 hb10
            try rw [hW]
            clear hW
            generalize w9.heap.size = v1 at hS10 ⊢
            have p0 : w10.cell? ⟨vo, 0, none⟩ = some (.int .i64 (t)) := (hS10.2.2.2.2.2.2.1).cell 0
            have p1 : w10.cell? ⟨vo, 1, none⟩ = some (.int .u8 k) := (hS10.2.2.2.2.2.2.1).cell 1
            have p2 : w10.cell? ⟨vo, 2, none⟩ = some (.slice Ao no co) := (hS10.2.2.2.2.2.2.1).cell 2
            go_wp2_with fail
            refine (pkeep_any t k Ao no co _ _ _ _ (movB left p t) _ hS10.2.2.2.2.2.2.2.1 hQ10.2.2.1).mono ?_
            rintro e w11 ⟨A3, n3, c3, rfl, hOk, hbw⟩
            rw [G6.out] at hOk ⊢
            simp only at hOk ⊢
            clear p0 p1 p2
            have hQ11 := hQ10.below hbw
            have hS11 := hS10.below hbw
            have hb11 := Below_trans' hb10 hb10.size hbw
            clear hQ10 hS10 hb10 hbw
            replace hS11 := hS11.rows hOk.rows
            clear hOk
            go_upto_region 18 with fail
            have hbw : Below w11.heap.size w11 (w11.alloc (.cells #[.int .i64 (t : Int), .int .u8 k, .slice A3 n3 c3] 24)) := (Below.refl _ _).alloc (Nat.le_refl _) _
            have hN := Has.new w11 24 #[.int .i64 (t : Int), .int .u8 k, .slice A3 n3 c3]
            have hQ12 := hQ11.below hbw
            have hS12 := (hS11.below hbw).has hN
            have hb12 := Below_trans' hb11 hb11.size hbw
            clear hQ11 hS11 hb11 hN hbw
            generalize hW : World.alloc w11 _ = w12 at hQ12 hS12 hb12
            try rw [hW]
            clear hW
            generalize w11.heap.size = v3 at hS12 ⊢
            try simp only [List.append]
            have p0 : w12.cell? ⟨vw, 0, none⟩ = some (.int .i64 (t)) := (hS12.2.2.2.2.2.2.1).cell 0
            have p1 : w12.cell? ⟨vw, 1, none⟩ = some (.int .u8 k) := (hS12.2.2.2.2.2.2.1).cell 1
            have p2 : w12.cell? ⟨vw, 2, none⟩ = some (.slice Aw nw cw) := (hS12.2.2.2.2.2.2.1).cell 2
            have q0 : w12.cell? ⟨w.heap.size, 0, none⟩ = some (.int .i64 (t)) := (hQ12.1).cell 0
            have q1 : w12.cell? ⟨w.heap.size, 1, none⟩ = some (.int .u8 k) := (hQ12.1).cell 1
            have q2 : w12.cell? ⟨w.heap.size, 2, none⟩ = some (.slice A n cp) := (hQ12.1).cell 2
            go_wp2_with fail
            refine (rsame_any t k Aw nw cw l t k A n cp l _ hS12.2.2.2.2.2.2.2.1 (h.below hb12)).mono ?_
            rintro e w13 ⟨rfl, hbw⟩
            rw [sameB_self]
            clear p0 p1 p2 q0 q1 q2
            have hQ13 := hQ12.below hbw
            have hS13 := hS12.below hbw
            have hb13 := Below_trans' hb12 hb12.size hbw
            clear hQ12 hS12 hb12 hbw
            have p0 : w13.cell? ⟨vo, 0, none⟩ = some (.int .i64 (t)) := (hS13.2.2.2.2.2.2.2.2.1).cell 0
            have p1 : w13.cell? ⟨vo, 1, none⟩ = some (.int .u8 k) := (hS13.2.2.2.2.2.2.2.2.1).cell 1
            have p2 : w13.cell? ⟨vo, 2, none⟩ = some (.slice Ao no co) := (hS13.2.2.2.2.2.2.2.2.1).cell 2
            go_wp2_with fail
            refine (pcheck_any t k Ao no co _ _ hS13.2.2.2.2.2.2.2.2.2.1).mono ?_
            rintro e w14 ⟨rfl, hbw⟩
            rw [G1.out]
            clear p0 p1 p2
            have hQ14 := hQ13.below hbw
            have hS14 := hS13.below hbw
            have hb14 := Below_trans' hb13 hb13.size hbw
            clear hQ13 hS13 hb13 hbw
            have p0 : w14.cell? ⟨v1, 0, none⟩ = some (.int .i64 (t)) := (hS14.2.2.1).cell 0
            have p1 : w14.cell? ⟨v1, 1, none⟩ = some (.int .u8 k) := (hS14.2.2.1).cell 1
            have p2 : w14.cell? ⟨v1, 2, none⟩ = some (.slice A1 n1 c1) := (hS14.2.2.1).cell 2
            have q0 : w14.cell? ⟨v3, 0, none⟩ = some (.int .i64 (t)) := (hS14.1).cell 0
            have q1 : w14.cell? ⟨v3, 1, none⟩ = some (.int .u8 k) := (hS14.1).cell 1
            have q2 : w14.cell? ⟨v3, 2, none⟩ = some (.slice A3 n3 c3) := (hS14.1).cell 2
            go_wp2_with fail
            refine (rsame_any t k A1 n1 c1 _ t k A3 n3 c3 _ _ hS14.2.2.2.1 hS14.2.1).mono ?_
            rintro e w15 ⟨rfl, hbw⟩
            rw [sameB_self]
            clear p0 p1 p2 q0 q1 q2
            have hb15 := Below_trans' hb14 hb14.size hbw
            clear hQ14 hS14 hb14 hbw
            go_wp2_with fail
            refine (wakes9_any _).mono ?_
            rintro e w9 ⟨rfl, hbw⟩
            go_wp2
            go_ret
            exact ⟨rfl, Below_trans' hb15 hb15.size hbw⟩
      · have hnc' : ((n' : Int) != c) = true := by simp [hnc]
        have Hnc := hide hnc
        clear hnc
        go_wp2_with fail
        refine (wakes9_any _).mono ?_
        rintro e w9 ⟨rfl, hbw⟩
        go_wp2
        go_ret
        exact ⟨rfl, Below_trans' hb1 hb1.size hbw⟩
  · have hne : (checkS c k l != 0) = true := by rw [bne_iff_ne]; exact herr
    clear herr
    go_wp2_with fail
    refine (wakes9_any _).mono ?_
    rintro e w9 ⟨rfl, hbw⟩
    go_wp2
    go_ret
    exact ⟨rfl, Below_trans' hb1 hb1.size hbw⟩
end Go.Proofs.Ytleniljhacnikaa
