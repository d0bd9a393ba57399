/-
  The law AssertSwap.
-/
import Derived.Test.YtkmcgpaoekphmaaW41p
namespace Go.Proofs.Ytkmcgpaoekphmaa
open Go.RowKit Go.Proofs Go.Shelf
attribute [local go_sem] cell?_alt cell?_more cell?_alloc_some cell?_setCell_far frozen?_alloc_some frozen?_more
theorem great41_none (L : List Int) : great41 L [] [] = decide (40 < L.length) := by unfold great41 wideR; simp
theorem worthA_swap {k x y : Int} {L ms : List Int} (hk : k ≠ 5) (h5 : k = 1 ∨ k = 2 ∨ k = 3 ∨ k = 4 ∨ k = 5) : worthA k y x L ms = 2 - worthA k x y L ms := by
  rcases h5 with rfl | rfl | rfl | rfl | rfl
  · rw [worth1, worth1]; exact sideS_swap _ _
  · rw [worth2, worth2]; exact sideS_swap _ _
  · rw [worth3, worth3]; exact sideS_swap _ _
  · rw [worth4, worth4]; exact sideS_swap _ _
  · exact absurd rfl hk
theorem prefers_nil (x y : Int) : prefersS 1 [] x y = false := by
  unfold prefersS
  split
  · rfl
  · rfl
theorem worthA_blank {k x y : Int} {L : List Int} (h5 : k = 1 ∨ k = 2 ∨ k = 3 ∨ k = 4 ∨ k = 5) : worthA k x y L [] = 1 := by
  rcases h5 with rfl | rfl | rfl | rfl | rfl
  · rfl
  · rfl
  · rw [worth3, prefers_nil, prefers_nil]; rfl
  · rfl
  · rfl
theorem val_zero {k x y : Int} {L : List Int} {bk : Int} {ms : List Int} {c : Int} (h : valErr k x y L bk ms c = 0) : checkA k x y L c = 0 ∧ bcheckS bk ms c = 0 ∧ bk = kindA k := by
  unfold valErr at h
  split at h
  · rename_i h1; exact absurd h h1
  · rename_i h1
    split at h
    · cases h
    · rename_i h2; refine ⟨by omega, by omega, by omega⟩
theorem tailA_swap {k x y : Int} {L : List Int} (hk : k ≠ 5) : tailA k y x L = tailA k x y L := by
  unfold tailA
  have e : decide (y ≠ x) = decide (x ≠ y) := by rw [decide_eq_decide]; exact ⟨fun h e => h e.symm, fun h e => h e.symm⟩
  split
  · rw [e]
  · split
    · rw [e]; cases decide (x ≠ y) <;> cases inL L x <;> cases inL L y <;> rfl
    · rfl
theorem checkA_swap {k x y : Int} {L : List Int} {c : Int} (hk : k ≠ 5) : checkA k y x L c = checkA k x y L c := by
  have : fineA k y x L c = fineA k x y L c := by
    unfold fineA
    rw [tailA_swap hk]
    cases inR 0 c x <;> cases inR 0 c y <;> rfl
  unfold checkA
  rw [this]
theorem valErr_swap {k x y : Int} {L : List Int} {bk : Int} {ms : List Int} {c : Int} (hk : k ≠ 5) : valErr k y x L bk ms c = valErr k x y L bk ms c := by unfold valErr; rw [checkA_swap hk]

set_option maxRecDepth 100000 in
set_option maxHeartbeats 4000000 in
theorem assertSwap_any (k x y : Int) (A : Option Addr) (n cp : Nat) (L : List Int) (bk : Int) (Am : Option Addr) (nm cm : Nat) (ms : List Int) (c : Int) (w : World) (h : RInts w A n cp L) (hm : RInts w Am nm cm ms) :
    Calls Try.prog 5 #[.agg #[.int .u8 k, .int .i64 x, .int .i64 y, .slice A n cp], .agg #[.int .u8 bk, .slice Am nm cm], .int .i64 c] w fun e w' => e = .returned (.bool true) ∧ Below w.heap.size w w' := by
  have Hl := hide h.len
  have Hm := hide hm.len
  have hb0 : Below w.heap.size w (w.alloc (.cells #[.int .u8 k, .int .i64 x, .int .i64 y, .slice A n cp] 24)) := below_allocN
  have hP := Has.new w 24 #[.int .u8 k, .int .i64 x, .int .i64 y, .slice A n cp]
  have hb1 : Below (w.alloc (.cells #[.int .u8 k, .int .i64 x, .int .i64 y, .slice A n cp] 24)).heap.size (w.alloc (.cells #[.int .u8 k, .int .i64 x, .int .i64 y, .slice A n cp] 24)) ((w.alloc (.cells #[.int .u8 k, .int .i64 x, .int .i64 y, .slice A n cp] 24)).alloc (.cells #[.int .u8 bk, .slice Am nm cm] 26)) := below_allocN
  have hQ := Has.new (w.alloc (.cells #[.int .u8 k, .int .i64 x, .int .i64 y, .slice A n cp] 24)) 26 #[.int .u8 bk, .slice Am nm cm]
  have hP1 := hP.below hb1 hP.lt
  have hb := Below_trans' hb0 hb0.size hb1
  clear hb0 hb1 hP
  rw [World.size_alloc] at hQ
  go_enter Try.func5, Try.ntmps5
  go_upto_region 1 with fail
  generalize World.alloc (World.alloc w _) _ = W0 at hb hP1 hQ ⊢
  have p0 := hP1.cell 0
  have p1 := hP1.cell 1
  have p2 := hP1.cell 2
  have p3 := hP1.cell 3
  have hG := great41_any k x y A n cp L none 0 0 [] none 0 0 [] none 0 0 W0 (h.below hb) (RInts.nil_ _) (RAgg.nil_ _ _ _)
  rw [great41_none, Hl.out] at hG
  cases hg : decide (40 < n) with
  | true =>
    rw [hg] at hG
    clear hg
    go_wp2_with fail
    refine hG.mono ?_
    rintro e w1 ⟨rfl, hb1⟩
    have hbb := Below_trans' hb hb.size hb1
    go_wp2_with fail
    refine (examples41_any _).mono ?_
    rintro e w9 ⟨rfl, hb9⟩
    go_wp2
    go_ret
    exact ⟨rfl, Below_trans' hbb (hbb).size hb9⟩
  | false =>
    rw [hg] at hG
    clear hg
    go_wp2_with fail
    refine hG.mono ?_
    rintro e w1 ⟨rfl, hb1⟩
    have hw1 := Below_trans' hb hb.size hb1
    have hP2 := hP1.below hb1 hP1.lt
    have hQ2 := hQ.below hb1 hQ.lt
    clear p0 p1 p2 p3 hG
    have p0 := hP2.cell 0
    have p1 := hP2.cell 1
    have p2 := hP2.cell 2
    have p3 := hP2.cell 3
    have q0 := hQ2.cell 0
    have q1 := hQ2.cell 1
    have hB := bgr41_any bk Am nm cm ms w1 (hm.below hw1)
    cases hg2 : bgr41 ms with
    | true =>
      rw [hg2] at hB
      clear hg2
      go_wp2_with fail
      refine hB.mono ?_
      rintro e w2 ⟨rfl, hb2⟩
      have hbb := Below_trans' hw1 hw1.size hb2
      go_wp2_with fail
      refine (examples41_any _).mono ?_
      rintro e w9 ⟨rfl, hb9⟩
      go_wp2
      go_ret
      exact ⟨rfl, Below_trans' hbb (hbb).size hb9⟩
    | false =>
      rw [hg2] at hB
      clear hg2
      go_upto_region 3 with (go_at_call 17; refine hB.mono ?_; rintro e w2 ⟨rfl, hb2⟩)
      have hw2 := Below_trans' hw1 hw1.size hb2
      have hP3 := hP2.below hb2 hP2.lt
      have hQ3 := hQ2.below hb2 hQ2.lt
      clear p0 p1 p2 p3 q0 q1 hB
      have p0 := hP3.cell 0
      have p1 := hP3.cell 1
      have p2 := hP3.cell 2
      have p3 := hP3.cell 3
      have q0 := hQ3.cell 0
      have q1 := hQ3.cell 1
      have hV := value_any k x y A n cp L bk Am nm cm ms c w2 (h.below hw2) (hm.below hw2)
      by_cases he : valErr k x y L bk ms c = 0
      · have hval : valueA k x y L bk ms c = worthA k x y L ms := by unfold valueA; rw [if_pos he]
        rw [he, hval] at hV
        obtain ⟨z1, z2, z3⟩ := val_zero he
        have HF := hide (fine_of (check_zero z1).2)
        have hbd := worthA_bd k x y L ms
        have He := hide he
        have hbl : Hid (nm = 0 → worthA k x y L ms = 1) := fun e => by
          have : ms = [] := List.eq_nil_of_length_eq_zero (by rw [Hm.out]; exact e)
          rw [this]; exact worthA_blank HF.out.k5
        have hsw : Hid (k ≠ 5 → worthA k y x L ms = 2 - worthA k x y L ms) := fun e => worthA_swap e HF.out.k5
        clear z1 z2 z3 he hval
        generalize worthA k x y L ms = v at *
        have b1 : ¬ v < 0 := by omega
        have b2 : ¬ 2 < v := by omega
        have b3 : nm = 0 ∨ nm ≠ 0 := by omega
        have b4 : Hid (nm = 0 → (v != 1) = false) := fun e => by rw [hbl.out e]; rfl
        go_wp2_with fail
        refine hV.mono ?_
        rintro e w3 ⟨rfl, hb3⟩
        have hw3 := Below_trans' hw2 hw2.size hb3
        have hP4 := hP3.below hb3 hP3.lt
        have hQ4 := hQ3.below hb3 hQ3.lt
        clear p0 p1 p2 p3 q0 q1 hV
        have p0 := hP4.cell 0
        have p1 := hP4.cell 1
        have p2 := hP4.cell 2
        have p3 := hP4.cell 3
        have q0 := hQ4.cell 0
        have q1 := hQ4.cell 1
        by_cases hk5 : k = 5
        · have b5 : (k == 5) = true := by simp [hk5]
          clear hk5
          rcases b3 with h0 | h0
          · have b6 : ((nm : Int) == 0) = true := by simp [h0]
            have b7 := b4.out h0
            clear h0
            go_wp2_with fail
            refine (examples41_any _).mono ?_
            rintro e w9 ⟨rfl, hb9⟩
            go_wp2
            go_ret
            exact ⟨rfl, Below_trans' hw3 (hw3).size hb9⟩
          · have b6 : ((nm : Int) == 0) = false := by simp [h0]
            clear h0
            go_wp2_with fail
            refine (examples41_any _).mono ?_
            rintro e w9 ⟨rfl, hb9⟩
            go_wp2
            go_ret
            exact ⟨rfl, Below_trans' hw3 (hw3).size hb9⟩
        · have b5 : (k == 5) = false := by simp [hk5]
          have Hk5 := hide hk5
          clear hk5
          have hO := Has.new w3 24 #[.int .u8 k, .int .i64 x, .int .i64 y, .slice A n cp]
          have hb4' : Below w3.heap.size w3 (w3.alloc (.cells #[.int .u8 k, .int .i64 x, .int .i64 y, .slice A n cp] 24)) := below_allocN
          rcases b3 with h0 | h0
          · have b6 : ((nm : Int) == 0) = true := by simp [h0]
            have b7 := b4.out h0
            clear h0
            go_upto_region 11 with fail
            clear p0 p1 p2 p3 q0 q1
            generalize World.alloc w3 _ = w4 at hO hb4' ⊢
            have hP5 := hP4.below hb4' hP4.lt
            have hw4 := Below_trans' hw3 hw3.size hb4'
            have p1 := hP5.cell 1
            have p2 := hP5.cell 2
            have hO1 := hO.drew
            have d1 := hO1.cell 1
            have d2 := hO1.cell 2
            have f1 := hO1.free 1
            have f2 := hO1.free 2
            have hne : w.heap.size < w3.heap.size := hP4.lt
            refine wp_region_flowz [0, 1, 2, 3, 4] [0, 1, 2, 3, 4] (fun w' => ∃ q, w' = Alt w4 [w.heap.size] q) (by kernel_rfl) (by kernel_rfl) (altC_drew _ _) ?_
            simp only [pickOps, List.getElem?_cons_zero, List.getElem?_cons_succ]
            repeat (go_big_quiet_step (fail))
            refine wpQuiet_nil ?_
            clear p1 p2
            refine flow_one 5 (by kernel_rfl) rfl ?_
            go_wp2
            have hF1 : Frame' (fun b => b = w3.heap.size) w4 ((w4.setCell ⟨w3.heap.size, 1, none⟩ (.int .i64 y)).drew) := ((Frame'.refl (fun b => b = w3.heap.size) w4).setCell (p := ⟨w3.heap.size, 1, none⟩) (.inl rfl) (.int .i64 y)).trans (Frame'.of_below (Below.refl _ _).drew)
            refine FlowPost.mk ⟨altC_frame hF1 (fun b hb => by simp at hb; subst hb; exact ⟨hP5.lt, by omega⟩), ?_⟩
            refine flow_rest [6, 7] (by kernel_rfl) ?_
            simp only [pickOps]
            have hO2 : Has (((w4.setCell ⟨w3.heap.size, 1, none⟩ (.int .i64 y)).setCell ⟨w3.heap.size, 2, none⟩ (.int .i64 x)).drew) w3.heap.size 24 #[.int .u8 k, .int .i64 y, .int .i64 x, .slice A n cp] := ((hO.put 1 _).put 2 _).drew
            have hF2 : Frame' (fun b => b = w3.heap.size) w4 (((w4.setCell ⟨w3.heap.size, 1, none⟩ (.int .i64 y)).setCell ⟨w3.heap.size, 2, none⟩ (.int .i64 x)).drew) := (((Frame'.refl (fun b => b = w3.heap.size) w4).setCell (p := ⟨w3.heap.size, 1, none⟩) (.inl rfl) (.int .i64 y)).setCell (p := ⟨w3.heap.size, 2, none⟩) (.inl rfl) (.int .i64 x)).trans (Frame'.of_below (Below.refl _ _).drew)
            have f22 := hO.free 2
            have d22 := hO.cell 2
            go_upto_region 12 with fail
            clear f22 d22
            generalize World.drew (World.setCell (World.setCell w4 _ _) _ _) = w5 at hO2 hF2 ⊢
            have hw5 := Frame'.below hw4 hF2 (fun b e => by subst e; exact hw3.size) hw4.size
            have hQ5 := hF2.has (hQ4.below hb4' hQ4.lt) (by have := hQ4.lt; omega)
            clear d1 d2 f1 f2 hF1
            have o0 := hO2.cell 0
            have o1 := hO2.cell 1
            have o2 := hO2.cell 2
            have o3 := hO2.cell 3
            have q0 := hQ5.cell 0
            have q1 := hQ5.cell 1
            have hV2 := value_any k y x A n cp L bk Am nm cm ms c w5 (h.below hw5) (hm.below hw5)
            have hval2 : valueA k y x L bk ms c = 2 - v := by unfold valueA; rw [valErr_swap Hk5.out, if_pos He.out]; exact hsw.out Hk5.out
            rw [valErr_swap Hk5.out, He.out, hval2] at hV2
            clear hval2
            go_wp2_with fail
            refine hV2.mono ?_
            rintro e w6 ⟨rfl, hb6⟩
            have hw6 := Below_trans' hw5 hw5.size hb6
            clear o0 o1 o2 o3 q0 q1
            go_wp2_with fail
            refine (examples41_any _).mono ?_
            rintro e w9 ⟨rfl, hb9⟩
            go_wp2
            go_ret
            exact ⟨rfl, Below_trans' hw6 (hw6).size hb9⟩
          · have b6 : ((nm : Int) == 0) = false := by simp [h0]
            clear h0
            go_upto_region 11 with fail
            clear p0 p1 p2 p3 q0 q1
            generalize World.alloc w3 _ = w4 at hO hb4' ⊢
            have hP5 := hP4.below hb4' hP4.lt
            have hw4 := Below_trans' hw3 hw3.size hb4'
            have p1 := hP5.cell 1
            have p2 := hP5.cell 2
            have hO1 := hO.drew
            have d1 := hO1.cell 1
            have d2 := hO1.cell 2
            have f1 := hO1.free 1
            have f2 := hO1.free 2
            have hne : w.heap.size < w3.heap.size := hP4.lt
            refine wp_region_flowz [0, 1, 2, 3, 4] [0, 1, 2, 3, 4] (fun w' => ∃ q, w' = Alt w4 [w.heap.size] q) (by kernel_rfl) (by kernel_rfl) (altC_drew _ _) ?_
            simp only [pickOps, List.getElem?_cons_zero, List.getElem?_cons_succ]
            repeat (go_big_quiet_step (fail))
            refine wpQuiet_nil ?_
            clear p1 p2
            refine flow_one 5 (by kernel_rfl) rfl ?_
            go_wp2
            have hF1 : Frame' (fun b => b = w3.heap.size) w4 ((w4.setCell ⟨w3.heap.size, 1, none⟩ (.int .i64 y)).drew) := ((Frame'.refl (fun b => b = w3.heap.size) w4).setCell (p := ⟨w3.heap.size, 1, none⟩) (.inl rfl) (.int .i64 y)).trans (Frame'.of_below (Below.refl _ _).drew)
            refine FlowPost.mk ⟨altC_frame hF1 (fun b hb => by simp at hb; subst hb; exact ⟨hP5.lt, by omega⟩), ?_⟩
            refine flow_rest [6, 7] (by kernel_rfl) ?_
            simp only [pickOps]
            have hO2 : Has (((w4.setCell ⟨w3.heap.size, 1, none⟩ (.int .i64 y)).setCell ⟨w3.heap.size, 2, none⟩ (.int .i64 x)).drew) w3.heap.size 24 #[.int .u8 k, .int .i64 y, .int .i64 x, .slice A n cp] := ((hO.put 1 _).put 2 _).drew
            have hF2 : Frame' (fun b => b = w3.heap.size) w4 (((w4.setCell ⟨w3.heap.size, 1, none⟩ (.int .i64 y)).setCell ⟨w3.heap.size, 2, none⟩ (.int .i64 x)).drew) := (((Frame'.refl (fun b => b = w3.heap.size) w4).setCell (p := ⟨w3.heap.size, 1, none⟩) (.inl rfl) (.int .i64 y)).setCell (p := ⟨w3.heap.size, 2, none⟩) (.inl rfl) (.int .i64 x)).trans (Frame'.of_below (Below.refl _ _).drew)
            have f22 := hO.free 2
            have d22 := hO.cell 2
            go_upto_region 12 with fail
            clear f22 d22
            generalize World.drew (World.setCell (World.setCell w4 _ _) _ _) = w5 at hO2 hF2 ⊢
            have hw5 := Frame'.below hw4 hF2 (fun b e => by subst e; exact hw3.size) hw4.size
            have hQ5 := hF2.has (hQ4.below hb4' hQ4.lt) (by have := hQ4.lt; omega)
            clear d1 d2 f1 f2 hF1
            have o0 := hO2.cell 0
            have o1 := hO2.cell 1
            have o2 := hO2.cell 2
            have o3 := hO2.cell 3
            have q0 := hQ5.cell 0
            have q1 := hQ5.cell 1
            have hV2 := value_any k y x A n cp L bk Am nm cm ms c w5 (h.below hw5) (hm.below hw5)
            have hval2 : valueA k y x L bk ms c = 2 - v := by unfold valueA; rw [valErr_swap Hk5.out, if_pos He.out]; exact hsw.out Hk5.out
            rw [valErr_swap Hk5.out, He.out, hval2] at hV2
            clear hval2
            go_wp2_with fail
            refine hV2.mono ?_
            rintro e w6 ⟨rfl, hb6⟩
            have hw6 := Below_trans' hw5 hw5.size hb6
            clear o0 o1 o2 o3 q0 q1
            go_wp2_with fail
            refine (examples41_any _).mono ?_
            rintro e w9 ⟨rfl, hb9⟩
            go_wp2
            go_ret
            exact ⟨rfl, Below_trans' hw6 (hw6).size hb9⟩
      · have hval : valueA k x y L bk ms c = 0 := by unfold valueA; rw [if_neg he]
        rw [hval] at hV
        have b1 : (valErr k x y L bk ms c != 0) = true := by simp [he]
        generalize valErr k x y L bk ms c = E at *
        clear he hval
        go_wp2_with fail
        refine hV.mono ?_
        rintro e w3 ⟨rfl, hb3⟩
        have hw3 := Below_trans' hw2 hw2.size hb3
        go_wp2_with fail
        refine (examples41_any _).mono ?_
        rintro e w9 ⟨rfl, hb9⟩
        go_wp2
        go_ret
        exact ⟨rfl, Below_trans' hw3 (hw3).size hb9⟩
end Go.Proofs.Ytkmcgpaoekphmaa
