/-
  The layer profile: of, New, Check.
-/
import Derived.Test.YtleniljhacnikaaGreatW9a
import Derived.Deep.Cut
namespace Go.Proofs.YtleniljhacnikaaGreat
open Go.RowKit Go.Proofs
attribute [local go_sem] cell?_more cell?_alloc_some cell?_setCell_far frozen?_alloc_some frozen?_more

theorem of_any (c k : Int) (A : Option Addr) (n cp : Nat) (Am : Option Addr) (nm cm : Nat) (y : Int) (w : World) :
    Calls Tryz.prog 50 #[.agg #[.int .i64 c, .int .u8 k, .slice A n cp], .agg #[.slice Am nm cm, .int .i64 y]] w fun e w' => e = .returned (.agg #[.int .u8 k, .slice Am nm cm]) ∧ Below w.heap.size w w' := by
  go_enter Tryz.func50, Tryz.ntmps50
  go_wp2
  exact bodyPost_ret (v := .agg #[.int .u8 k, .slice Am nm cm]) (by simp [results, Tryz.results50, go_sem]) rfl ⟨rfl, ((((Below.refl _ _).alloc (Nat.le_refl _) _).alloc (by simp) _).alloc (by simp; omega) _)⟩

/-- What New hands back. -/
def newV (c k : Int) : Value := if newErr c k = 0 then .agg #[.int .i64 c, .int .u8 k, .slice none 0 0] else .agg #[.int .i64 0, .int .u8 0, .slice none 0 0]

theorem new_any (c k : Int) (w : World) :
    Calls Tryz.prog 16 #[.int .i64 c, .int .u8 k] w fun e w' => e = .returned (.tuple #[newV c k, .int .i64 (newErr c k)]) ∧ Below w.heap.size w w' := by
  have hb := ((Below.refl w.heap.size w).alloc (Nat.le_refl _) (.cells #[.int .i64 0, .int .u8 0, .slice none 0 0] 24))
  by_cases h : newErr c k = 0
  · have h' := h
    unfold newErr at h'
    have h1 : ¬ (c < 1) := by intro hh; rw [if_pos (by omega)] at h'; cases h'
    have h2 : ¬ (10 < c) := by intro hh; rw [if_pos (by omega)] at h'; cases h'
    have h3 : ¬ (k < 1) := by intro hh; rw [if_pos (by omega)] at h'; cases h'
    have h4 : ¬ (3 < k) := by intro hh; rw [if_pos (by omega)] at h'; cases h'
    have H := hide h
    clear h h'
    go_enter Tryz.func16, Tryz.ntmps16
    go_wp2
    refine bodyPost_ret (v := .tuple #[.agg #[.int .i64 c, .int .u8 k, .slice none 0 0], .int .i64 0]) (by simp [results, Tryz.results16, go_sem]) rfl ⟨by unfold newV; rw [if_pos H.out, H.out], ?_⟩
    exact (Below.refl _ _).alloc (Nat.le_refl _) _
  · have H := hide h
    have hc := newErr_bad.1 h
    clear h
    have he : Hid (newErr c k = 2) := by unfold Hid newErr; rw [if_pos hc]
    by_cases h1 : c < 1
    · clear hc
      go_enter Tryz.func16, Tryz.ntmps16
      go_wp2
      refine bodyPost_ret (v := .tuple #[.agg #[.int .i64 0, .int .u8 0, .slice none 0 0], .int .i64 2]) (by simp [results, Tryz.results16, go_sem]) rfl ⟨by unfold newV; rw [if_neg H.out, he.out], ?_⟩
      exact (Below.refl _ _).alloc (Nat.le_refl _) _
    by_cases h2 : 10 < c
    · clear hc
      go_enter Tryz.func16, Tryz.ntmps16
      go_wp2
      refine bodyPost_ret (v := .tuple #[.agg #[.int .i64 0, .int .u8 0, .slice none 0 0], .int .i64 2]) (by simp [results, Tryz.results16, go_sem]) rfl ⟨by unfold newV; rw [if_neg H.out, he.out], ?_⟩
      exact (Below.refl _ _).alloc (Nat.le_refl _) _
    by_cases h3 : k < 1
    · clear hc
      go_enter Tryz.func16, Tryz.ntmps16
      go_wp2
      refine bodyPost_ret (v := .tuple #[.agg #[.int .i64 0, .int .u8 0, .slice none 0 0], .int .i64 2]) (by simp [results, Tryz.results16, go_sem]) rfl ⟨by unfold newV; rw [if_neg H.out, he.out], ?_⟩
      exact (Below.refl _ _).alloc (Nat.le_refl _) _
    have h4 : 3 < k := by omega
    clear hc
    go_enter Tryz.func16, Tryz.ntmps16
    go_wp2
    refine bodyPost_ret (v := .tuple #[.agg #[.int .i64 0, .int .u8 0, .slice none 0 0], .int .i64 2]) (by simp [results, Tryz.results16, go_sem]) rfl ⟨by unfold newV; rw [if_neg H.out, he.out], ?_⟩
    exact (Below.refl _ _).alloc (Nat.le_refl _) _

theorem rnew_any (c k : Int) (w : World) :
    Calls Tryz.prog 34 #[.int .i64 c, .int .u8 k] w fun e w' => e = .returned (.tuple #[newV c k, .int .i64 (newErr c k)]) ∧ Below w.heap.size w w' := by
  have hb := ((Below.refl w.heap.size w).alloc (Nat.le_refl _) (.cells #[.int .i64 0, .int .u8 0, .slice none 0 0] 24))
  by_cases h : newErr c k = 0
  · have h' := h
    unfold newErr at h'
    have h1 : ¬ (c < 1) := by intro hh; rw [if_pos (by omega)] at h'; cases h'
    have h2 : ¬ (10 < c) := by intro hh; rw [if_pos (by omega)] at h'; cases h'
    have h3 : ¬ (k < 1) := by intro hh; rw [if_pos (by omega)] at h'; cases h'
    have h4 : ¬ (3 < k) := by intro hh; rw [if_pos (by omega)] at h'; cases h'
    have H := hide h
    clear h h'
    go_enter Tryz.func34, Tryz.ntmps34
    go_wp2
    refine bodyPost_ret (v := .tuple #[.agg #[.int .i64 c, .int .u8 k, .slice none 0 0], .int .i64 0]) (by simp [results, Tryz.results34, go_sem]) rfl ⟨by unfold newV; rw [if_pos H.out, H.out], ?_⟩
    exact (Below.refl _ _).alloc (Nat.le_refl _) _
  · have H := hide h
    have hc := newErr_bad.1 h
    clear h
    have he : Hid (newErr c k = 2) := by unfold Hid newErr; rw [if_pos hc]
    by_cases h1 : c < 1
    · clear hc
      go_enter Tryz.func34, Tryz.ntmps34
      go_wp2
      refine bodyPost_ret (v := .tuple #[.agg #[.int .i64 0, .int .u8 0, .slice none 0 0], .int .i64 2]) (by simp [results, Tryz.results34, go_sem]) rfl ⟨by unfold newV; rw [if_neg H.out, he.out], ?_⟩
      exact (Below.refl _ _).alloc (Nat.le_refl _) _
    by_cases h2 : 10 < c
    · clear hc
      go_enter Tryz.func34, Tryz.ntmps34
      go_wp2
      refine bodyPost_ret (v := .tuple #[.agg #[.int .i64 0, .int .u8 0, .slice none 0 0], .int .i64 2]) (by simp [results, Tryz.results34, go_sem]) rfl ⟨by unfold newV; rw [if_neg H.out, he.out], ?_⟩
      exact (Below.refl _ _).alloc (Nat.le_refl _) _
    by_cases h3 : k < 1
    · clear hc
      go_enter Tryz.func34, Tryz.ntmps34
      go_wp2
      refine bodyPost_ret (v := .tuple #[.agg #[.int .i64 0, .int .u8 0, .slice none 0 0], .int .i64 2]) (by simp [results, Tryz.results34, go_sem]) rfl ⟨by unfold newV; rw [if_neg H.out, he.out], ?_⟩
      exact (Below.refl _ _).alloc (Nat.le_refl _) _
    have h4 : 3 < k := by omega
    clear hc
    go_enter Tryz.func34, Tryz.ntmps34
    go_wp2
    refine bodyPost_ret (v := .tuple #[.agg #[.int .i64 0, .int .u8 0, .slice none 0 0], .int .i64 2]) (by simp [results, Tryz.results34, go_sem]) rfl ⟨by unfold newV; rw [if_neg H.out, he.out], ?_⟩
    exact (Below.refl _ _).alloc (Nat.le_refl _) _

/-- What holds before the predicate of Check is asked of row i: the blocks of the profile, of the sum, of 'first'. -/
def CInv (w : World) (g : Nat) (c k : Int) (A : Option Addr) (n cp : Nat) (l : List Row) (i : Nat) (W : World) : Prop :=
  Below g w W ∧ Has W g 24 #[.int .i64 c, .int .u8 k, .slice A n cp] ∧ Has W (g + 1) 3 #[.int .i64 (capS l i)] ∧ Has W (g + 2) 4 #[.bool (decide (i = 0))] ∧
    (∀ j, j < i → 0 < (l.getD j ([], 0)).2)
def CFin (w : World) (g : Nat) (c k : Int) (A : Option Addr) (n cp : Nat) (W : World) : Prop :=
  Below g w W ∧ Has W g 24 #[.int .i64 c, .int .u8 k, .slice A n cp]

set_option maxHeartbeats 1000000 in
theorem check1_any (w : World) (c k : Int) (A : Option Addr) (n cp : Nat) (l : List Row) (i : Nat) (W : World) (Am : Option Addr) (nm cm : Nat) (Al : Option Addr) (nl cl : Nat) (ms ml : List Int) (y yl : Int)
    (hln : l.length = n) (hi : i < n) (hI : CInv w w.heap.size c k A n cp l i W) (hl : l[i - 1]? = some (ml, yl)) (hm : l[i]? = some (ms, y)) (hy : -9223372036854775808 ≤ y ∧ y ≤ 9223372036854775807)
    (hr0 : RInts w Al nl cl ml) (hr0' : RInts w Am nm cm ms) :
    Calls Tryz.prog 47 (#[.agg #[.slice Al nl cl, .int .i64 yl], .agg #[.slice Am nm cm, .int .i64 y]] ++ #[.pointer (some ⟨w.heap.size + 2, 0, none⟩), .pointer (some ⟨w.heap.size + 1, 0, none⟩), .pointer (some ⟨w.heap.size, 0, none⟩)]) W
      (OnePost i (rowOK c k l) (CInv w w.heap.size c k A n cp l) (CFin w w.heap.size c k A n cp)) := by
  obtain ⟨hb, hP, hS, hF, hpos⟩ := hI
  have hr := hr0.below hb
  have hr' := hr0'.below hb
  have p0 : W.cell? ⟨w.heap.size, 0, none⟩ = some (.int .i64 c) := hP.cell 0
  have p1 : W.cell? ⟨w.heap.size, 1, none⟩ = some (.int .u8 k) := hP.cell 1
  have p2 : W.cell? ⟨w.heap.size, 2, none⟩ = some (.slice A n cp) := hP.cell 2
  have s0 : W.cell? ⟨w.heap.size + 1, 0, none⟩ = some (.int .i64 (capS l i)) := hS.cell 0
  have f0 : W.cell? ⟨w.heap.size + 2, 0, none⟩ = some (.bool (decide (i = 0))) := hF.cell 0
  have fs := hS.free 0
  have ff := hF.free 0
  have hlt := hF.lt
  have hq1 : w.heap.size + 1 < W.heap.size := by omega
  have hq0 : w.heap.size < W.heap.size := by omega
  have hln' : i < l.length := by omega
  have hT := totS_nn (n := i) hpos (by omega)
  have hcap := capS_bd hT
  have hnext := hide (fun (h0 : 0 < y) => @capS_next l i (ms, y) hm h0 hT)
  have hrow := hide (rowOK_eq (c := c) (k := k) hl hm)
  have hpos' := hide hpos
  have hm' := hide hm
  generalize hSS : capS l i = S at *
  clear hSS hpos hT hm hl hln'
  by_cases hi0 : i = 0
  · have f0' : W.cell? ⟨w.heap.size + 2, 0, none⟩ = some (.bool true) := by rw [f0, hi0]; rfl
    have Hi0 := hide hi0
    have hfst : Hid ((decide (i = 0) || decide (cmpL ml ms < 0)) = true) := by unfold Hid; rw [hi0]; simp
    clear f0 hi0
    go_enter Tryz.func47, Tryz.ntmps47
    go_upto_region 3 with (fail)
    generalize hW1 : World.alloc _ _ = W1
    have hb1 : Below W.heap.size W W1 := by rw [← hW1]; exact ((Below.refl _ _).alloc (Nat.le_refl _) _).alloc (by simp) _
    have hR1 : Has W1 (W.heap.size + 1) 47 #[.slice Am nm cm, .int .i64 y] := by rw [← hW1]; exact Has.new2 _ _ _ _
    clear hW1
    have hP1 := hP.below hb1 hq0
    have hS1 := hS.below hb1 hq1
    have hF1 := hF.below hb1 hlt
    have hr1 := hr'.below hb1
    have hbb1 := Below_trans' hb hb.size hb1
    have hz1 := hb1.size
    have s1 : W1.cell? ⟨w.heap.size + 1, 0, none⟩ = some (.int .i64 S) := hS1.cell 0
    have f1 := hF1.cell 0
    have t0 : W1.cell? ⟨W.heap.size + 1, 0, none⟩ = some (.slice Am nm cm) := hR1.cell 0
    have t1 : W1.cell? ⟨W.heap.size + 1, 1, none⟩ = some (.int .i64 y) := hR1.cell 1
    have fs1 := hS1.free 0
    have ff1 := hF1.free 0
    have ne1 : W.heap.size + 1 ≠ w.heap.size + 2 := by omega
    have ne2 : W.heap.size + 1 ≠ w.heap.size + 1 := by omega
    clear p0 p1 p2 s0 fs ff
    by_cases y0 : 0 < y
    · by_cases c1 : 1000001 < y
      · by_cases c2 : 1000001 < S + 1000001
        · go_upto_region 5 with (fail)
          generalize hW2 : World.setCell _ _ _ = W2
          have hP2 : Has W2 w.heap.size 24 #[.int .i64 c, .int .u8 k, .slice A n cp] := by
            rw [← hW2]; exact (hP1.far (by show w.heap.size ≠ w.heap.size + 2; omega) _).far (by show w.heap.size ≠ w.heap.size + 1; omega) _
          have hS2 : Has W2 (w.heap.size + 1) 3 #[.int .i64 1000001] := by
            rw [← hW2]; exact (hS1.far (by show w.heap.size + 1 ≠ w.heap.size + 2; omega) _).put 0 _
          have hF2 : Has W2 (w.heap.size + 2) 4 #[.bool false] := by
            rw [← hW2]; exact (hF1.put 0 _).far (by show w.heap.size + 2 ≠ w.heap.size + 1; omega) _
          have hR2 : Has W2 (W.heap.size + 1) 47 #[.slice Am nm cm, .int .i64 y] := by
            rw [← hW2]; exact (hR1.far ne1 _).far ne2 _
          have hbb2 : Below w.heap.size w W2 := by
            rw [← hW2]; exact (hbb1.setCell (by show w.heap.size ≤ w.heap.size + 2; omega) _).setCell (by show w.heap.size ≤ w.heap.size + 1; omega) _
          clear hW2
          have hr2 := hr0'.below hbb2
          have p0 : W2.cell? ⟨w.heap.size, 0, none⟩ = some (.int .i64 c) := hP2.cell 0
          have p1 : W2.cell? ⟨w.heap.size, 1, none⟩ = some (.int .u8 k) := hP2.cell 1
          have p2 : W2.cell? ⟨w.heap.size, 2, none⟩ = some (.slice A n cp) := hP2.cell 2
          have t0 : W2.cell? ⟨W.heap.size + 1, 0, none⟩ = some (.slice Am nm cm) := hR2.cell 0
          have t1 : W2.cell? ⟨W.heap.size + 1, 1, none⟩ = some (.int .i64 y) := hR2.cell 1
          have g1 : decide (0 < y) = true := by simpa using y0
          by_cases hbc : bcheckS k ms c = 0
          · have g2 : (bcheckS k ms c == 0) = true := by simpa using hbc
            have Hbc := hide hbc
            clear hbc
            refine wp_region_more (by kernel_rfl) (by kernel_rfl) ?_
            repeat (go_big_quiet_step ((first | (go_at_call 50; exact more_of (of_any _ _ _ _ _ _ _ _ _ _)) | (go_at_call 49; exact more_of (bcheck_any _ _ _ _ ms _ _ (hr2.more _))))))
            refine wpQuiet_nil ?_
            rintro w3 ⟨qw3, hww3⟩
            have hbw3 := below_of_eq hww3
            clear hww3 qw3
            go_wp2
            go_ret
            have hro : rowOK c k l i = true := by rw [hrow.out, hfst.out, g1]; simp [Hbc.out]
            refine ⟨ret_b (by rw [hro]), fun _ => ⟨Below_trans' hbb2 hbb2.size hbw3, hP2.below hbw3 hP2.lt, ?_, ?_, ?_⟩, fun h => by rw [hro] at h; cases h⟩
            · rw [← hnext.out y0 (v := 1000001) (by show 1000001 = if 1000001 < S + y then 1000001 else S + y; split <;> omega)]
              exact hS2.below hbw3 hS2.lt
            · exact hF2.below hbw3 hF2.lt
            · intro j hj
              by_cases ej : j = i
              · rw [ej, getD_of hm'.out]; exact y0
              · exact hpos'.out j (by omega)
          · have g2 : (bcheckS k ms c == 0) = false := by simpa using hbc
            have Hbc := hide hbc
            clear hbc
            refine wp_region_more (by kernel_rfl) (by kernel_rfl) ?_
            repeat (go_big_quiet_step ((first | (go_at_call 50; exact more_of (of_any _ _ _ _ _ _ _ _ _ _)) | (go_at_call 49; exact more_of (bcheck_any _ _ _ _ ms _ _ (hr2.more _))))))
            refine wpQuiet_nil ?_
            rintro w3 ⟨qw3, hww3⟩
            have hbw3 := below_of_eq hww3
            clear hww3 qw3
            go_wp2
            go_ret
            have hro : rowOK c k l i = false := by rw [hrow.out]; simp [Hbc.out]
            exact ⟨ret_b (by rw [hro]), (fun h => by rw [hro] at h; cases h), fun _ => ⟨Below_trans' hbb2 hbb2.size hbw3, hP2.below hbw3 hP2.lt⟩⟩
        · go_upto_region 5 with (fail)
          generalize hW2 : World.setCell _ _ _ = W2
          have hP2 : Has W2 w.heap.size 24 #[.int .i64 c, .int .u8 k, .slice A n cp] := by
            rw [← hW2]; exact (hP1.far (by show w.heap.size ≠ w.heap.size + 2; omega) _).far (by show w.heap.size ≠ w.heap.size + 1; omega) _
          have hS2 : Has W2 (w.heap.size + 1) 3 #[.int .i64 (S + 1000001)] := by
            rw [← hW2]; exact (hS1.far (by show w.heap.size + 1 ≠ w.heap.size + 2; omega) _).put 0 _
          have hF2 : Has W2 (w.heap.size + 2) 4 #[.bool false] := by
            rw [← hW2]; exact (hF1.put 0 _).far (by show w.heap.size + 2 ≠ w.heap.size + 1; omega) _
          have hR2 : Has W2 (W.heap.size + 1) 47 #[.slice Am nm cm, .int .i64 y] := by
            rw [← hW2]; exact (hR1.far ne1 _).far ne2 _
          have hbb2 : Below w.heap.size w W2 := by
            rw [← hW2]; exact (hbb1.setCell (by show w.heap.size ≤ w.heap.size + 2; omega) _).setCell (by show w.heap.size ≤ w.heap.size + 1; omega) _
          clear hW2
          have hr2 := hr0'.below hbb2
          have p0 : W2.cell? ⟨w.heap.size, 0, none⟩ = some (.int .i64 c) := hP2.cell 0
          have p1 : W2.cell? ⟨w.heap.size, 1, none⟩ = some (.int .u8 k) := hP2.cell 1
          have p2 : W2.cell? ⟨w.heap.size, 2, none⟩ = some (.slice A n cp) := hP2.cell 2
          have t0 : W2.cell? ⟨W.heap.size + 1, 0, none⟩ = some (.slice Am nm cm) := hR2.cell 0
          have t1 : W2.cell? ⟨W.heap.size + 1, 1, none⟩ = some (.int .i64 y) := hR2.cell 1
          have g1 : decide (0 < y) = true := by simpa using y0
          by_cases hbc : bcheckS k ms c = 0
          · have g2 : (bcheckS k ms c == 0) = true := by simpa using hbc
            have Hbc := hide hbc
            clear hbc
            refine wp_region_more (by kernel_rfl) (by kernel_rfl) ?_
            repeat (go_big_quiet_step ((first | (go_at_call 50; exact more_of (of_any _ _ _ _ _ _ _ _ _ _)) | (go_at_call 49; exact more_of (bcheck_any _ _ _ _ ms _ _ (hr2.more _))))))
            refine wpQuiet_nil ?_
            rintro w3 ⟨qw3, hww3⟩
            have hbw3 := below_of_eq hww3
            clear hww3 qw3
            go_wp2
            go_ret
            have hro : rowOK c k l i = true := by rw [hrow.out, hfst.out, g1]; simp [Hbc.out]
            refine ⟨ret_b (by rw [hro]), fun _ => ⟨Below_trans' hbb2 hbb2.size hbw3, hP2.below hbw3 hP2.lt, ?_, ?_, ?_⟩, fun h => by rw [hro] at h; cases h⟩
            · rw [← hnext.out y0 (v := (S + 1000001)) (by show (S + 1000001) = if 1000001 < S + y then 1000001 else S + y; split <;> omega)]
              exact hS2.below hbw3 hS2.lt
            · exact hF2.below hbw3 hF2.lt
            · intro j hj
              by_cases ej : j = i
              · rw [ej, getD_of hm'.out]; exact y0
              · exact hpos'.out j (by omega)
          · have g2 : (bcheckS k ms c == 0) = false := by simpa using hbc
            have Hbc := hide hbc
            clear hbc
            refine wp_region_more (by kernel_rfl) (by kernel_rfl) ?_
            repeat (go_big_quiet_step ((first | (go_at_call 50; exact more_of (of_any _ _ _ _ _ _ _ _ _ _)) | (go_at_call 49; exact more_of (bcheck_any _ _ _ _ ms _ _ (hr2.more _))))))
            refine wpQuiet_nil ?_
            rintro w3 ⟨qw3, hww3⟩
            have hbw3 := below_of_eq hww3
            clear hww3 qw3
            go_wp2
            go_ret
            have hro : rowOK c k l i = false := by rw [hrow.out]; simp [Hbc.out]
            exact ⟨ret_b (by rw [hro]), (fun h => by rw [hro] at h; cases h), fun _ => ⟨Below_trans' hbb2 hbb2.size hbw3, hP2.below hbw3 hP2.lt⟩⟩
      · by_cases c2 : 1000001 < S + y
        · go_upto_region 5 with (fail)
          generalize hW2 : World.setCell _ _ _ = W2
          have hP2 : Has W2 w.heap.size 24 #[.int .i64 c, .int .u8 k, .slice A n cp] := by
            rw [← hW2]; exact (hP1.far (by show w.heap.size ≠ w.heap.size + 2; omega) _).far (by show w.heap.size ≠ w.heap.size + 1; omega) _
          have hS2 : Has W2 (w.heap.size + 1) 3 #[.int .i64 1000001] := by
            rw [← hW2]; exact (hS1.far (by show w.heap.size + 1 ≠ w.heap.size + 2; omega) _).put 0 _
          have hF2 : Has W2 (w.heap.size + 2) 4 #[.bool false] := by
            rw [← hW2]; exact (hF1.put 0 _).far (by show w.heap.size + 2 ≠ w.heap.size + 1; omega) _
          have hR2 : Has W2 (W.heap.size + 1) 47 #[.slice Am nm cm, .int .i64 y] := by
            rw [← hW2]; exact (hR1.far ne1 _).far ne2 _
          have hbb2 : Below w.heap.size w W2 := by
            rw [← hW2]; exact (hbb1.setCell (by show w.heap.size ≤ w.heap.size + 2; omega) _).setCell (by show w.heap.size ≤ w.heap.size + 1; omega) _
          clear hW2
          have hr2 := hr0'.below hbb2
          have p0 : W2.cell? ⟨w.heap.size, 0, none⟩ = some (.int .i64 c) := hP2.cell 0
          have p1 : W2.cell? ⟨w.heap.size, 1, none⟩ = some (.int .u8 k) := hP2.cell 1
          have p2 : W2.cell? ⟨w.heap.size, 2, none⟩ = some (.slice A n cp) := hP2.cell 2
          have t0 : W2.cell? ⟨W.heap.size + 1, 0, none⟩ = some (.slice Am nm cm) := hR2.cell 0
          have t1 : W2.cell? ⟨W.heap.size + 1, 1, none⟩ = some (.int .i64 y) := hR2.cell 1
          have g1 : decide (0 < y) = true := by simpa using y0
          by_cases hbc : bcheckS k ms c = 0
          · have g2 : (bcheckS k ms c == 0) = true := by simpa using hbc
            have Hbc := hide hbc
            clear hbc
            refine wp_region_more (by kernel_rfl) (by kernel_rfl) ?_
            repeat (go_big_quiet_step ((first | (go_at_call 50; exact more_of (of_any _ _ _ _ _ _ _ _ _ _)) | (go_at_call 49; exact more_of (bcheck_any _ _ _ _ ms _ _ (hr2.more _))))))
            refine wpQuiet_nil ?_
            rintro w3 ⟨qw3, hww3⟩
            have hbw3 := below_of_eq hww3
            clear hww3 qw3
            go_wp2
            go_ret
            have hro : rowOK c k l i = true := by rw [hrow.out, hfst.out, g1]; simp [Hbc.out]
            refine ⟨ret_b (by rw [hro]), fun _ => ⟨Below_trans' hbb2 hbb2.size hbw3, hP2.below hbw3 hP2.lt, ?_, ?_, ?_⟩, fun h => by rw [hro] at h; cases h⟩
            · rw [← hnext.out y0 (v := 1000001) (by show 1000001 = if 1000001 < S + y then 1000001 else S + y; split <;> omega)]
              exact hS2.below hbw3 hS2.lt
            · exact hF2.below hbw3 hF2.lt
            · intro j hj
              by_cases ej : j = i
              · rw [ej, getD_of hm'.out]; exact y0
              · exact hpos'.out j (by omega)
          · have g2 : (bcheckS k ms c == 0) = false := by simpa using hbc
            have Hbc := hide hbc
            clear hbc
            refine wp_region_more (by kernel_rfl) (by kernel_rfl) ?_
            repeat (go_big_quiet_step ((first | (go_at_call 50; exact more_of (of_any _ _ _ _ _ _ _ _ _ _)) | (go_at_call 49; exact more_of (bcheck_any _ _ _ _ ms _ _ (hr2.more _))))))
            refine wpQuiet_nil ?_
            rintro w3 ⟨qw3, hww3⟩
            have hbw3 := below_of_eq hww3
            clear hww3 qw3
            go_wp2
            go_ret
            have hro : rowOK c k l i = false := by rw [hrow.out]; simp [Hbc.out]
            exact ⟨ret_b (by rw [hro]), (fun h => by rw [hro] at h; cases h), fun _ => ⟨Below_trans' hbb2 hbb2.size hbw3, hP2.below hbw3 hP2.lt⟩⟩
        · go_upto_region 5 with (fail)
          generalize hW2 : World.setCell _ _ _ = W2
          have hP2 : Has W2 w.heap.size 24 #[.int .i64 c, .int .u8 k, .slice A n cp] := by
            rw [← hW2]; exact (hP1.far (by show w.heap.size ≠ w.heap.size + 2; omega) _).far (by show w.heap.size ≠ w.heap.size + 1; omega) _
          have hS2 : Has W2 (w.heap.size + 1) 3 #[.int .i64 (S + y)] := by
            rw [← hW2]; exact (hS1.far (by show w.heap.size + 1 ≠ w.heap.size + 2; omega) _).put 0 _
          have hF2 : Has W2 (w.heap.size + 2) 4 #[.bool false] := by
            rw [← hW2]; exact (hF1.put 0 _).far (by show w.heap.size + 2 ≠ w.heap.size + 1; omega) _
          have hR2 : Has W2 (W.heap.size + 1) 47 #[.slice Am nm cm, .int .i64 y] := by
            rw [← hW2]; exact (hR1.far ne1 _).far ne2 _
          have hbb2 : Below w.heap.size w W2 := by
            rw [← hW2]; exact (hbb1.setCell (by show w.heap.size ≤ w.heap.size + 2; omega) _).setCell (by show w.heap.size ≤ w.heap.size + 1; omega) _
          clear hW2
          have hr2 := hr0'.below hbb2
          have p0 : W2.cell? ⟨w.heap.size, 0, none⟩ = some (.int .i64 c) := hP2.cell 0
          have p1 : W2.cell? ⟨w.heap.size, 1, none⟩ = some (.int .u8 k) := hP2.cell 1
          have p2 : W2.cell? ⟨w.heap.size, 2, none⟩ = some (.slice A n cp) := hP2.cell 2
          have t0 : W2.cell? ⟨W.heap.size + 1, 0, none⟩ = some (.slice Am nm cm) := hR2.cell 0
          have t1 : W2.cell? ⟨W.heap.size + 1, 1, none⟩ = some (.int .i64 y) := hR2.cell 1
          have g1 : decide (0 < y) = true := by simpa using y0
          by_cases hbc : bcheckS k ms c = 0
          · have g2 : (bcheckS k ms c == 0) = true := by simpa using hbc
            have Hbc := hide hbc
            clear hbc
            refine wp_region_more (by kernel_rfl) (by kernel_rfl) ?_
            repeat (go_big_quiet_step ((first | (go_at_call 50; exact more_of (of_any _ _ _ _ _ _ _ _ _ _)) | (go_at_call 49; exact more_of (bcheck_any _ _ _ _ ms _ _ (hr2.more _))))))
            refine wpQuiet_nil ?_
            rintro w3 ⟨qw3, hww3⟩
            have hbw3 := below_of_eq hww3
            clear hww3 qw3
            go_wp2
            go_ret
            have hro : rowOK c k l i = true := by rw [hrow.out, hfst.out, g1]; simp [Hbc.out]
            refine ⟨ret_b (by rw [hro]), fun _ => ⟨Below_trans' hbb2 hbb2.size hbw3, hP2.below hbw3 hP2.lt, ?_, ?_, ?_⟩, fun h => by rw [hro] at h; cases h⟩
            · rw [← hnext.out y0 (v := (S + y)) (by show (S + y) = if 1000001 < S + y then 1000001 else S + y; split <;> omega)]
              exact hS2.below hbw3 hS2.lt
            · exact hF2.below hbw3 hF2.lt
            · intro j hj
              by_cases ej : j = i
              · rw [ej, getD_of hm'.out]; exact y0
              · exact hpos'.out j (by omega)
          · have g2 : (bcheckS k ms c == 0) = false := by simpa using hbc
            have Hbc := hide hbc
            clear hbc
            refine wp_region_more (by kernel_rfl) (by kernel_rfl) ?_
            repeat (go_big_quiet_step ((first | (go_at_call 50; exact more_of (of_any _ _ _ _ _ _ _ _ _ _)) | (go_at_call 49; exact more_of (bcheck_any _ _ _ _ ms _ _ (hr2.more _))))))
            refine wpQuiet_nil ?_
            rintro w3 ⟨qw3, hww3⟩
            have hbw3 := below_of_eq hww3
            clear hww3 qw3
            go_wp2
            go_ret
            have hro : rowOK c k l i = false := by rw [hrow.out]; simp [Hbc.out]
            exact ⟨ret_b (by rw [hro]), (fun h => by rw [hro] at h; cases h), fun _ => ⟨Below_trans' hbb2 hbb2.size hbw3, hP2.below hbw3 hP2.lt⟩⟩
    · have c1 : ¬ 1000001 < y := by omega
      have c2 : ¬ 1000001 < S + y := by omega
      go_upto_region 5 with (fail)
      generalize hW2 : World.setCell _ _ _ = W2
      have hP2 : Has W2 w.heap.size 24 #[.int .i64 c, .int .u8 k, .slice A n cp] := by
        rw [← hW2]; exact (hP1.far (by show w.heap.size ≠ w.heap.size + 2; omega) _).far (by show w.heap.size ≠ w.heap.size + 1; omega) _
      have hS2 : Has W2 (w.heap.size + 1) 3 #[.int .i64 (S + y)] := by
        rw [← hW2]; exact (hS1.far (by show w.heap.size + 1 ≠ w.heap.size + 2; omega) _).put 0 _
      have hF2 : Has W2 (w.heap.size + 2) 4 #[.bool false] := by
        rw [← hW2]; exact (hF1.put 0 _).far (by show w.heap.size + 2 ≠ w.heap.size + 1; omega) _
      have hR2 : Has W2 (W.heap.size + 1) 47 #[.slice Am nm cm, .int .i64 y] := by
        rw [← hW2]; exact (hR1.far ne1 _).far ne2 _
      have hbb2 : Below w.heap.size w W2 := by
        rw [← hW2]; exact (hbb1.setCell (by show w.heap.size ≤ w.heap.size + 2; omega) _).setCell (by show w.heap.size ≤ w.heap.size + 1; omega) _
      clear hW2
      have hr2 := hr0'.below hbb2
      have p0 : W2.cell? ⟨w.heap.size, 0, none⟩ = some (.int .i64 c) := hP2.cell 0
      have p1 : W2.cell? ⟨w.heap.size, 1, none⟩ = some (.int .u8 k) := hP2.cell 1
      have p2 : W2.cell? ⟨w.heap.size, 2, none⟩ = some (.slice A n cp) := hP2.cell 2
      have t0 : W2.cell? ⟨W.heap.size + 1, 0, none⟩ = some (.slice Am nm cm) := hR2.cell 0
      have t1 : W2.cell? ⟨W.heap.size + 1, 1, none⟩ = some (.int .i64 y) := hR2.cell 1
      have g1 : decide (0 < y) = false := by simpa using y0
      refine wp_region_more (by kernel_rfl) (by kernel_rfl) ?_
      repeat (go_big_quiet_step ((first | (go_at_call 50; exact more_of (of_any _ _ _ _ _ _ _ _ _ _)) | (go_at_call 49; exact more_of (bcheck_any _ _ _ _ ms _ _ (hr2.more _))))))
      refine wpQuiet_nil ?_
      rintro w3 ⟨qw3, hww3⟩
      have hbw3 := below_of_eq hww3
      clear hww3 qw3
      go_wp2
      go_ret
      have hro : rowOK c k l i = false := by rw [hrow.out]; simp; omega
      exact ⟨ret_b (by rw [hro]), (fun h => by rw [hro] at h; cases h), fun _ => ⟨Below_trans' hbb2 hbb2.size hbw3, hP2.below hbw3 hP2.lt⟩⟩
  · have f0' : W.cell? ⟨w.heap.size + 2, 0, none⟩ = some (.bool false) := by rw [f0]; simp [hi0]
    clear f0
    by_cases hcm : cmpL ml ms < 0
    · have hfst : Hid ((decide (i = 0) || decide (cmpL ml ms < 0)) = true) := by unfold Hid; simp [hcm]
      have hcm' : ¬ (0 ≤ cmpL ml ms) := by omega
      clear hi0
      go_enter Tryz.func47, Tryz.ntmps47
      go_upto_region 3 with (go_at_call 48; refine (compareL_any _ _ _ _ _ _ ml ms _ (hr.below (((Below.refl _ _).alloc (Nat.le_refl _) _).alloc (by simp) _)) (hr'.below (((Below.refl _ _).alloc (Nat.le_refl _) _).alloc (by simp) _))).mono ?_; rintro e w' ⟨rfl, rfl⟩)
      generalize hW1 : World.alloc _ _ = W1
      have hb1 : Below W.heap.size W W1 := by rw [← hW1]; exact ((Below.refl _ _).alloc (Nat.le_refl _) _).alloc (by simp) _
      have hR1 : Has W1 (W.heap.size + 1) 47 #[.slice Am nm cm, .int .i64 y] := by rw [← hW1]; exact Has.new2 _ _ _ _
      clear hW1
      have hP1 := hP.below hb1 hq0
      have hS1 := hS.below hb1 hq1
      have hF1 := hF.below hb1 hlt
      have hr1 := hr'.below hb1
      have hbb1 := Below_trans' hb hb.size hb1
      have hz1 := hb1.size
      have s1 : W1.cell? ⟨w.heap.size + 1, 0, none⟩ = some (.int .i64 S) := hS1.cell 0
      have f1 := hF1.cell 0
      have t0 : W1.cell? ⟨W.heap.size + 1, 0, none⟩ = some (.slice Am nm cm) := hR1.cell 0
      have t1 : W1.cell? ⟨W.heap.size + 1, 1, none⟩ = some (.int .i64 y) := hR1.cell 1
      have fs1 := hS1.free 0
      have ff1 := hF1.free 0
      have ne1 : W.heap.size + 1 ≠ w.heap.size + 2 := by omega
      have ne2 : W.heap.size + 1 ≠ w.heap.size + 1 := by omega
      clear p0 p1 p2 s0 fs ff
      by_cases y0 : 0 < y
      · by_cases c1 : 1000001 < y
        · by_cases c2 : 1000001 < S + 1000001
          · go_upto_region 5 with (fail)
            generalize hW2 : World.setCell _ _ _ = W2
            have hP2 : Has W2 w.heap.size 24 #[.int .i64 c, .int .u8 k, .slice A n cp] := by
              rw [← hW2]; exact (hP1.far (by show w.heap.size ≠ w.heap.size + 2; omega) _).far (by show w.heap.size ≠ w.heap.size + 1; omega) _
            have hS2 : Has W2 (w.heap.size + 1) 3 #[.int .i64 1000001] := by
              rw [← hW2]; exact (hS1.far (by show w.heap.size + 1 ≠ w.heap.size + 2; omega) _).put 0 _
            have hF2 : Has W2 (w.heap.size + 2) 4 #[.bool false] := by
              rw [← hW2]; exact (hF1.put 0 _).far (by show w.heap.size + 2 ≠ w.heap.size + 1; omega) _
            have hR2 : Has W2 (W.heap.size + 1) 47 #[.slice Am nm cm, .int .i64 y] := by
              rw [← hW2]; exact (hR1.far ne1 _).far ne2 _
            have hbb2 : Below w.heap.size w W2 := by
              rw [← hW2]; exact (hbb1.setCell (by show w.heap.size ≤ w.heap.size + 2; omega) _).setCell (by show w.heap.size ≤ w.heap.size + 1; omega) _
            clear hW2
            have hr2 := hr0'.below hbb2
            have p0 : W2.cell? ⟨w.heap.size, 0, none⟩ = some (.int .i64 c) := hP2.cell 0
            have p1 : W2.cell? ⟨w.heap.size, 1, none⟩ = some (.int .u8 k) := hP2.cell 1
            have p2 : W2.cell? ⟨w.heap.size, 2, none⟩ = some (.slice A n cp) := hP2.cell 2
            have t0 : W2.cell? ⟨W.heap.size + 1, 0, none⟩ = some (.slice Am nm cm) := hR2.cell 0
            have t1 : W2.cell? ⟨W.heap.size + 1, 1, none⟩ = some (.int .i64 y) := hR2.cell 1
            have g1 : decide (0 < y) = true := by simpa using y0
            by_cases hbc : bcheckS k ms c = 0
            · have g2 : (bcheckS k ms c == 0) = true := by simpa using hbc
              have Hbc := hide hbc
              clear hbc
              refine wp_region_more (by kernel_rfl) (by kernel_rfl) ?_
              repeat (go_big_quiet_step ((first | (go_at_call 50; exact more_of (of_any _ _ _ _ _ _ _ _ _ _)) | (go_at_call 49; exact more_of (bcheck_any _ _ _ _ ms _ _ (hr2.more _))))))
              refine wpQuiet_nil ?_
              rintro w3 ⟨qw3, hww3⟩
              have hbw3 := below_of_eq hww3
              clear hww3 qw3
              go_wp2
              go_ret
              have hro : rowOK c k l i = true := by rw [hrow.out, hfst.out, g1]; simp [Hbc.out]
              refine ⟨ret_b (by rw [hro]), fun _ => ⟨Below_trans' hbb2 hbb2.size hbw3, hP2.below hbw3 hP2.lt, ?_, ?_, ?_⟩, fun h => by rw [hro] at h; cases h⟩
              · rw [← hnext.out y0 (v := 1000001) (by show 1000001 = if 1000001 < S + y then 1000001 else S + y; split <;> omega)]
                exact hS2.below hbw3 hS2.lt
              · exact hF2.below hbw3 hF2.lt
              · intro j hj
                by_cases ej : j = i
                · rw [ej, getD_of hm'.out]; exact y0
                · exact hpos'.out j (by omega)
            · have g2 : (bcheckS k ms c == 0) = false := by simpa using hbc
              have Hbc := hide hbc
              clear hbc
              refine wp_region_more (by kernel_rfl) (by kernel_rfl) ?_
              repeat (go_big_quiet_step ((first | (go_at_call 50; exact more_of (of_any _ _ _ _ _ _ _ _ _ _)) | (go_at_call 49; exact more_of (bcheck_any _ _ _ _ ms _ _ (hr2.more _))))))
              refine wpQuiet_nil ?_
              rintro w3 ⟨qw3, hww3⟩
              have hbw3 := below_of_eq hww3
              clear hww3 qw3
              go_wp2
              go_ret
              have hro : rowOK c k l i = false := by rw [hrow.out]; simp [Hbc.out]
              exact ⟨ret_b (by rw [hro]), (fun h => by rw [hro] at h; cases h), fun _ => ⟨Below_trans' hbb2 hbb2.size hbw3, hP2.below hbw3 hP2.lt⟩⟩
          · go_upto_region 5 with (fail)
            generalize hW2 : World.setCell _ _ _ = W2
            have hP2 : Has W2 w.heap.size 24 #[.int .i64 c, .int .u8 k, .slice A n cp] := by
              rw [← hW2]; exact (hP1.far (by show w.heap.size ≠ w.heap.size + 2; omega) _).far (by show w.heap.size ≠ w.heap.size + 1; omega) _
            have hS2 : Has W2 (w.heap.size + 1) 3 #[.int .i64 (S + 1000001)] := by
              rw [← hW2]; exact (hS1.far (by show w.heap.size + 1 ≠ w.heap.size + 2; omega) _).put 0 _
            have hF2 : Has W2 (w.heap.size + 2) 4 #[.bool false] := by
              rw [← hW2]; exact (hF1.put 0 _).far (by show w.heap.size + 2 ≠ w.heap.size + 1; omega) _
            have hR2 : Has W2 (W.heap.size + 1) 47 #[.slice Am nm cm, .int .i64 y] := by
              rw [← hW2]; exact (hR1.far ne1 _).far ne2 _
            have hbb2 : Below w.heap.size w W2 := by
              rw [← hW2]; exact (hbb1.setCell (by show w.heap.size ≤ w.heap.size + 2; omega) _).setCell (by show w.heap.size ≤ w.heap.size + 1; omega) _
            clear hW2
            have hr2 := hr0'.below hbb2
            have p0 : W2.cell? ⟨w.heap.size, 0, none⟩ = some (.int .i64 c) := hP2.cell 0
            have p1 : W2.cell? ⟨w.heap.size, 1, none⟩ = some (.int .u8 k) := hP2.cell 1
            have p2 : W2.cell? ⟨w.heap.size, 2, none⟩ = some (.slice A n cp) := hP2.cell 2
            have t0 : W2.cell? ⟨W.heap.size + 1, 0, none⟩ = some (.slice Am nm cm) := hR2.cell 0
            have t1 : W2.cell? ⟨W.heap.size + 1, 1, none⟩ = some (.int .i64 y) := hR2.cell 1
            have g1 : decide (0 < y) = true := by simpa using y0
            by_cases hbc : bcheckS k ms c = 0
            · have g2 : (bcheckS k ms c == 0) = true := by simpa using hbc
              have Hbc := hide hbc
              clear hbc
              refine wp_region_more (by kernel_rfl) (by kernel_rfl) ?_
              repeat (go_big_quiet_step ((first | (go_at_call 50; exact more_of (of_any _ _ _ _ _ _ _ _ _ _)) | (go_at_call 49; exact more_of (bcheck_any _ _ _ _ ms _ _ (hr2.more _))))))
              refine wpQuiet_nil ?_
              rintro w3 ⟨qw3, hww3⟩
              have hbw3 := below_of_eq hww3
              clear hww3 qw3
              go_wp2
              go_ret
              have hro : rowOK c k l i = true := by rw [hrow.out, hfst.out, g1]; simp [Hbc.out]
              refine ⟨ret_b (by rw [hro]), fun _ => ⟨Below_trans' hbb2 hbb2.size hbw3, hP2.below hbw3 hP2.lt, ?_, ?_, ?_⟩, fun h => by rw [hro] at h; cases h⟩
              · rw [← hnext.out y0 (v := (S + 1000001)) (by show (S + 1000001) = if 1000001 < S + y then 1000001 else S + y; split <;> omega)]
                exact hS2.below hbw3 hS2.lt
              · exact hF2.below hbw3 hF2.lt
              · intro j hj
                by_cases ej : j = i
                · rw [ej, getD_of hm'.out]; exact y0
                · exact hpos'.out j (by omega)
            · have g2 : (bcheckS k ms c == 0) = false := by simpa using hbc
              have Hbc := hide hbc
              clear hbc
              refine wp_region_more (by kernel_rfl) (by kernel_rfl) ?_
              repeat (go_big_quiet_step ((first | (go_at_call 50; exact more_of (of_any _ _ _ _ _ _ _ _ _ _)) | (go_at_call 49; exact more_of (bcheck_any _ _ _ _ ms _ _ (hr2.more _))))))
              refine wpQuiet_nil ?_
              rintro w3 ⟨qw3, hww3⟩
              have hbw3 := below_of_eq hww3
              clear hww3 qw3
              go_wp2
              go_ret
              have hro : rowOK c k l i = false := by rw [hrow.out]; simp [Hbc.out]
              exact ⟨ret_b (by rw [hro]), (fun h => by rw [hro] at h; cases h), fun _ => ⟨Below_trans' hbb2 hbb2.size hbw3, hP2.below hbw3 hP2.lt⟩⟩
        · by_cases c2 : 1000001 < S + y
          · go_upto_region 5 with (fail)
            generalize hW2 : World.setCell _ _ _ = W2
            have hP2 : Has W2 w.heap.size 24 #[.int .i64 c, .int .u8 k, .slice A n cp] := by
              rw [← hW2]; exact (hP1.far (by show w.heap.size ≠ w.heap.size + 2; omega) _).far (by show w.heap.size ≠ w.heap.size + 1; omega) _
            have hS2 : Has W2 (w.heap.size + 1) 3 #[.int .i64 1000001] := by
              rw [← hW2]; exact (hS1.far (by show w.heap.size + 1 ≠ w.heap.size + 2; omega) _).put 0 _
            have hF2 : Has W2 (w.heap.size + 2) 4 #[.bool false] := by
              rw [← hW2]; exact (hF1.put 0 _).far (by show w.heap.size + 2 ≠ w.heap.size + 1; omega) _
            have hR2 : Has W2 (W.heap.size + 1) 47 #[.slice Am nm cm, .int .i64 y] := by
              rw [← hW2]; exact (hR1.far ne1 _).far ne2 _
            have hbb2 : Below w.heap.size w W2 := by
              rw [← hW2]; exact (hbb1.setCell (by show w.heap.size ≤ w.heap.size + 2; omega) _).setCell (by show w.heap.size ≤ w.heap.size + 1; omega) _
            clear hW2
            have hr2 := hr0'.below hbb2
            have p0 : W2.cell? ⟨w.heap.size, 0, none⟩ = some (.int .i64 c) := hP2.cell 0
            have p1 : W2.cell? ⟨w.heap.size, 1, none⟩ = some (.int .u8 k) := hP2.cell 1
            have p2 : W2.cell? ⟨w.heap.size, 2, none⟩ = some (.slice A n cp) := hP2.cell 2
            have t0 : W2.cell? ⟨W.heap.size + 1, 0, none⟩ = some (.slice Am nm cm) := hR2.cell 0
            have t1 : W2.cell? ⟨W.heap.size + 1, 1, none⟩ = some (.int .i64 y) := hR2.cell 1
            have g1 : decide (0 < y) = true := by simpa using y0
            by_cases hbc : bcheckS k ms c = 0
            · have g2 : (bcheckS k ms c == 0) = true := by simpa using hbc
              have Hbc := hide hbc
              clear hbc
              refine wp_region_more (by kernel_rfl) (by kernel_rfl) ?_
              repeat (go_big_quiet_step ((first | (go_at_call 50; exact more_of (of_any _ _ _ _ _ _ _ _ _ _)) | (go_at_call 49; exact more_of (bcheck_any _ _ _ _ ms _ _ (hr2.more _))))))
              refine wpQuiet_nil ?_
              rintro w3 ⟨qw3, hww3⟩
              have hbw3 := below_of_eq hww3
              clear hww3 qw3
              go_wp2
              go_ret
              have hro : rowOK c k l i = true := by rw [hrow.out, hfst.out, g1]; simp [Hbc.out]
              refine ⟨ret_b (by rw [hro]), fun _ => ⟨Below_trans' hbb2 hbb2.size hbw3, hP2.below hbw3 hP2.lt, ?_, ?_, ?_⟩, fun h => by rw [hro] at h; cases h⟩
              · rw [← hnext.out y0 (v := 1000001) (by show 1000001 = if 1000001 < S + y then 1000001 else S + y; split <;> omega)]
                exact hS2.below hbw3 hS2.lt
              · exact hF2.below hbw3 hF2.lt
              · intro j hj
                by_cases ej : j = i
                · rw [ej, getD_of hm'.out]; exact y0
                · exact hpos'.out j (by omega)
            · have g2 : (bcheckS k ms c == 0) = false := by simpa using hbc
              have Hbc := hide hbc
              clear hbc
              refine wp_region_more (by kernel_rfl) (by kernel_rfl) ?_
              repeat (go_big_quiet_step ((first | (go_at_call 50; exact more_of (of_any _ _ _ _ _ _ _ _ _ _)) | (go_at_call 49; exact more_of (bcheck_any _ _ _ _ ms _ _ (hr2.more _))))))
              refine wpQuiet_nil ?_
              rintro w3 ⟨qw3, hww3⟩
              have hbw3 := below_of_eq hww3
              clear hww3 qw3
              go_wp2
              go_ret
              have hro : rowOK c k l i = false := by rw [hrow.out]; simp [Hbc.out]
              exact ⟨ret_b (by rw [hro]), (fun h => by rw [hro] at h; cases h), fun _ => ⟨Below_trans' hbb2 hbb2.size hbw3, hP2.below hbw3 hP2.lt⟩⟩
          · go_upto_region 5 with (fail)
            generalize hW2 : World.setCell _ _ _ = W2
            have hP2 : Has W2 w.heap.size 24 #[.int .i64 c, .int .u8 k, .slice A n cp] := by
              rw [← hW2]; exact (hP1.far (by show w.heap.size ≠ w.heap.size + 2; omega) _).far (by show w.heap.size ≠ w.heap.size + 1; omega) _
            have hS2 : Has W2 (w.heap.size + 1) 3 #[.int .i64 (S + y)] := by
              rw [← hW2]; exact (hS1.far (by show w.heap.size + 1 ≠ w.heap.size + 2; omega) _).put 0 _
            have hF2 : Has W2 (w.heap.size + 2) 4 #[.bool false] := by
              rw [← hW2]; exact (hF1.put 0 _).far (by show w.heap.size + 2 ≠ w.heap.size + 1; omega) _
            have hR2 : Has W2 (W.heap.size + 1) 47 #[.slice Am nm cm, .int .i64 y] := by
              rw [← hW2]; exact (hR1.far ne1 _).far ne2 _
            have hbb2 : Below w.heap.size w W2 := by
              rw [← hW2]; exact (hbb1.setCell (by show w.heap.size ≤ w.heap.size + 2; omega) _).setCell (by show w.heap.size ≤ w.heap.size + 1; omega) _
            clear hW2
            have hr2 := hr0'.below hbb2
            have p0 : W2.cell? ⟨w.heap.size, 0, none⟩ = some (.int .i64 c) := hP2.cell 0
            have p1 : W2.cell? ⟨w.heap.size, 1, none⟩ = some (.int .u8 k) := hP2.cell 1
            have p2 : W2.cell? ⟨w.heap.size, 2, none⟩ = some (.slice A n cp) := hP2.cell 2
            have t0 : W2.cell? ⟨W.heap.size + 1, 0, none⟩ = some (.slice Am nm cm) := hR2.cell 0
            have t1 : W2.cell? ⟨W.heap.size + 1, 1, none⟩ = some (.int .i64 y) := hR2.cell 1
            have g1 : decide (0 < y) = true := by simpa using y0
            by_cases hbc : bcheckS k ms c = 0
            · have g2 : (bcheckS k ms c == 0) = true := by simpa using hbc
              have Hbc := hide hbc
              clear hbc
              refine wp_region_more (by kernel_rfl) (by kernel_rfl) ?_
              repeat (go_big_quiet_step ((first | (go_at_call 50; exact more_of (of_any _ _ _ _ _ _ _ _ _ _)) | (go_at_call 49; exact more_of (bcheck_any _ _ _ _ ms _ _ (hr2.more _))))))
              refine wpQuiet_nil ?_
              rintro w3 ⟨qw3, hww3⟩
              have hbw3 := below_of_eq hww3
              clear hww3 qw3
              go_wp2
              go_ret
              have hro : rowOK c k l i = true := by rw [hrow.out, hfst.out, g1]; simp [Hbc.out]
              refine ⟨ret_b (by rw [hro]), fun _ => ⟨Below_trans' hbb2 hbb2.size hbw3, hP2.below hbw3 hP2.lt, ?_, ?_, ?_⟩, fun h => by rw [hro] at h; cases h⟩
              · rw [← hnext.out y0 (v := (S + y)) (by show (S + y) = if 1000001 < S + y then 1000001 else S + y; split <;> omega)]
                exact hS2.below hbw3 hS2.lt
              · exact hF2.below hbw3 hF2.lt
              · intro j hj
                by_cases ej : j = i
                · rw [ej, getD_of hm'.out]; exact y0
                · exact hpos'.out j (by omega)
            · have g2 : (bcheckS k ms c == 0) = false := by simpa using hbc
              have Hbc := hide hbc
              clear hbc
              refine wp_region_more (by kernel_rfl) (by kernel_rfl) ?_
              repeat (go_big_quiet_step ((first | (go_at_call 50; exact more_of (of_any _ _ _ _ _ _ _ _ _ _)) | (go_at_call 49; exact more_of (bcheck_any _ _ _ _ ms _ _ (hr2.more _))))))
              refine wpQuiet_nil ?_
              rintro w3 ⟨qw3, hww3⟩
              have hbw3 := below_of_eq hww3
              clear hww3 qw3
              go_wp2
              go_ret
              have hro : rowOK c k l i = false := by rw [hrow.out]; simp [Hbc.out]
              exact ⟨ret_b (by rw [hro]), (fun h => by rw [hro] at h; cases h), fun _ => ⟨Below_trans' hbb2 hbb2.size hbw3, hP2.below hbw3 hP2.lt⟩⟩
      · have c1 : ¬ 1000001 < y := by omega
        have c2 : ¬ 1000001 < S + y := by omega
        go_upto_region 5 with (fail)
        generalize hW2 : World.setCell _ _ _ = W2
        have hP2 : Has W2 w.heap.size 24 #[.int .i64 c, .int .u8 k, .slice A n cp] := by
          rw [← hW2]; exact (hP1.far (by show w.heap.size ≠ w.heap.size + 2; omega) _).far (by show w.heap.size ≠ w.heap.size + 1; omega) _
        have hS2 : Has W2 (w.heap.size + 1) 3 #[.int .i64 (S + y)] := by
          rw [← hW2]; exact (hS1.far (by show w.heap.size + 1 ≠ w.heap.size + 2; omega) _).put 0 _
        have hF2 : Has W2 (w.heap.size + 2) 4 #[.bool false] := by
          rw [← hW2]; exact (hF1.put 0 _).far (by show w.heap.size + 2 ≠ w.heap.size + 1; omega) _
        have hR2 : Has W2 (W.heap.size + 1) 47 #[.slice Am nm cm, .int .i64 y] := by
          rw [← hW2]; exact (hR1.far ne1 _).far ne2 _
        have hbb2 : Below w.heap.size w W2 := by
          rw [← hW2]; exact (hbb1.setCell (by show w.heap.size ≤ w.heap.size + 2; omega) _).setCell (by show w.heap.size ≤ w.heap.size + 1; omega) _
        clear hW2
        have hr2 := hr0'.below hbb2
        have p0 : W2.cell? ⟨w.heap.size, 0, none⟩ = some (.int .i64 c) := hP2.cell 0
        have p1 : W2.cell? ⟨w.heap.size, 1, none⟩ = some (.int .u8 k) := hP2.cell 1
        have p2 : W2.cell? ⟨w.heap.size, 2, none⟩ = some (.slice A n cp) := hP2.cell 2
        have t0 : W2.cell? ⟨W.heap.size + 1, 0, none⟩ = some (.slice Am nm cm) := hR2.cell 0
        have t1 : W2.cell? ⟨W.heap.size + 1, 1, none⟩ = some (.int .i64 y) := hR2.cell 1
        have g1 : decide (0 < y) = false := by simpa using y0
        refine wp_region_more (by kernel_rfl) (by kernel_rfl) ?_
        repeat (go_big_quiet_step ((first | (go_at_call 50; exact more_of (of_any _ _ _ _ _ _ _ _ _ _)) | (go_at_call 49; exact more_of (bcheck_any _ _ _ _ ms _ _ (hr2.more _))))))
        refine wpQuiet_nil ?_
        rintro w3 ⟨qw3, hww3⟩
        have hbw3 := below_of_eq hww3
        clear hww3 qw3
        go_wp2
        go_ret
        have hro : rowOK c k l i = false := by rw [hrow.out]; simp; omega
        exact ⟨ret_b (by rw [hro]), (fun h => by rw [hro] at h; cases h), fun _ => ⟨Below_trans' hbb2 hbb2.size hbw3, hP2.below hbw3 hP2.lt⟩⟩
    · have hcm' : 0 ≤ cmpL ml ms := by omega
      have hro : Hid (rowOK c k l i = false) := by unfold Hid; rw [hrow.out]; simp [hi0, hcm]
      clear hi0
      go_enter Tryz.func47, Tryz.ntmps47
      go_wp2_with (go_at_call 48; refine (compareL_any _ _ _ _ _ _ ml ms _ (hr.below (((Below.refl _ _).alloc (Nat.le_refl _) _).alloc (by simp) _)) (hr'.below (((Below.refl _ _).alloc (Nat.le_refl _) _).alloc (by simp) _))).mono ?_; rintro e w' ⟨rfl, rfl⟩)
      have hb1 : Below W.heap.size W ((W.alloc (.cells #[.slice Al nl cl, .int .i64 yl] 47)).alloc (.cells #[.slice Am nm cm, .int .i64 y] 47)) := ((Below.refl _ _).alloc (Nat.le_refl _) _).alloc (by simp) _
      go_ret
      exact ⟨ret_b (by rw [hro.out]), (fun h => by rw [hro.out] at h; cases h), fun _ => ⟨Below_trans' hb hb.size hb1, hP.below hb1 hP.lt⟩⟩
end Go.Proofs.YtleniljhacnikaaGreat
