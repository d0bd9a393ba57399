/-
  The law ProfileTells.
-/
import Derived.Test.YtleniljhacnikaaL9d0
import Derived.Test.YtleniljhacnikaaWipe
import Derived.Test.YtleniljhacnikaaW9u
import Derived.Test.YtleniljhacnikaaW9v
namespace Go.Proofs.Ytleniljhacnikaa
open Go.RowKit Go.Proofs
attribute [local go_sem] cell?_more cell?_alloc_some cell?_setCell_far frozen?_alloc_some frozen?_more

theorem newV_is (c k : Int) : ∃ nc nk, newV c k = .agg #[.int .i64 nc, .int .u8 nk, .slice none 0 0] := by
  unfold newV; split <;> exact ⟨_, _, rfl⟩
theorem rsame_val {E : Bool} (c k : Int) (A : Option Addr) (n cp : Nat) (l : List Row) (c' k' : Int) (A' : Option Addr) (n' cp' : Nat) (l' : List Row) (w : World) (h : RRows w A n cp l) (h' : RRows w A' n' cp' l') (hE : sameB c k l c' k' l' = E) :
    Calls Try.prog 37 #[.agg #[.int .i64 c, .int .u8 k, .slice A n cp], .agg #[.int .i64 c', .int .u8 k', .slice A' n' cp']] w fun e w' => e = .returned (.bool E) ∧ Below w.heap.size w w' := hE ▸ rsame_any c k A n cp l c' k' A' n' cp' l' w h h'
theorem psame_val {E : Bool} (c k : Int) (A : Option Addr) (n cp : Nat) (l : List Row) (c' k' : Int) (A' : Option Addr) (n' cp' : Nat) (l' : List Row) (w : World) (h : RRows w A n cp l) (h' : RRows w A' n' cp' l') (hE : sameB c k l c' k' l' = E) :
    Calls Try.prog 45 #[.agg #[.int .i64 c, .int .u8 k, .slice A n cp], .agg #[.int .i64 c', .int .u8 k', .slice A' n' cp']] w fun e w' => e = .returned (.bool E) ∧ Below w.heap.size w w' := hE ▸ psame_any c k A n cp l c' k' A' n' cp' l' w h h'
theorem pcheck_val {E : Int} (c k : Int) (A : Option Addr) (n cp : Nat) (l : List Row) (w : World) (h : RRows w A n cp l) (hE : checkS c k l = E) :
    Calls Try.prog 38 #[.agg #[.int .i64 c, .int .u8 k, .slice A n cp]] w fun e w' => e = .returned (.int .i64 E) ∧ Below w.heap.size w w' := hE ▸ pcheck_any c k A n cp l w h
theorem rchk_val {E : Int} (c k : Int) (A : Option Addr) (n cp : Nat) (l : List Row) (w : World) (h : RRows w A n cp l) (hE : checkS c k l = E) :
    Calls Try.prog 32 #[.agg #[.int .i64 c, .int .u8 k, .slice A n cp]] w fun e w' => e = .returned (.int .i64 E) ∧ Below w.heap.size w w' := hE ▸ rcheck_any c k A n cp l w h



set_option maxRecDepth 100000 in
set_option maxHeartbeats 8000000 in
theorem profileTells_any (c k : Int) (A : Option Addr) (n cp : Nat) (l : List Row) (c' k' : Int) (A' : Option Addr) (n' cp' : Nat) (l' : List Row) (cands kind : Int) (w : World)
    (h : RRows w A n cp l) (h' : RRows w A' n' cp' l') :
    Calls Try.prog 7 #[.agg #[.int .i64 c, .int .u8 k, .slice A n cp], .agg #[.int .i64 c', .int .u8 k', .slice A' n' cp'], .int .i64 cands, .int .u8 kind] w fun e w' => e = .returned (.bool true) ∧ Below w.heap.size w w' := by
  have hS0 := ((Hs.nil w).alloc 24 #[.int .i64 c, .int .u8 k, .slice A n cp]).alloc 24 #[.int .i64 c', .int .u8 k', .slice A' n' cp']
  have hb0 : Below w.heap.size w ((w.alloc (.cells #[.int .i64 c, .int .u8 k, .slice A n cp] 24)).alloc (.cells #[.int .i64 c', .int .u8 k', .slice A' n' cp'] 24)) :=
    ((Below.refl _ _).alloc (Nat.le_refl _) _).alloc (by simp) _
  simp only [World.size_alloc] at hS0
  go_enter Try.func7, Try.ntmps7
  go_upto_region 1 with fail
  generalize hW : World.alloc (World.alloc w _) _ = W0 at hS0 hb0
  try rw [hW]
  clear hW
  have p0 : W0.cell? ⟨w.heap.size, 0, none⟩ = some (.int .i64 c) := hS0.2.1.cell 0
  have p1 : W0.cell? ⟨w.heap.size, 1, none⟩ = some (.int .u8 k) := hS0.2.1.cell 1
  have p2 : W0.cell? ⟨w.heap.size, 2, none⟩ = some (.slice A n cp) := hS0.2.1.cell 2
  have q0 : W0.cell? ⟨w.heap.size + 1, 0, none⟩ = some (.int .i64 c') := hS0.1.cell 0
  have q1 : W0.cell? ⟨w.heap.size + 1, 1, none⟩ = some (.int .u8 k') := hS0.1.cell 1
  have q2 : W0.cell? ⟨w.heap.size + 1, 2, none⟩ = some (.slice A' n' cp') := hS0.1.cell 2
  have hbw5 : Below W0.heap.size W0 (W0.alloc (.cells #[.int .i64 c, .int .u8 k, .slice A n cp, .int .i64 c', .int .u8 k', .slice A' n' cp'] 24)) := (Below.refl _ _).alloc (Nat.le_refl _) _
  have hpp := profs2 (Has.new W0 24 #[.int .i64 c, .int .u8 k, .slice A n cp, .int .i64 c', .int .u8 k', .slice A' n' cp']) ((h.below hb0).below hbw5) ((h'.below hb0).below hbw5)
  go_wp2_with fail
  refine (great9_any _ 2 2 _ _ hpp).mono ?_
  rintro e w1 ⟨rfl, hbw6⟩
  have hbw := Below_trans' hbw5 hbw5.size hbw6
  have hS1 := hS0.below hbw
  have hb1 := Below_trans' hb0 hb0.size hbw
  clear hS0 hb0 hbw hbw5 hbw6 hpp p0 p1 p2 q0 q1 q2
  cases hG9 : great9 [(c, k, l), (c', k', l')] with
  | true =>
    clear hG9
    go_wp2_with fail
    refine (wakes9_any _).mono ?_
    rintro e w9 ⟨rfl, hbw⟩
    go_wp2
    go_ret
    exact ⟨rfl, Below_trans' hb1 hb1.size hbw⟩
  | false =>
    obtain ⟨hg1, hg2⟩ : greatS l = false ∧ greatS l' = false := by
      simpa [great9] using hG9
    have G1 := hide (great_no hg1)
    clear hG9 hg1 hg2
    have hQ1 : Fs w1 [fHas w.heap.size 24 #[.int .i64 c, .int .u8 k, .slice A n cp], fHas (w.heap.size + 1) 24 #[.int .i64 c', .int .u8 k', .slice A' n' cp']] := ⟨hS1.2.1, hS1.1, trivial⟩
    clear hS1
    have hS1 := Fs.nil w1
    obtain ⟨nc, nk, hNV⟩ := newV_is cands kind
    obtain ⟨mv, hmv⟩ : ∃ x, cntV c k l anyRow = x := ⟨_, rfl⟩
    obtain ⟨kv, hkv⟩ : ∃ x, cntV c k l someRow = x := ⟨_, rfl⟩
    obtain ⟨ev, hev⟩ : ∃ x, checkS c k l = x := ⟨_, rfl⟩
    obtain ⟨nv, hnv⟩ : ∃ x, newErr cands kind = x := ⟨_, rfl⟩
    obtain ⟨bv, hbv⟩ : ∃ x, sameB c k l c' k' l' = x := ⟨_, rfl⟩
    have HN := hide hNV
    have HM := hide hmv
    have HK := hide hkv
    have HE := hide hev
    have HV := hide hnv
    have HB := hide hbv
    clear hNV hmv hkv hev hnv hbv
    go_upto_region 3 with fail
    go_wp2_with fail
    refine (new_any cands kind _).mono ?_
    rintro e w2 ⟨rfl, hbw⟩
    rw [HN.out, HV.out]
    have hQ2 := hQ1.below hbw
    have hS2 := hS1.below hbw
    have hb2 := Below_trans' hb1 hb1.size hbw
    clear hQ1 hS1 hb1 hbw
    go_upto_region 4 with fail
    have hbw : Below w2.heap.size w2 (w2.alloc (.cells #[.int .i64 nc, .int .u8 nk, .slice none 0 0] 24)) := (Below.refl _ _).alloc (Nat.le_refl _) _
    have hN := Has.new w2 24 #[.int .i64 nc, .int .u8 nk, .slice none 0 0]
    have hQ3 := hQ2.below hbw
    have hS3 := (hS2.below hbw).has hN
    have hb3 := Below_trans' hb2 hb2.size hbw
    clear hQ2 hS2 hb2 hN hbw
    generalize hW : World.alloc w2 _ = w3 at hQ3 hS3 hb3
    try rw [hW]
    clear hW
    generalize w2.heap.size = va at hS3 ⊢
    go_wp2_with fail
    refine (rnew_any cands kind _).mono ?_
    rintro e w4 ⟨rfl, hbw⟩
    rw [HN.out, HV.out]
    have hQ4 := hQ3.below hbw
    have hS4 := hS3.below hbw
    have hb4 := Below_trans' hb3 hb3.size hbw
    clear hQ3 hS3 hb3 hbw
    go_upto_region 5 with fail
    have hbw : Below w4.heap.size w4 (w4.alloc (.cells #[.int .i64 nc, .int .u8 nk, .slice none 0 0] 24)) := (Below.refl _ _).alloc (Nat.le_refl _) _
    have hN := Has.new w4 24 #[.int .i64 nc, .int .u8 nk, .slice none 0 0]
    have hQ5 := hQ4.below hbw
    have hS5 := (hS4.below hbw).has hN
    have hb5 := Below_trans' hb4 hb4.size hbw
    clear hQ4 hS4 hb4 hN hbw
    generalize hW : World.alloc w4 _ = w5 at hQ5 hS5 hb5
    try rw [hW]
    clear hW
    generalize w4.heap.size = vb at hS5 ⊢

    have p0 : w5.cell? ⟨w.heap.size, 0, none⟩ = some (.int .i64 (c)) := (hQ5.1).cell 0
    have p1 : w5.cell? ⟨w.heap.size, 1, none⟩ = some (.int .u8 (k)) := (hQ5.1).cell 1
    have p2 : w5.cell? ⟨w.heap.size, 2, none⟩ = some (.slice A n cp) := (hQ5.1).cell 2
    go_wp2_with fail
    refine (many_any c k A n cp l _ (h.below hb5)).mono ?_
    rintro e w6 ⟨rfl, hbw⟩
    rw [HM.out, HE.out]
    clear p0 p1 p2
    have hQ6 := hQ5.below hbw
    have hS6 := hS5.below hbw
    have hb6 := Below_trans' hb5 hb5.size hbw
    clear hQ5 hS5 hb5 hbw
    go_upto_region 6 with fail
    have p0 : w6.cell? ⟨w.heap.size, 0, none⟩ = some (.int .i64 (c)) := (hQ6.1).cell 0
    have p1 : w6.cell? ⟨w.heap.size, 1, none⟩ = some (.int .u8 (k)) := (hQ6.1).cell 1
    have p2 : w6.cell? ⟨w.heap.size, 2, none⟩ = some (.slice A n cp) := (hQ6.1).cell 2
    go_wp2_with fail
    refine (rmany_any c k A n cp l _ (h.below hb6)).mono ?_
    rintro e w7 ⟨rfl, hbw⟩
    rw [HM.out, HE.out]
    clear p0 p1 p2
    have hQ7 := hQ6.below hbw
    have hS7 := hS6.below hbw
    have hb7 := Below_trans' hb6 hb6.size hbw
    clear hQ6 hS6 hb6 hbw
    go_upto_region 7 with fail
    have p0 : w7.cell? ⟨w.heap.size, 0, none⟩ = some (.int .i64 (c)) := (hQ7.1).cell 0
    have p1 : w7.cell? ⟨w.heap.size, 1, none⟩ = some (.int .u8 (k)) := (hQ7.1).cell 1
    have p2 : w7.cell? ⟨w.heap.size, 2, none⟩ = some (.slice A n cp) := (hQ7.1).cell 2
    go_wp2_with fail
    refine (marked_any c k A n cp l _ (h.below hb7)).mono ?_
    rintro e w8 ⟨rfl, hbw⟩
    rw [HK.out, HE.out]
    clear p0 p1 p2
    have hQ8 := hQ7.below hbw
    have hS8 := hS7.below hbw
    have hb8 := Below_trans' hb7 hb7.size hbw
    clear hQ7 hS7 hb7 hbw
    go_upto_region 8 with fail
    have p0 : w8.cell? ⟨w.heap.size, 0, none⟩ = some (.int .i64 (c)) := (hQ8.1).cell 0
    have p1 : w8.cell? ⟨w.heap.size, 1, none⟩ = some (.int .u8 (k)) := (hQ8.1).cell 1
    have p2 : w8.cell? ⟨w.heap.size, 2, none⟩ = some (.slice A n cp) := (hQ8.1).cell 2
    go_wp2_with fail
    refine (rmarked_any c k A n cp l _ (h.below hb8)).mono ?_
    rintro e w9 ⟨rfl, hbw⟩
    rw [HK.out, HE.out]
    clear p0 p1 p2
    have hQ9 := hQ8.below hbw
    have hS9 := hS8.below hbw
    have hb9 := Below_trans' hb8 hb8.size hbw
    clear hQ8 hS8 hb8 hbw
    go_upto_region 9 with fail
    have p0 : w9.cell? ⟨w.heap.size, 0, none⟩ = some (.int .i64 (c)) := (hQ9.1).cell 0
    have p1 : w9.cell? ⟨w.heap.size, 1, none⟩ = some (.int .u8 (k)) := (hQ9.1).cell 1
    have p2 : w9.cell? ⟨w.heap.size, 2, none⟩ = some (.slice A n cp) := (hQ9.1).cell 2
    have q0 : w9.cell? ⟨w.heap.size + 1, 0, none⟩ = some (.int .i64 (c')) := (hQ9.2.1).cell 0
    have q1 : w9.cell? ⟨w.heap.size + 1, 1, none⟩ = some (.int .u8 (k')) := (hQ9.2.1).cell 1
    have q2 : w9.cell? ⟨w.heap.size + 1, 2, none⟩ = some (.slice A' n' cp') := (hQ9.2.1).cell 2
    have a0 : w9.cell? ⟨va, 0, none⟩ = some (.int .i64 nc) := hS9.2.1.cell 0
    have a1 : w9.cell? ⟨va, 1, none⟩ = some (.int .u8 nk) := hS9.2.1.cell 1
    have a2 : w9.cell? ⟨va, 2, none⟩ = some (.slice none 0 0) := hS9.2.1.cell 2
    have b0 : w9.cell? ⟨vb, 0, none⟩ = some (.int .i64 nc) := hS9.1.cell 0
    have b1 : w9.cell? ⟨vb, 1, none⟩ = some (.int .u8 nk) := hS9.1.cell 1
    have b2 : w9.cell? ⟨vb, 2, none⟩ = some (.slice none 0 0) := hS9.1.cell 2
    have x1 : (nv != nv) = false := by simp
    have x2 : (mv != mv) = false := by simp
    have x3 : (kv != kv) = false := by simp
    have x4 : (ev != ev) = false := by simp
    have x5 : (bv != bv) = false := by simp
    have h9 := h.below hb9
    have h9' := h'.below hb9
    refine wp_region_more (by kernel_rfl) (by kernel_rfl) ?_
    repeat (go_big_quiet_step ((first | (go_at_call 45; with_reducible exact more_of (psame_val c k A n cp l c' k' A' n' cp' l' _ (h9.more _) (h9'.more _) HB.out)) | (go_at_call 38; with_reducible exact more_of (pcheck_val c k A n cp l _ (h9.more _) HE.out)) | (go_at_call 32; with_reducible exact more_of (rchk_val c k A n cp l _ (h9.more _) HE.out)) | (go_at_call 37; first | with_reducible exact more_of (rsame_val nc nk none 0 0 [] nc nk none 0 0 [] _ (RRows.nil_ _) (RRows.nil_ _) (sameB_self nc nk [])) | with_reducible exact more_of (rsame_val c k A n cp l c' k' A' n' cp' l' _ (h9.more _) (h9'.more _) HB.out)))))
    refine wpQuiet_nil ?_
    rintro w10 ⟨qw10, hww10⟩
    have hbw10 := below_of_eq hww10
    clear hww10 qw10
    clear p0 p1 p2 q0 q1 q2 a0 a1 a2 b0 b1 b2 x1 x2 x3 x4 x5 h9 h9'
    have hbw := hbw10
    clear hbw10
    have hQ10 := hQ9.below hbw
    have hS10 := hS9.below hbw
    have hb10 := Below_trans' hb9 hb9.size hbw
    clear hQ9 hS9 hb9 hbw
    go_upto_region 11 with (fail)
    have p0 : w10.cell? ⟨w.heap.size, 0, none⟩ = some (.int .i64 (c)) := (hQ10.1).cell 0
    have p1 : w10.cell? ⟨w.heap.size, 1, none⟩ = some (.int .u8 (k)) := (hQ10.1).cell 1
    have p2 : w10.cell? ⟨w.heap.size, 2, none⟩ = some (.slice A n cp) := (hQ10.1).cell 2
    have hL0 := h.below hb10
    have hn1 : n ≤ 1000 := by have := G1.out.1; have := h.len; omega
    have M1 := hide (show ∀ r ∈ l, r.1.length ≤ 1000 from fun r hr => by have := G1.out.2 r hr; omega)
    go_cut [21, 22] from 25 (fun u v wx => ∃ g1 A1 n1 c1 g2 A2 n2 c2 lo hi sl, u = .pointer (some ⟨g1, 0, none⟩) ∧ v = .pointer (some ⟨g2, 0, none⟩) ∧ Has wx g1 24 #[.int .i64 c, .int .u8 k, .slice A1 n1 c1] ∧ Has wx g2 24 #[.int .i64 c, .int .u8 k, .slice A2 n2 c2] ∧ RRows wx A1 n1 c1 l ∧ Aside wx lo hi A2 n2 c2 l ∧ Wip wx lo hi A1 n1 sl ∧ w10.heap.size ≤ lo ∧ hi ≤ wx.heap.size ∧ (g1 < lo ∨ hi ≤ g1) ∧ (g2 < lo ∨ hi ≤ g2) ∧ Below w10.heap.size w10 wx)
    case first =>
      rename_i J K' hrel hmet
      refine wp_region_inv (by kernel_rfl) (by kernel_rfl) (by kernel_rfl) (fun listed vs wx => ∃ T1 B1 T2 B2, JTwo w10 c k A n cp l c k A n cp l T1 B1 T2 B2 listed vs wx) (fun _ => undef) ?_ ?_ ?_
      · exact ⟨_, _, _, _, JTwo.start _ _ _ _ _ _ _ _ _ _ _ _ _ _⟩
      · rintro listed vs wx i o ho hun hall ⟨T1, B1, T2, B2, hJ⟩
        have hi : i < 8 := (Array.getElem?_eq_some_iff.1 ho).1
        have huf := getD_both hun
        have pp0 := keep_cell hJ.bel p0
        have pp1 := keep_cell hJ.bel p1
        have pp2 := keep_cell hJ.bel p2
        rcases (show i = 0 ∨ i = 1 ∨ i = 2 ∨ i = 3 ∨ i = 4 ∨ i = 5 ∨ i = 6 ∨ i = 7 by omega) with rfl | rfl | rfl | rfl | rfl | rfl | rfl | rfl
        all_goals (simp at ho; subst ho; refine wpOp_here rfl rfl ?_)
        · exact operLoad rfl rfl ((at_other (by kernel_rfl)).trans rfl) pp0 pp1 pp2 ⟨_, rfl, _, _, _, _, hJ.load (.inl ⟨rfl, rfl⟩)⟩
        · have a0 : listed.getD 0 false = true := hall ⟨0, .data⟩ (by simp) rfl
          refine operCall rfl ((at_listed (i := 0) (by kernel_rfl) (by rfl) (by decide) a0 (by simp)).trans (hJ.p a0)) (call_in Try.func46 (by kernel_rfl) rfl) ((twin_any c k A n cp l _ (hL0.below hJ.bel) (by omega) (fun r hr => by have := M1.out r hr; omega)).mono ?_)
          rintro e w' ⟨v, rfl, hO, hb⟩
          obtain ⟨A1, n1, c1, rfl⟩ := hO.isSlice
          exact ⟨_, rfl, _, rfl, _, _, _, _, hJ.call1 huf hb hO⟩
        · exact operLoad rfl rfl ((at_other (by kernel_rfl)).trans rfl) pp0 pp1 pp2 ⟨_, rfl, _, _, _, _, hJ.load (.inr ⟨rfl, rfl⟩)⟩
        · have a2 : listed.getD 2 false = true := hall ⟨2, .data⟩ (by simp) rfl
          refine operCall rfl ((at_listed (i := 2) (by kernel_rfl) (by rfl) (by decide) a2 (by simp)).trans (hJ.q a2)) (call_in Try.func47 (by kernel_rfl) rfl) ((rtwin_any c k A n cp l _ (hL0.below hJ.bel) hn1 M1.out).mono ?_)
          rintro e w' ⟨v, rfl, hO, hb⟩
          obtain ⟨A1, n1, c1, rfl⟩ := hO.isSlice
          exact ⟨_, rfl, _, rfl, _, _, _, _, hJ.call2 huf hb hO⟩
        · exact operNew (d := 21) rfl rfl rfl fun g w' hG hb hg => ⟨_, rfl, _, _, _, _, hJ.new4 huf hb hG hg⟩
        · exact operNew (d := 22) rfl rfl rfl fun g w' hG hb hg => ⟨_, rfl, _, _, _, _, hJ.new5 huf hb hG hg⟩
        · have a1 : listed.getD 1 false = true := hall ⟨1, .data⟩ (by simp) rfl
          have a4 : listed.getD 4 false = true := hall ⟨4, .data⟩ (by simp) rfl
          obtain ⟨A1, n1, c1, e1, e2, e3, e4⟩ := hJ.tp a1
          obtain ⟨g, x, y, z, d1, d2, d3, d4⟩ := hJ.vp a4
          exact operPut rfl rfl rfl ((at_listed (i := 4) (by kernel_rfl) (by rfl) (by decide) a4 (by simp)).trans d1) ((at_listed (i := 1) (by kernel_rfl) (by rfl) (by decide) a1 (by simp)).trans e1) d3 fun w' hG hk => ⟨undef, rfl, _, _, _, _, hJ.put6 a4 a1 d1 e1 hG hk⟩
        · have a3 : listed.getD 3 false = true := hall ⟨3, .data⟩ (by simp) rfl
          have a5 : listed.getD 5 false = true := hall ⟨5, .data⟩ (by simp) rfl
          obtain ⟨A1, n1, c1, e1, e2, e3, e4⟩ := hJ.tq a3
          obtain ⟨g, x, y, z, d1, d2, d3, d4⟩ := hJ.vq a5
          exact operPut rfl rfl rfl ((at_listed (i := 5) (by kernel_rfl) (by rfl) (by decide) a5 (by simp)).trans d1) ((at_listed (i := 3) (by kernel_rfl) (by rfl) (by decide) a3 (by simp)).trans e1) d3 fun w' hG hk => ⟨undef, rfl, _, _, _, _, hJ.put7 a5 a3 d1 e1 hG hk⟩
      · rintro listed vs wx hall ⟨T1, B1, T2, B2, hJ⟩
        obtain ⟨A1, n1, c1, e1, e2, e3, e4⟩ := hJ.tp (hall 1 (by decide))
        obtain ⟨g, x, y, z, d1, d2, d3, d4⟩ := hJ.vp (hall 4 (by decide))
        obtain ⟨A2, n2, c2, f1, f2, f3, f4⟩ := hJ.tq (hall 3 (by decide))
        obtain ⟨g', x', y', z', d1', d2', d3', d4'⟩ := hJ.vq (hall 5 (by decide))
        have d5 := e1.symm.trans (d4 (hall 6 (by decide)))
        have d5' := f1.symm.trans (d4' (hall 7 (by decide)))
        obtain ⟨sl, hsl⟩ := e2.wip
        obtain ⟨rfl, rfl, rfl⟩ : Value.int .i64 c = x ∧ Value.int .u8 k = y ∧ Value.slice A1 n1 c1 = z := by simpa using d5
        obtain ⟨rfl, rfl, rfl⟩ : Value.int .i64 c = x' ∧ Value.int .u8 k = y' ∧ Value.slice A2 n2 c2 = z' := by simpa using d5'
        rw [actAt_all hall]
        refine hmet _ _ ?_
        refine Met.intro (hrel _ _ ?_)
        (repeat apply Exists.intro)
        refine ⟨?rel, rfl⟩
        case rel => exact ⟨g, A1, n1, c1, g', A2, n2, c2, B1, T1.heap.size, sl, d1, d1', d3, d3', e2.now e3, ⟨T2, B2, f2, f3, hJ.sep (hall 1 (by decide)) (hall 3 (by decide))⟩, hsl.frame e3 (fun b h1 h2 => by omega) (Nat.le_refl _), hJ.b1 (hall 1 (by decide)), e3.size, e4 4 (.inl rfl) (hall 4 (by decide)) g d1, e4 5 (.inr rfl) (hall 5 (by decide)) g' d1', hJ.bel⟩
    case rest =>
      obtain ⟨vt, A1, n1, c1, vs, A2, n2, c2, lo, hi, sl, rfl, rfl, hT, hV, hR1, hAs, hWi, hlo, hhi, hg1, hg2, hcb⟩ := hcut
      have hQc := hQ10.below hcb
      have hbc := Below_trans' hb10 hb10.size hcb
      have hsz : w.heap.size < w10.heap.size := hQ10.1.lt
      clear hcb hL0 p0 p1 p2 hS10 hQ10 hb10
      have p0 : wc.cell? ⟨w.heap.size, 0, none⟩ = some (.int .i64 (c)) := (hQc.1).cell 0
      have p1 : wc.cell? ⟨w.heap.size, 1, none⟩ = some (.int .u8 (k)) := (hQc.1).cell 1
      have p2 : wc.cell? ⟨w.heap.size, 2, none⟩ = some (.slice A n cp) := (hQc.1).cell 2
      have q0 : wc.cell? ⟨vt, 0, none⟩ = some (.int .i64 (c)) := (hT).cell 0
      have q1 : wc.cell? ⟨vt, 1, none⟩ = some (.int .u8 (k)) := (hT).cell 1
      have q2 : wc.cell? ⟨vt, 2, none⟩ = some (.slice A1 n1 c1) := (hT).cell 2
      go_upto_region 12 with fail
      go_wp2_with fail
      refine (rsame_any c k A1 n1 c1 l c k A n cp l _ hR1 (h.below hbc)).mono ?_
      rintro e w11 ⟨rfl, hbw⟩
      rw [sameB_self]
      have hT1 := hT.below hbw hT.lt
      have hV1 := hV.below hbw hV.lt
      have hP1 := hQc.1.below hbw hQc.1.lt
      have hAs1 := hAs.below hbw
      have hWi1 := hide (hWi.frame (Frame'.of_below (S := fun _ => False) hbw) (fun _ _ _ h => h) hhi)
      have hb11 := Below_trans' hbc hbc.size hbw
      have hle := hR1.le
      clear p0 p1 p2 q0 q1 q2 hT hV hQc hAs hWi hbw hbc hR1 hhi
      have hF0 : Hid (Frame' (fun b => lo ≤ b ∧ b < hi) w11 w11) := hide (Frame'.refl _ _)
      go_wp2_with fail
      go_loopw [23] (fun i wr => ∃ t : Nat, t ≤ n1 ∧ i = .int .i64 t ∧ Hid (Wip wr lo hi A1 n1 sl) ∧ Hid (Frame' (fun b => lo ≤ b ∧ b < hi) w11 wr)) (fun i _ => n1 - (intOf i).toNat)
      case atStart => exact ⟨0, Nat.zero_le _, rfl, hWi1, hF0⟩
      case round =>
        clear hWi1 hF0
        obtain ⟨t, ht, rfl, hW, hF⟩ := hrel
        by_cases hlt : t < n1
        · obtain ⟨⟨Am, nm, cm⟩, hsl⟩ : ∃ r, sl t = r := ⟨_, rfl⟩
          have HSL := hide hsl
          clear hsl
          obtain ⟨g, off, y, rfl, hg3, hg4, e0, e1, e2, hnm⟩ := hW.out.step hlt HSL.out
          have t2 : wr.cell? ⟨vt, 2, none⟩ = some (.slice (some ⟨g, off, none⟩) n1 c1) := (hF.out.has hT1 (by show ¬ (lo ≤ vt ∧ vt < hi); omega)).cell 2
          have b1 : (0 : Int) ≤ (t : Int) := by omega
          have b2 : (t : Int) < (n1 : Int) := by omega
          have hW' := hide (hW.out.put e1 (-7))
          have hF' := hide (hF.out.setCell (p := ⟨g, off + t * 2 + 1, none⟩) (.inl ⟨hg3, hg4⟩) (.int .i64 (-7)))
          clear hW hF e0
          go_upto_region 18 with fail
          generalize hWW : World.setCell wr _ _ = W2 at hW' hF'
          try rw [hWW]
          clear hWW e1 e2 t2 b1 b2
          go_wp2_with fail
          go_loopw [24] (fun j wr => ∃ s : Nat, s ≤ nm ∧ j = .int .i64 s ∧ Hid (Wip wr lo hi (some ⟨g, off, none⟩) n1 sl) ∧ Hid (Frame' (fun b => lo ≤ b ∧ b < hi) w11 wr)) (fun j _ => nm - (intOf j).toNat)
          case atStart => exact ⟨0, Nat.zero_le _, rfl, hW', hF'⟩
          case round =>
            clear hW' hF'
            obtain ⟨s, hs, rfl, hW, hF⟩ := hrel
            obtain ⟨g', off', y', hgg, _, _, e0, _, _, _⟩ := hW.out.step hlt HSL.out
            cases hgg
            have t2 : wr.cell? ⟨vt, 2, none⟩ = some (.slice (some ⟨g, off, none⟩) n1 c1) := (hF.out.has hT1 (by show ¬ (lo ≤ vt ∧ vt < hi); omega)).cell 2
            have b1 : (0 : Int) ≤ (t : Int) := by omega
            have b2 : (t : Int) < (n1 : Int) := by omega
            by_cases hls : s < nm
            · obtain ⟨b, ob, x, rfl, hb1, hb2, x0, x1⟩ := hW.out.mark hlt HSL.out hls
              have b3 : (0 : Int) ≤ (s : Int) := by omega
              have b4 : (s : Int) < (nm : Int) := by omega
              have hW' := hide (hW.out.put x0 (-7))
              have hF' := hide (hF.out.setCell (p := ⟨b, ob + s, none⟩) (.inl ⟨hb1, hb2⟩) (.int .i64 (-7)))
              clear hW hF
              go_wp2
              go_roundw
              case rel => exact ⟨s + 1, by omega, by go_num, hW', hF'⟩
              case measure => simp [intOf] <;> omega
            · have b4 : ¬ (s : Int) < (nm : Int) := by omega
              go_wp2
              go_roundw
              case rel => exact ⟨t + 1, by omega, by go_num, hW, hF⟩
              case measure => simp [intOf] <;> omega
        · have b2 : ¬ (t : Int) < (n1 : Int) := by omega
          have t2 : wr.cell? ⟨vt, 2, none⟩ = some (.slice A1 n1 c1) := (hF.out.has hT1 (by show ¬ (lo ≤ vt ∧ vt < hi); omega)).cell 2
          have hbr : Below w.heap.size w wr := Frame'.below hb11 hF.out (fun b hb => by omega) hb11.size
          have hPr : Has wr w.heap.size 24 #[.int .i64 c, .int .u8 k, .slice A n cp] := hF.out.has hP1 (by show ¬ (lo ≤ w.heap.size ∧ w.heap.size < hi); omega)
          have hVr := hF.out.has hV1 (by show ¬ (lo ≤ vs ∧ vs < hi); omega)
          have hRr := (hAs1.wipe hF.out).rows
          clear hW hF hlt
          have p0 : wr.cell? ⟨w.heap.size, 0, none⟩ = some (.int .i64 c) := hPr.cell 0
          have p1 : wr.cell? ⟨w.heap.size, 1, none⟩ = some (.int .u8 k) := hPr.cell 1
          have p2 : wr.cell? ⟨w.heap.size, 2, none⟩ = some (.slice A n cp) := hPr.cell 2
          have q0 : wr.cell? ⟨vs, 0, none⟩ = some (.int .i64 c) := hVr.cell 0
          have q1 : wr.cell? ⟨vs, 1, none⟩ = some (.int .u8 k) := hVr.cell 1
          have q2 : wr.cell? ⟨vs, 2, none⟩ = some (.slice A2 n2 c2) := hVr.cell 2
          go_wp2_with fail
          refine (rsame_any c k A n cp l c k A2 n2 c2 l _ (h.below hbr) hRr).mono ?_
          rintro e w12 ⟨rfl, hbw⟩
          rw [sameB_self]
          have hb12 := Below_trans' hbr hbr.size hbw
          clear hbw hbr hPr hVr hRr p0 p1 p2 q0 q1 q2 t2
          go_wp2_with fail
          refine (wakes9_any _).mono ?_
          rintro e w9 ⟨rfl, hbw⟩
          go_wp2
          go_ret
          exact ⟨rfl, Below_trans' hb12 hb12.size hbw⟩
end Go.Proofs.Ytleniljhacnikaa

