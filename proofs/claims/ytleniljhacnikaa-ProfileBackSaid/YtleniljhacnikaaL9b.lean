/-
  The law ProfileBack.
-/
import Derived.Test.YtleniljhacnikaaL9a
import Derived.Test.YtleniljhacnikaaSpecB
namespace Go.Proofs.Ytleniljhacnikaa
open Go.RowKit Go.Proofs
attribute [local go_sem] cell?_more cell?_alloc_some cell?_setCell_far frozen?_alloc_some frozen?_more

theorem pr_eta (r : PR) : r = ⟨r.err, r.c, r.k, r.l⟩ := rfl


set_option maxRecDepth 100000 in
set_option maxHeartbeats 8000000 in
theorem profileBack_any (c k : Int) (A : Option Addr) (n cp : Nat) (l : List Row) (c' k' : Int) (A' : Option Addr) (n' cp' : Nat) (l' : List Row) (c'' k'' : Int) (A'' : Option Addr) (n'' cp'' : Nat) (l'' : List Row) (kb : Int) (Ab : Option Addr) (nb cb : Nat) (mb : List Int) (y : Int) (w : World)
    (h : RRows w A n cp l) (h' : RRows w A' n' cp' l') (h'' : RRows w A'' n'' cp'' l'') (hm : RInts w Ab nb cb mb) (hy : I64 y) :
    Calls Try.prog 11 #[.agg #[.int .i64 c, .int .u8 k, .slice A n cp], .agg #[.int .i64 c', .int .u8 k', .slice A' n' cp'], .agg #[.int .i64 c'', .int .u8 k'', .slice A'' n'' cp''], .agg #[.int .u8 kb, .slice Ab nb cb], .int .i64 y] w fun e w' => e = .returned (.bool true) ∧ Below w.heap.size w w' := by
  have hS0 := ((((Hs.nil w).alloc 24 #[.int .i64 c, .int .u8 k, .slice A n cp]).alloc 24 #[.int .i64 c', .int .u8 k', .slice A' n' cp']).alloc 24 #[.int .i64 c'', .int .u8 k'', .slice A'' n'' cp'']).alloc 63 #[.int .u8 kb, .slice Ab nb cb]
  have hb0 : Below w.heap.size w ((((w.alloc (.cells #[.int .i64 c, .int .u8 k, .slice A n cp] 24)).alloc (.cells #[.int .i64 c', .int .u8 k', .slice A' n' cp'] 24)).alloc (.cells #[.int .i64 c'', .int .u8 k'', .slice A'' n'' cp''] 24)).alloc (.cells #[.int .u8 kb, .slice Ab nb cb] 63)) :=
    ((((Below.refl _ _).alloc (Nat.le_refl _) _).alloc (by simp) _).alloc (by simp; omega) _).alloc (by simp; omega) _
  simp only [World.size_alloc] at hS0
  obtain ⟨hy1, hy2⟩ := hy
  go_enter Try.func11, Try.ntmps11
  go_upto_region 1 with fail
  generalize hW : World.alloc (World.alloc (World.alloc (World.alloc w _) _) _) _ = W0 at hS0 hb0
  try rw [hW]
  clear hW
  have p0 : W0.cell? ⟨w.heap.size, 0, none⟩ = some (.int .i64 c) := hS0.2.2.2.1.cell 0
  have p1 : W0.cell? ⟨w.heap.size, 1, none⟩ = some (.int .u8 k) := hS0.2.2.2.1.cell 1
  have p2 : W0.cell? ⟨w.heap.size, 2, none⟩ = some (.slice A n cp) := hS0.2.2.2.1.cell 2
  have q0 : W0.cell? ⟨w.heap.size + 1, 0, none⟩ = some (.int .i64 c') := hS0.2.2.1.cell 0
  have q1 : W0.cell? ⟨w.heap.size + 1, 1, none⟩ = some (.int .u8 k') := hS0.2.2.1.cell 1
  have q2 : W0.cell? ⟨w.heap.size + 1, 2, none⟩ = some (.slice A' n' cp') := hS0.2.2.1.cell 2
  have r0 : W0.cell? ⟨w.heap.size + 2, 0, none⟩ = some (.int .i64 c'') := hS0.2.1.cell 0
  have r1 : W0.cell? ⟨w.heap.size + 2, 1, none⟩ = some (.int .u8 k'') := hS0.2.1.cell 1
  have r2 : W0.cell? ⟨w.heap.size + 2, 2, none⟩ = some (.slice A'' n'' cp'') := hS0.2.1.cell 2
  have s0 : W0.cell? ⟨w.heap.size + 3, 0, none⟩ = some (.int .u8 kb) := hS0.1.cell 0
  have s1 : W0.cell? ⟨w.heap.size + 3, 1, none⟩ = some (.slice Ab nb cb) := hS0.1.cell 1
  have hbw5 : Below W0.heap.size W0 (W0.alloc (.cells #[.int .i64 c', .int .u8 k', .slice A' n' cp', .int .i64 c'', .int .u8 k'', .slice A'' n'' cp''] 24)) := (Below.refl _ _).alloc (Nat.le_refl _) _
  have hpp := profs2 (Has.new W0 24 #[.int .i64 c', .int .u8 k', .slice A' n' cp', .int .i64 c'', .int .u8 k'', .slice A'' n'' cp'']) ((h'.below hb0).below hbw5) ((h''.below hb0).below hbw5)
  go_wp2_with fail
  refine (right9_any c k A n cp l _ 2 2 _ _ ((h.below hb0).below hbw5) hpp).mono ?_
  rintro e w1 ⟨rfl, hbw6⟩
  have hbw := Below_trans' hbw5 hbw5.size hbw6
  have hS1 := hS0.below hbw
  have hb1 := Below_trans' hb0 hb0.size hbw
  clear hS0 hb0 hbw hbw5 hbw6 hpp p0 p1 p2 q0 q1 q2 r0 r1 r2 s0 s1
  cases hR : rightB c k l [(c', k', l'), (c'', k'', l'')] with
  | false =>
    clear hR
    go_wp2_with fail
    refine (wakes9_any _).mono ?_
    rintro e w9 ⟨rfl, hbw⟩
    go_wp2
    go_ret
    exact ⟨rfl, Below_trans' hb1 hb1.size hbw⟩
  | true =>
    obtain ⟨hk1, hk2, hcc, hkk, hk3, hcc2, hkk2⟩ : checkS c k l = 0 ∧ checkS c' k' l' = 0 ∧ c = c' ∧ k = k' ∧ checkS c'' k'' l'' = 0 ∧ c = c'' ∧ k = k'' := by
      simp only [rightB, List.all_cons, List.all_nil, Bool.and_true, Bool.and_eq_true, decide_eq_true_eq] at hR
      obtain ⟨a1, ⟨a2, a3, a4⟩, a5, a6, a7⟩ := hR
      exact ⟨a1, a2, a3.symm, a4.symm, a5, a6.symm, a7.symm⟩
    subst hcc hkk hcc2 hkk2
    have H1 := hide hk1
    have H2 := hide hk2
    have H3 := hide hk3
    clear hR hk1 hk2 hk3
    have s0 : w1.cell? ⟨w.heap.size + 3, 0, none⟩ = some (.int .u8 kb) := hS1.1.cell 0
    have s1 : w1.cell? ⟨w.heap.size + 3, 1, none⟩ = some (.slice Ab nb cb) := hS1.1.cell 1
    go_wp2_with fail
    refine (bgreat_any kb Ab nb cb mb _ (hm.below hb1)).mono ?_
    rintro e w0 ⟨rfl, hbw⟩
    clear s0 s1
    have hS2 := hS1.below hbw
    have hb0 := Below_trans' hb1 hb1.size hbw
    clear hS1 hb1 hbw
    cases hG : bgreatS mb with
    | true =>
      clear hG
      go_wp2_with fail
      refine (wakes9_any _).mono ?_
      rintro e w9 ⟨rfl, hbw⟩
      go_wp2
      go_ret
      exact ⟨rfl, Below_trans' hb0 hb0.size hbw⟩
    | false =>
      clear hG
      have hQ0 : Fs w0 [fHas w.heap.size 24 #[.int .i64 c, .int .u8 k, .slice A n cp], fHas (w.heap.size + 1) 24 #[.int .i64 c, .int .u8 k, .slice A' n' cp'], fHas (w.heap.size + 2) 24 #[.int .i64 c, .int .u8 k, .slice A'' n'' cp''], fHas (w.heap.size + 3) 63 #[.int .u8 kb, .slice Ab nb cb]] :=
        ⟨hS2.2.2.2.1, hS2.2.2.1, hS2.2.1, hS2.1, trivial⟩
      have hS0 := Fs.nil w0
      clear hS2
      have hlaw := back_law H1.out H2.out H3.out
      obtain ⟨⟨se, sc, sk, sl⟩, hS⟩ : ∃ r, sumP c k l c k l' = r := ⟨_, rfl⟩
      have HS := hide hS
      have HT : Hid (sumP c k l' c k l = ⟨se, sc, sk, sl⟩) := hlaw.1.trans hS
      have HE := hide hlaw.2.1
      have HL := hide hlaw.2.2
      clear hlaw hS
      go_upto_region 3 with fail
      have p0 : w0.cell? ⟨w.heap.size, 0, none⟩ = some (.int .i64 (c)) := (hQ0.1).cell 0
      have p1 : w0.cell? ⟨w.heap.size, 1, none⟩ = some (.int .u8 (k)) := (hQ0.1).cell 1
      have p2 : w0.cell? ⟨w.heap.size, 2, none⟩ = some (.slice A n cp) := (hQ0.1).cell 2
      have b0 : w0.cell? ⟨w.heap.size + 3, 0, none⟩ = some (.int .u8 kb) := hQ0.2.2.2.1.cell 0
      have b1 : w0.cell? ⟨w.heap.size + 3, 1, none⟩ = some (.slice Ab nb cb) := hQ0.2.2.2.1.cell 1
      by_cases hadd : (addP c k l kb mb y).err = 0
      · obtain ⟨La, ea, et⟩ := take_add hadd
        have EA := hide ea
        have ET := hide et
        clear hadd ea et
        go_wp2_with fail
        refine (padd_any c k A n cp l kb Ab nb cb mb y _ (h.below hb0) (hm.below hb0)).mono ?_
        rintro e w1 ⟨Aa, na, ca, rfl, hOk, hbw⟩
        rw [EA.out] at hOk ⊢
        simp only at hOk ⊢
        have hQ1 := hQ0.below hbw
        have hS1 := hS0.below hbw
        have hb1 := Below_trans' hb0 hb0.size hbw
        clear hQ0 hS0 hb0 hbw
        replace hS1 := hS1.rows hOk.rows
        clear hOk
        clear p0 p1 p2 b0 b1
        go_upto_region 4 with fail
        have hbw : Below w1.heap.size w1 (w1.alloc (.cells #[.int .i64 c, .int .u8 k, .slice Aa na ca] 24)) := (Below.refl _ _).alloc (Nat.le_refl _) _
        have hN := Has.new w1 24 #[.int .i64 c, .int .u8 k, .slice Aa na ca]
        have hQ3 := hQ1.below hbw
        have hS3 := (hS1.below hbw).has hN
        have hb3 := Below_trans' hb1 hb1.size hbw
        clear hQ1 hS1 hb1 hN hbw
        generalize hW : World.alloc w1 _ = w3 at hQ3 hS3 hb3
        try rw [hW]
        clear hW
        generalize w1.heap.size = va at hS3 ⊢
        go_upto_region 5 with fail
        have p0 : w3.cell? ⟨va, 0, none⟩ = some (.int .i64 (c)) := (hS3.1).cell 0
        have p1 : w3.cell? ⟨va, 1, none⟩ = some (.int .u8 (k)) := (hS3.1).cell 1
        have p2 : w3.cell? ⟨va, 2, none⟩ = some (.slice Aa na ca) := (hS3.1).cell 2
        have b0 : w3.cell? ⟨w.heap.size + 3, 0, none⟩ = some (.int .u8 kb) := hQ3.2.2.2.1.cell 0
        have b1 : w3.cell? ⟨w.heap.size + 3, 1, none⟩ = some (.slice Ab nb cb) := hQ3.2.2.2.1.cell 1
        go_wp2_with fail
        refine (ptake_any c k Aa na ca La kb Ab nb cb mb y _ hS3.2.1 (hm.below hb3) hy2).mono ?_
        rintro e w4 ⟨At, nt, ct, rfl, hOk, hbw⟩
        rw [ET.out] at hOk ⊢
        simp only at hOk ⊢
        have hQ4 := hQ3.below hbw
        have hS4 := hS3.below hbw
        have hb4 := Below_trans' hb3 hb3.size hbw
        clear hQ3 hS3 hb3 hbw
        replace hS4 := hS4.rows hOk.rows
        clear hOk
        clear p0 p1 p2 b0 b1
        go_upto_region 6 with fail
        have hbw : Below w4.heap.size w4 (w4.alloc (.cells #[.int .i64 c, .int .u8 k, .slice At nt ct] 24)) := (Below.refl _ _).alloc (Nat.le_refl _) _
        have hN := Has.new w4 24 #[.int .i64 c, .int .u8 k, .slice At nt ct]
        have hQ5 := hQ4.below hbw
        have hS5 := (hS4.below hbw).has hN
        have hb5 := Below_trans' hb4 hb4.size hbw
        clear hQ4 hS4 hb4 hN hbw
        generalize hW : World.alloc w4 _ = w5 at hQ5 hS5 hb5
        try rw [hW]
        clear hW
        generalize w4.heap.size = vt0 at hS5 ⊢
        have p0 : w5.cell? ⟨vt0, 0, none⟩ = some (.int .i64 (c)) := (hS5.1).cell 0
        have p1 : w5.cell? ⟨vt0, 1, none⟩ = some (.int .u8 (k)) := (hS5.1).cell 1
        have p2 : w5.cell? ⟨vt0, 2, none⟩ = some (.slice At nt ct) := (hS5.1).cell 2
        have q0 : w5.cell? ⟨w.heap.size, 0, none⟩ = some (.int .i64 (c)) := (hQ5.1).cell 0
        have q1 : w5.cell? ⟨w.heap.size, 1, none⟩ = some (.int .u8 (k)) := (hQ5.1).cell 1
        have q2 : w5.cell? ⟨w.heap.size, 2, none⟩ = some (.slice A n cp) := (hQ5.1).cell 2
        go_wp2_with fail
        refine (rsame_any c k At nt ct l c k A n cp l _ hS5.2.1 (h.below hb5)).mono ?_
        rintro e w2 ⟨rfl, hbw⟩
        rw [sameB_self]
        clear p0 p1 p2 q0 q1 q2
        have hQ2 := hQ5.below hbw
        have hS2 := hS5.below hbw
        have hb2 := Below_trans' hb5 hb5.size hbw
        clear hQ5 hS5 hb5 hbw
        clear hS2
        go_upto_region 8 with fail
        have hS2 := Fs.nil w2
        have p0 : w2.cell? ⟨w.heap.size, 0, none⟩ = some (.int .i64 (c)) := (hQ2.1).cell 0
        have p1 : w2.cell? ⟨w.heap.size, 1, none⟩ = some (.int .u8 (k)) := (hQ2.1).cell 1
        have p2 : w2.cell? ⟨w.heap.size, 2, none⟩ = some (.slice A n cp) := (hQ2.1).cell 2
        have q0 : w2.cell? ⟨w.heap.size + 1, 0, none⟩ = some (.int .i64 (c)) := (hQ2.2.1).cell 0
        have q1 : w2.cell? ⟨w.heap.size + 1, 1, none⟩ = some (.int .u8 (k)) := (hQ2.2.1).cell 1
        have q2 : w2.cell? ⟨w.heap.size + 1, 2, none⟩ = some (.slice A' n' cp') := (hQ2.2.1).cell 2
        go_wp2_with fail
        refine (psum_any c k A n cp l c k A' n' cp' l' _ (h.below hb2) (h'.below hb2)).mono ?_
        rintro e w3 ⟨A5, n5, c5, rfl, hOk, hbw⟩
        rw [HS.out] at hOk ⊢
        simp only at hOk ⊢
        have hQ3 := hQ2.below hbw
        have hS3 := hS2.below hbw
        have hb3 := Below_trans' hb2 hb2.size hbw
        clear hQ2 hS2 hb2 hbw
        replace hS3 := hS3.rows hOk
        clear hOk
        clear p0 p1 p2 q0 q1 q2
        go_upto_region 9 with fail
        have hbw : Below w3.heap.size w3 (w3.alloc (.cells #[.int .i64 sc, .int .u8 sk, .slice A5 n5 c5] 24)) := (Below.refl _ _).alloc (Nat.le_refl _) _
        have hN := Has.new w3 24 #[.int .i64 sc, .int .u8 sk, .slice A5 n5 c5]
        have hQ4 := hQ3.below hbw
        have hS4 := (hS3.below hbw).has hN
        have hb4 := Below_trans' hb3 hb3.size hbw
        clear hQ3 hS3 hb3 hN hbw
        generalize hW : World.alloc w3 _ = w4 at hQ4 hS4 hb4
        try rw [hW]
        clear hW
        generalize w3.heap.size = vp at hS4 ⊢
        have p0 : w4.cell? ⟨w.heap.size, 0, none⟩ = some (.int .i64 (c)) := (hQ4.1).cell 0
        have p1 : w4.cell? ⟨w.heap.size, 1, none⟩ = some (.int .u8 (k)) := (hQ4.1).cell 1
        have p2 : w4.cell? ⟨w.heap.size, 2, none⟩ = some (.slice A n cp) := (hQ4.1).cell 2
        have q0 : w4.cell? ⟨w.heap.size + 1, 0, none⟩ = some (.int .i64 (c)) := (hQ4.2.1).cell 0
        have q1 : w4.cell? ⟨w.heap.size + 1, 1, none⟩ = some (.int .u8 (k)) := (hQ4.2.1).cell 1
        have q2 : w4.cell? ⟨w.heap.size + 1, 2, none⟩ = some (.slice A' n' cp') := (hQ4.2.1).cell 2
        go_wp2_with fail
        refine (psum_any c k A' n' cp' l' c k A n cp l _ (h'.below hb4) (h.below hb4)).mono ?_
        rintro e w5 ⟨A6, n6, c6, rfl, hOk, hbw⟩
        rw [HT.out] at hOk ⊢
        simp only at hOk ⊢
        have hQ5 := hQ4.below hbw
        have hS5 := hS4.below hbw
        have hb5 := Below_trans' hb4 hb4.size hbw
        clear hQ4 hS4 hb4 hbw
        replace hS5 := hS5.rows hOk
        clear hOk
        clear p0 p1 p2 q0 q1 q2
        go_upto_region 10 with fail
        have hbw : Below w5.heap.size w5 (w5.alloc (.cells #[.int .i64 sc, .int .u8 sk, .slice A6 n6 c6] 24)) := (Below.refl _ _).alloc (Nat.le_refl _) _
        have hN := Has.new w5 24 #[.int .i64 sc, .int .u8 sk, .slice A6 n6 c6]
        have hQ6 := hQ5.below hbw
        have hS6 := (hS5.below hbw).has hN
        have hb6 := Below_trans' hb5 hb5.size hbw
        clear hQ5 hS5 hb5 hN hbw
        generalize hW : World.alloc w5 _ = w6 at hQ6 hS6 hb6
        try rw [hW]
        clear hW
        generalize w5.heap.size = vq at hS6 ⊢
        have p0 : w6.cell? ⟨vp, 0, none⟩ = some (.int .i64 (sc)) := (hS6.2.2.1).cell 0
        have p1 : w6.cell? ⟨vp, 1, none⟩ = some (.int .u8 (sk)) := (hS6.2.2.1).cell 1
        have p2 : w6.cell? ⟨vp, 2, none⟩ = some (.slice A5 n5 c5) := (hS6.2.2.1).cell 2
        have q0 : w6.cell? ⟨vq, 0, none⟩ = some (.int .i64 (sc)) := (hS6.1).cell 0
        have q1 : w6.cell? ⟨vq, 1, none⟩ = some (.int .u8 (sk)) := (hS6.1).cell 1
        have q2 : w6.cell? ⟨vq, 2, none⟩ = some (.slice A6 n6 c6) := (hS6.1).cell 2
        have hse : (se != se) = false := by simp
        go_wp2_with fail
        refine (rsame_any sc sk A5 n5 c5 sl sc sk A6 n6 c6 sl _ hS6.2.2.2.1 hS6.2.1).mono ?_
        rintro e w7 ⟨rfl, hbw⟩
        rw [sameB_self]
        clear p0 p1 p2 q0 q1 q2 hse
        have hQ7 := hQ6.below hbw
        have hS7 := hS6.below hbw
        have hb7 := Below_trans' hb6 hb6.size hbw
        clear hQ6 hS6 hb6 hbw
        by_cases hz : se = 0
        · obtain ⟨L, eL, ckL, eM, hcase⟩ := HL.out (by rw [HS.out]; exact hz)
          rw [HS.out] at eL
          obtain ⟨rfl, rfl, rfl, rfl⟩ : se = 0 ∧ sc = c ∧ sk = k ∧ sl = L := by cases eL; exact ⟨rfl, rfl, rfl, rfl⟩
          have CL := hide ckL
          have EM := hide eM
          have HC := hide hcase
          clear ckL eM hcase eL hz
          go_upto_region 14 with fail
          have p0 : w7.cell? ⟨vp, 0, none⟩ = some (.int .i64 (sc)) := (hS7.2.2.1).cell 0
          have p1 : w7.cell? ⟨vp, 1, none⟩ = some (.int .u8 (sk)) := (hS7.2.2.1).cell 1
          have p2 : w7.cell? ⟨vp, 2, none⟩ = some (.slice A5 n5 c5) := (hS7.2.2.1).cell 2
          have q0 : w7.cell? ⟨w.heap.size + 1, 0, none⟩ = some (.int .i64 (sc)) := (hQ7.2.1).cell 0
          have q1 : w7.cell? ⟨w.heap.size + 1, 1, none⟩ = some (.int .u8 (sk)) := (hQ7.2.1).cell 1
          have q2 : w7.cell? ⟨w.heap.size + 1, 2, none⟩ = some (.slice A' n' cp') := (hQ7.2.1).cell 2
          go_wp2_with fail
          refine (pminus_any sc sk A5 n5 c5 sl sc sk A' n' cp' l' _ hS7.2.2.2.1 (h'.below hb7)).mono ?_
          rintro e w8 ⟨A7, n7, c7, rfl, hOk, hbw⟩
          rw [EM.out] at hOk ⊢
          simp only at hOk ⊢
          have hQ8 := hQ7.below hbw
          have hS8 := hS7.below hbw
          have hb8 := Below_trans' hb7 hb7.size hbw
          clear hQ7 hS7 hb7 hbw
          replace hS8 := hS8.rows hOk.rows
          clear hOk
          clear p0 p1 p2 q0 q1 q2
          go_upto_region 15 with fail
          have hbw : Below w8.heap.size w8 (w8.alloc (.cells #[.int .i64 sc, .int .u8 sk, .slice A7 n7 c7] 24)) := (Below.refl _ _).alloc (Nat.le_refl _) _
          have hN := Has.new w8 24 #[.int .i64 sc, .int .u8 sk, .slice A7 n7 c7]
          have hQ9 := hQ8.below hbw
          have hS9 := (hS8.below hbw).has hN
          have hb9 := Below_trans' hb8 hb8.size hbw
          clear hQ8 hS8 hb8 hN hbw
          generalize hW : World.alloc w8 _ = w9 at hQ9 hS9 hb9
          try rw [hW]
          clear hW
          generalize w8.heap.size = vm at hS9 ⊢
          have p0 : w9.cell? ⟨vm, 0, none⟩ = some (.int .i64 (sc)) := (hS9.1).cell 0
          have p1 : w9.cell? ⟨vm, 1, none⟩ = some (.int .u8 (sk)) := (hS9.1).cell 1
          have p2 : w9.cell? ⟨vm, 2, none⟩ = some (.slice A7 n7 c7) := (hS9.1).cell 2
          have q0 : w9.cell? ⟨w.heap.size, 0, none⟩ = some (.int .i64 (sc)) := (hQ9.1).cell 0
          have q1 : w9.cell? ⟨w.heap.size, 1, none⟩ = some (.int .u8 (sk)) := (hQ9.1).cell 1
          have q2 : w9.cell? ⟨w.heap.size, 2, none⟩ = some (.slice A n cp) := (hQ9.1).cell 2
          go_wp2_with fail
          refine (rsame_any sc sk A7 n7 c7 l sc sk A n cp l _ hS9.2.1 (h.below hb9)).mono ?_
          rintro e w10 ⟨rfl, hbw⟩
          rw [sameB_self]
          clear p0 p1 p2 q0 q1 q2
          have hQ10 := hQ9.below hbw
          have hS10 := hS9.below hbw
          have hb10 := Below_trans' hb9 hb9.size hbw
          clear hQ9 hS9 hb9 hbw
          go_upto_region 17 with fail
          obtain ⟨⟨te, tc, tk, tl⟩, hT2⟩ : ∃ r, sumP sc sk l' sc sk l'' = r := ⟨_, rfl⟩
          obtain ⟨⟨ue, uc, uk, ul⟩, hU2⟩ : ∃ r, sumP sc sk sl sc sk l'' = r := ⟨_, rfl⟩
          rw [hT2, hU2] at HC
          have HT2 := hide hT2
          have HU2 := hide hU2
          clear hT2 hU2
          have p0 : w10.cell? ⟨w.heap.size + 1, 0, none⟩ = some (.int .i64 (sc)) := (hQ10.2.1).cell 0
          have p1 : w10.cell? ⟨w.heap.size + 1, 1, none⟩ = some (.int .u8 (sk)) := (hQ10.2.1).cell 1
          have p2 : w10.cell? ⟨w.heap.size + 1, 2, none⟩ = some (.slice A' n' cp') := (hQ10.2.1).cell 2
          have q0 : w10.cell? ⟨w.heap.size + 2, 0, none⟩ = some (.int .i64 (sc)) := (hQ10.2.2.1).cell 0
          have q1 : w10.cell? ⟨w.heap.size + 2, 1, none⟩ = some (.int .u8 (sk)) := (hQ10.2.2.1).cell 1
          have q2 : w10.cell? ⟨w.heap.size + 2, 2, none⟩ = some (.slice A'' n'' cp'') := (hQ10.2.2.1).cell 2
          go_wp2_with fail
          refine (psum_any sc sk A' n' cp' l' sc sk A'' n'' cp'' l'' _ (h'.below hb10) (h''.below hb10)).mono ?_
          rintro e w11 ⟨A8, n8, c8, rfl, hOk, hbw⟩
          rw [HT2.out] at hOk ⊢
          simp only at hOk ⊢
          have hQ11 := hQ10.below hbw
          have hS11 := hS10.below hbw
          have hb11 := Below_trans' hb10 hb10.size hbw
          clear hQ10 hS10 hb10 hbw
          replace hS11 := hS11.rows hOk
          clear hOk
          clear p0 p1 p2 q0 q1 q2
          go_upto_region 18 with fail
          have hbw : Below w11.heap.size w11 (w11.alloc (.cells #[.int .i64 tc, .int .u8 tk, .slice A8 n8 c8] 24)) := (Below.refl _ _).alloc (Nat.le_refl _) _
          have hN := Has.new w11 24 #[.int .i64 tc, .int .u8 tk, .slice A8 n8 c8]
          have hQ12 := hQ11.below hbw
          have hS12 := (hS11.below hbw).has hN
          have hb12 := Below_trans' hb11 hb11.size hbw
          clear hQ11 hS11 hb11 hN hbw
          generalize hW : World.alloc w11 _ = w12 at hQ12 hS12 hb12
          try rw [hW]
          clear hW
          generalize w11.heap.size = vt at hS12 ⊢
          have p0 : w12.cell? ⟨vp, 0, none⟩ = some (.int .i64 (sc)) := (hS12.2.2.2.2.2.2.1).cell 0
          have p1 : w12.cell? ⟨vp, 1, none⟩ = some (.int .u8 (sk)) := (hS12.2.2.2.2.2.2.1).cell 1
          have p2 : w12.cell? ⟨vp, 2, none⟩ = some (.slice A5 n5 c5) := (hS12.2.2.2.2.2.2.1).cell 2
          have q0 : w12.cell? ⟨w.heap.size + 2, 0, none⟩ = some (.int .i64 (sc)) := (hQ12.2.2.1).cell 0
          have q1 : w12.cell? ⟨w.heap.size + 2, 1, none⟩ = some (.int .u8 (sk)) := (hQ12.2.2.1).cell 1
          have q2 : w12.cell? ⟨w.heap.size + 2, 2, none⟩ = some (.slice A'' n'' cp'') := (hQ12.2.2.1).cell 2
          go_wp2_with fail
          refine (psum_any sc sk A5 n5 c5 sl sc sk A'' n'' cp'' l'' _ hS12.2.2.2.2.2.2.2.1 (h''.below hb12)).mono ?_
          rintro e w13 ⟨A9, n9, c9, rfl, hOk, hbw⟩
          rw [HU2.out] at hOk ⊢
          simp only at hOk ⊢
          have hQ13 := hQ12.below hbw
          have hS13 := hS12.below hbw
          have hb13 := Below_trans' hb12 hb12.size hbw
          clear hQ12 hS12 hb12 hbw
          replace hS13 := hS13.rows hOk
          clear hOk
          clear p0 p1 p2 q0 q1 q2
          go_upto_region 19 with fail
          have hbw : Below w13.heap.size w13 (w13.alloc (.cells #[.int .i64 uc, .int .u8 uk, .slice A9 n9 c9] 24)) := (Below.refl _ _).alloc (Nat.le_refl _) _
          have hN := Has.new w13 24 #[.int .i64 uc, .int .u8 uk, .slice A9 n9 c9]
          have hQ14 := hQ13.below hbw
          have hS14 := (hS13.below hbw).has hN
          have hb14 := Below_trans' hb13 hb13.size hbw
          clear hQ13 hS13 hb13 hN hbw
          generalize hW : World.alloc w13 _ = w14 at hQ14 hS14 hb14
          try rw [hW]
          clear hW
          generalize w13.heap.size = vu at hS14 ⊢
          go_upto_region 20 with fail
          rcases HC.out with ⟨g1, L2, g2, g3⟩ | ⟨g1, g2⟩
          · obtain ⟨rfl, rfl, rfl, rfl⟩ : te = 0 ∧ tc = sc ∧ tk = sk ∧ tl = L2 := by cases g2; exact ⟨rfl, rfl, rfl, rfl⟩
            have G3 := hide g3
            clear g1 g2 g3 HC
            have hV : Has (w14.alloc (.cells #[.int .i64 0, .int .u8 0, .slice none 0 0] 24)) w14.heap.size 24 #[.int .i64 0, .int .u8 0, .slice none 0 0] := Has.new _ _ _
            have hba : Below w14.heap.size w14 (w14.alloc (.cells #[.int .i64 0, .int .u8 0, .slice none 0 0] 24)) := (Below.refl _ _).alloc (Nat.le_refl _) _
            have hlt : w14.heap.size + 1 ≤ (w14.alloc (.cells #[.int .i64 0, .int .u8 0, .slice none 0 0] 24)).heap.size := by simp
            have hQ15 := hQ14.below hba
            have hS15 := hS14.below hba
            have hb15 := Below_trans' hb14 hb14.size hba
            generalize hW : World.alloc w14 _ = w15 at hV hba hlt hQ15 hS15 hb15
            try rw [hW]
            clear hW
            have HX : Hid (sumP tc tk l tc tk tl = ⟨ue, uc, uk, ul⟩) := G3.out.symm
            have p0 : w15.cell? ⟨w.heap.size, 0, none⟩ = some (.int .i64 (tc)) := (hQ15.1).cell 0
            have p1 : w15.cell? ⟨w.heap.size, 1, none⟩ = some (.int .u8 (tk)) := (hQ15.1).cell 1
            have p2 : w15.cell? ⟨w.heap.size, 2, none⟩ = some (.slice A n cp) := (hQ15.1).cell 2
            have q0 : w15.cell? ⟨vt, 0, none⟩ = some (.int .i64 (tc)) := (hS15.2.2.1).cell 0
            have q1 : w15.cell? ⟨vt, 1, none⟩ = some (.int .u8 (tk)) := (hS15.2.2.1).cell 1
            have q2 : w15.cell? ⟨vt, 2, none⟩ = some (.slice A8 n8 c8) := (hS15.2.2.1).cell 2
            go_wp2_with fail
            refine (psumO_any tc tk A n cp l tc tk A8 n8 c8 tl _ (h.below hb15) hS15.2.2.2.1).mono ?_
            rintro e w16 ⟨AX, nX, cX, rfl, hOk, hbw⟩
            rw [HX.out] at hOk ⊢
            simp only at hOk ⊢
            clear p0 p1 p2 q0 q1 q2 hQ15 hS15 hb15
            have hV16 := hV.below hbw hV.lt
            have hb16 := Below_trans' hba hba.size hbw
            have hV17 := put3 (x' := .int .i64 uc) (y' := .int .u8 uk) (z' := .slice AX nX cX) hV16
            have hb17' := below3 hb16 (Nat.le_refl w14.heap.size) (.int .i64 uc) (.int .u8 uk) (.slice AX nX cX)
            have hO17 := (hOk.mono hlt).frame (frame3 w16 w14.heap.size (.int .i64 uc) (.int .u8 uk) (.slice AX nX cX)) (fun b hb _ e => by have e : b = w14.heap.size := e; omega)
            have p0 : w16.cell? ⟨w14.heap.size, 0, none⟩ = some (.int .i64 0) := hV16.cell 0
            have p1 : w16.cell? ⟨w14.heap.size, 1, none⟩ = some (.int .u8 0) := hV16.cell 1
            have p2 : w16.cell? ⟨w14.heap.size, 2, none⟩ = some (.slice none 0 0) := hV16.cell 2
            have f0 := hV16.free 0
            have f1 := hV16.free 1
            have f2 := hV16.free 2
            clear hV hba hlt hOk hbw hb16 hV16
            go_upto_region 22 with fail
            generalize hW : World.setCell (World.setCell (World.setCell w16 _ _) _ _) _ _ = w17 at hV17 hb17' hO17
            try rw [hW]
            clear hW p0 p1 p2 f0 f1 f2
            have hS17 := hS14.below hb17'
            have hb17 := Below_trans' hb14 hb14.size hb17'
            clear hb17' hQ14 hS14 hb14
            have hrX := hO17.rows
            by_cases hue : ue = 0
            · have b1 : (ue == 0) = true := by simpa using hue
              have b2 : (ue != 0) = false := by simpa using hue
              clear hue
              have p0 : w17.cell? ⟨vu, 0, none⟩ = some (.int .i64 (uc)) := (hS17.1).cell 0
              have p1 : w17.cell? ⟨vu, 1, none⟩ = some (.int .u8 (uk)) := (hS17.1).cell 1
              have p2 : w17.cell? ⟨vu, 2, none⟩ = some (.slice A9 n9 c9) := (hS17.1).cell 2
              have q0 : w17.cell? ⟨w14.heap.size, 0, none⟩ = some (.int .i64 (uc)) := (hV17).cell 0
              have q1 : w17.cell? ⟨w14.heap.size, 1, none⟩ = some (.int .u8 (uk)) := (hV17).cell 1
              have q2 : w17.cell? ⟨w14.heap.size, 2, none⟩ = some (.slice AX nX cX) := (hV17).cell 2
              go_wp2_with fail
              refine (rsame_any uc uk A9 n9 c9 ul uc uk AX nX cX ul _ hS17.2.1 hrX).mono ?_
              rintro e w18 ⟨rfl, hbw⟩
              rw [sameB_self]
              clear p0 p1 p2 q0 q1 q2
              have hb18 := Below_trans' hb17 hb17.size hbw
              clear hS17 hb17 hbw
              go_wp2_with fail
              refine (wakes9_any _).mono ?_
              rintro e w9 ⟨rfl, hbw⟩
              go_wp2
              go_ret
              exact ⟨rfl, Below_trans' hb18 hb18.size hbw⟩
            · have b1 : (ue == 0) = false := by simpa using hue
              have b2 : (ue != 0) = true := by simpa using hue
              clear hue
              go_wp2_with fail
              refine (wakes9_any _).mono ?_
              rintro e w9 ⟨rfl, hbw⟩
              go_wp2
              go_ret
              exact ⟨rfl, Below_trans' hb17 hb17.size hbw⟩
          · have hte : (te == 0) = false := by simpa using g1
            have hue : (ue == 0) = false := by simpa using g2
            have hue' : (ue != 0) = true := by simpa using g2
            clear g1 g2 HC
            have hbw : Below w14.heap.size w14 (w14.alloc (.cells #[.int .i64 0, .int .u8 0, .slice none 0 0] 24)) := (Below.refl _ _).alloc (Nat.le_refl _) _
            have hb15 := Below_trans' hb14 hb14.size hbw
            clear hbw hQ14 hS14 hb14
            go_wp2_with fail
            refine (wakes9_any _).mono ?_
            rintro e w9 ⟨rfl, hbw⟩
            go_wp2
            go_ret
            exact ⟨rfl, Below_trans' hb15 hb15.size hbw⟩
        · have hz' : (se != 0) = true := by simpa using hz
          have H3 := HE.out
          rw [HS.out] at H3
          rcases (H3.resolve_left hz : se = 9 ∨ se = 4) with rfl | rfl
          · clear hz hz' H3
            go_wp2_with fail
            refine (wakes9_any _).mono ?_
            rintro e w9 ⟨rfl, hbw⟩
            go_wp2
            go_ret
            exact ⟨rfl, Below_trans' hb7 hb7.size hbw⟩
          · clear hz hz' H3
            go_wp2_with fail
            refine (wakes9_any _).mono ?_
            rintro e w9 ⟨rfl, hbw⟩
            go_wp2
            go_ret
            exact ⟨rfl, Below_trans' hb7 hb7.size hbw⟩
      · have hne : ((addP c k l kb mb y).err == 0) = false := by simpa using hadd
        obtain ⟨⟨ae, ac, ak, al⟩, hA⟩ : ∃ r, addP c k l kb mb y = r := ⟨_, rfl⟩
        rw [hA] at hne
        have HA := hide hA
        clear hadd hA
        simp only at hne
        go_wp2_with fail
        refine (padd_any c k A n cp l kb Ab nb cb mb y _ (h.below hb0) (hm.below hb0)).mono ?_
        rintro e w1 ⟨Aa, na, ca, rfl, hOk, hbw⟩
        rw [HA.out] at hOk ⊢
        simp only at hOk ⊢
        have hQ1 := hQ0.below hbw
        have hS1 := hS0.below hbw
        have hb1 := Below_trans' hb0 hb0.size hbw
        clear hQ0 hS0 hb0 hbw
        replace hS1 := hS1.rows hOk.rows
        clear hOk
        clear p0 p1 p2 b0 b1
        go_upto_region 4 with fail
        have hbw : Below w1.heap.size w1 (w1.alloc (.cells #[.int .i64 ac, .int .u8 ak, .slice Aa na ca] 24)) := (Below.refl _ _).alloc (Nat.le_refl _) _
        have hQ2 := hQ1.below hbw
        have hS2 := hS1.below hbw
        have hb2 := Below_trans' hb1 hb1.size hbw
        clear hQ1 hS1 hb1 hbw
        generalize hW : World.alloc w1 _ = w2 at hQ2 hS2 hb2
        try rw [hW]
        clear hW
        clear hS2
        go_upto_region 8 with fail
        have hS2 := Fs.nil w2
        have p0 : w2.cell? ⟨w.heap.size, 0, none⟩ = some (.int .i64 (c)) := (hQ2.1).cell 0
        have p1 : w2.cell? ⟨w.heap.size, 1, none⟩ = some (.int .u8 (k)) := (hQ2.1).cell 1
        have p2 : w2.cell? ⟨w.heap.size, 2, none⟩ = some (.slice A n cp) := (hQ2.1).cell 2
        have q0 : w2.cell? ⟨w.heap.size + 1, 0, none⟩ = some (.int .i64 (c)) := (hQ2.2.1).cell 0
        have q1 : w2.cell? ⟨w.heap.size + 1, 1, none⟩ = some (.int .u8 (k)) := (hQ2.2.1).cell 1
        have q2 : w2.cell? ⟨w.heap.size + 1, 2, none⟩ = some (.slice A' n' cp') := (hQ2.2.1).cell 2
        go_wp2_with fail
        refine (psum_any c k A n cp l c k A' n' cp' l' _ (h.below hb2) (h'.below hb2)).mono ?_
        rintro e w3 ⟨A5, n5, c5, rfl, hOk, hbw⟩
        rw [HS.out] at hOk ⊢
        simp only at hOk ⊢
        have hQ3 := hQ2.below hbw
        have hS3 := hS2.below hbw
        have hb3 := Below_trans' hb2 hb2.size hbw
        clear hQ2 hS2 hb2 hbw
        replace hS3 := hS3.rows hOk
        clear hOk
        clear p0 p1 p2 q0 q1 q2
        go_upto_region 9 with fail
        have hbw : Below w3.heap.size w3 (w3.alloc (.cells #[.int .i64 sc, .int .u8 sk, .slice A5 n5 c5] 24)) := (Below.refl _ _).alloc (Nat.le_refl _) _
        have hN := Has.new w3 24 #[.int .i64 sc, .int .u8 sk, .slice A5 n5 c5]
        have hQ4 := hQ3.below hbw
        have hS4 := (hS3.below hbw).has hN
        have hb4 := Below_trans' hb3 hb3.size hbw
        clear hQ3 hS3 hb3 hN hbw
        generalize hW : World.alloc w3 _ = w4 at hQ4 hS4 hb4
        try rw [hW]
        clear hW
        generalize w3.heap.size = vp at hS4 ⊢
        have p0 : w4.cell? ⟨w.heap.size, 0, none⟩ = some (.int .i64 (c)) := (hQ4.1).cell 0
        have p1 : w4.cell? ⟨w.heap.size, 1, none⟩ = some (.int .u8 (k)) := (hQ4.1).cell 1
        have p2 : w4.cell? ⟨w.heap.size, 2, none⟩ = some (.slice A n cp) := (hQ4.1).cell 2
        have q0 : w4.cell? ⟨w.heap.size + 1, 0, none⟩ = some (.int .i64 (c)) := (hQ4.2.1).cell 0
        have q1 : w4.cell? ⟨w.heap.size + 1, 1, none⟩ = some (.int .u8 (k)) := (hQ4.2.1).cell 1
        have q2 : w4.cell? ⟨w.heap.size + 1, 2, none⟩ = some (.slice A' n' cp') := (hQ4.2.1).cell 2
        go_wp2_with fail
        refine (psum_any c k A' n' cp' l' c k A n cp l _ (h'.below hb4) (h.below hb4)).mono ?_
        rintro e w5 ⟨A6, n6, c6, rfl, hOk, hbw⟩
        rw [HT.out] at hOk ⊢
        simp only at hOk ⊢
        have hQ5 := hQ4.below hbw
        have hS5 := hS4.below hbw
        have hb5 := Below_trans' hb4 hb4.size hbw
        clear hQ4 hS4 hb4 hbw
        replace hS5 := hS5.rows hOk
        clear hOk
        clear p0 p1 p2 q0 q1 q2
        go_upto_region 10 with fail
        have hbw : Below w5.heap.size w5 (w5.alloc (.cells #[.int .i64 sc, .int .u8 sk, .slice A6 n6 c6] 24)) := (Below.refl _ _).alloc (Nat.le_refl _) _
        have hN := Has.new w5 24 #[.int .i64 sc, .int .u8 sk, .slice A6 n6 c6]
        have hQ6 := hQ5.below hbw
        have hS6 := (hS5.below hbw).has hN
        have hb6 := Below_trans' hb5 hb5.size hbw
        clear hQ5 hS5 hb5 hN hbw
        generalize hW : World.alloc w5 _ = w6 at hQ6 hS6 hb6
        try rw [hW]
        clear hW
        generalize w5.heap.size = vq at hS6 ⊢
        have p0 : w6.cell? ⟨vp, 0, none⟩ = some (.int .i64 (sc)) := (hS6.2.2.1).cell 0
        have p1 : w6.cell? ⟨vp, 1, none⟩ = some (.int .u8 (sk)) := (hS6.2.2.1).cell 1
        have p2 : w6.cell? ⟨vp, 2, none⟩ = some (.slice A5 n5 c5) := (hS6.2.2.1).cell 2
        have q0 : w6.cell? ⟨vq, 0, none⟩ = some (.int .i64 (sc)) := (hS6.1).cell 0
        have q1 : w6.cell? ⟨vq, 1, none⟩ = some (.int .u8 (sk)) := (hS6.1).cell 1
        have q2 : w6.cell? ⟨vq, 2, none⟩ = some (.slice A6 n6 c6) := (hS6.1).cell 2
        have hse : (se != se) = false := by simp
        go_wp2_with fail
        refine (rsame_any sc sk A5 n5 c5 sl sc sk A6 n6 c6 sl _ hS6.2.2.2.1 hS6.2.1).mono ?_
        rintro e w7 ⟨rfl, hbw⟩
        rw [sameB_self]
        clear p0 p1 p2 q0 q1 q2 hse
        have hQ7 := hQ6.below hbw
        have hS7 := hS6.below hbw
        have hb7 := Below_trans' hb6 hb6.size hbw
        clear hQ6 hS6 hb6 hbw
        by_cases hz : se = 0
        · obtain ⟨L, eL, ckL, eM, hcase⟩ := HL.out (by rw [HS.out]; exact hz)
          rw [HS.out] at eL
          obtain ⟨rfl, rfl, rfl, rfl⟩ : se = 0 ∧ sc = c ∧ sk = k ∧ sl = L := by cases eL; exact ⟨rfl, rfl, rfl, rfl⟩
          have CL := hide ckL
          have EM := hide eM
          have HC := hide hcase
          clear ckL eM hcase eL hz
          go_upto_region 14 with fail
          have p0 : w7.cell? ⟨vp, 0, none⟩ = some (.int .i64 (sc)) := (hS7.2.2.1).cell 0
          have p1 : w7.cell? ⟨vp, 1, none⟩ = some (.int .u8 (sk)) := (hS7.2.2.1).cell 1
          have p2 : w7.cell? ⟨vp, 2, none⟩ = some (.slice A5 n5 c5) := (hS7.2.2.1).cell 2
          have q0 : w7.cell? ⟨w.heap.size + 1, 0, none⟩ = some (.int .i64 (sc)) := (hQ7.2.1).cell 0
          have q1 : w7.cell? ⟨w.heap.size + 1, 1, none⟩ = some (.int .u8 (sk)) := (hQ7.2.1).cell 1
          have q2 : w7.cell? ⟨w.heap.size + 1, 2, none⟩ = some (.slice A' n' cp') := (hQ7.2.1).cell 2
          go_wp2_with fail
          refine (pminus_any sc sk A5 n5 c5 sl sc sk A' n' cp' l' _ hS7.2.2.2.1 (h'.below hb7)).mono ?_
          rintro e w8 ⟨A7, n7, c7, rfl, hOk, hbw⟩
          rw [EM.out] at hOk ⊢
          simp only at hOk ⊢
          have hQ8 := hQ7.below hbw
          have hS8 := hS7.below hbw
          have hb8 := Below_trans' hb7 hb7.size hbw
          clear hQ7 hS7 hb7 hbw
          replace hS8 := hS8.rows hOk.rows
          clear hOk
          clear p0 p1 p2 q0 q1 q2
          go_upto_region 15 with fail
          have hbw : Below w8.heap.size w8 (w8.alloc (.cells #[.int .i64 sc, .int .u8 sk, .slice A7 n7 c7] 24)) := (Below.refl _ _).alloc (Nat.le_refl _) _
          have hN := Has.new w8 24 #[.int .i64 sc, .int .u8 sk, .slice A7 n7 c7]
          have hQ9 := hQ8.below hbw
          have hS9 := (hS8.below hbw).has hN
          have hb9 := Below_trans' hb8 hb8.size hbw
          clear hQ8 hS8 hb8 hN hbw
          generalize hW : World.alloc w8 _ = w9 at hQ9 hS9 hb9
          try rw [hW]
          clear hW
          generalize w8.heap.size = vm at hS9 ⊢
          have p0 : w9.cell? ⟨vm, 0, none⟩ = some (.int .i64 (sc)) := (hS9.1).cell 0
          have p1 : w9.cell? ⟨vm, 1, none⟩ = some (.int .u8 (sk)) := (hS9.1).cell 1
          have p2 : w9.cell? ⟨vm, 2, none⟩ = some (.slice A7 n7 c7) := (hS9.1).cell 2
          have q0 : w9.cell? ⟨w.heap.size, 0, none⟩ = some (.int .i64 (sc)) := (hQ9.1).cell 0
          have q1 : w9.cell? ⟨w.heap.size, 1, none⟩ = some (.int .u8 (sk)) := (hQ9.1).cell 1
          have q2 : w9.cell? ⟨w.heap.size, 2, none⟩ = some (.slice A n cp) := (hQ9.1).cell 2
          go_wp2_with fail
          refine (rsame_any sc sk A7 n7 c7 l sc sk A n cp l _ hS9.2.1 (h.below hb9)).mono ?_
          rintro e w10 ⟨rfl, hbw⟩
          rw [sameB_self]
          clear p0 p1 p2 q0 q1 q2
          have hQ10 := hQ9.below hbw
          have hS10 := hS9.below hbw
          have hb10 := Below_trans' hb9 hb9.size hbw
          clear hQ9 hS9 hb9 hbw
          go_upto_region 17 with fail
          obtain ⟨⟨te, tc, tk, tl⟩, hT2⟩ : ∃ r, sumP sc sk l' sc sk l'' = r := ⟨_, rfl⟩
          obtain ⟨⟨ue, uc, uk, ul⟩, hU2⟩ : ∃ r, sumP sc sk sl sc sk l'' = r := ⟨_, rfl⟩
          rw [hT2, hU2] at HC
          have HT2 := hide hT2
          have HU2 := hide hU2
          clear hT2 hU2
          have p0 : w10.cell? ⟨w.heap.size + 1, 0, none⟩ = some (.int .i64 (sc)) := (hQ10.2.1).cell 0
          have p1 : w10.cell? ⟨w.heap.size + 1, 1, none⟩ = some (.int .u8 (sk)) := (hQ10.2.1).cell 1
          have p2 : w10.cell? ⟨w.heap.size + 1, 2, none⟩ = some (.slice A' n' cp') := (hQ10.2.1).cell 2
          have q0 : w10.cell? ⟨w.heap.size + 2, 0, none⟩ = some (.int .i64 (sc)) := (hQ10.2.2.1).cell 0
          have q1 : w10.cell? ⟨w.heap.size + 2, 1, none⟩ = some (.int .u8 (sk)) := (hQ10.2.2.1).cell 1
          have q2 : w10.cell? ⟨w.heap.size + 2, 2, none⟩ = some (.slice A'' n'' cp'') := (hQ10.2.2.1).cell 2
          go_wp2_with fail
          refine (psum_any sc sk A' n' cp' l' sc sk A'' n'' cp'' l'' _ (h'.below hb10) (h''.below hb10)).mono ?_
          rintro e w11 ⟨A8, n8, c8, rfl, hOk, hbw⟩
          rw [HT2.out] at hOk ⊢
          simp only at hOk ⊢
          have hQ11 := hQ10.below hbw
          have hS11 := hS10.below hbw
          have hb11 := Below_trans' hb10 hb10.size hbw
          clear hQ10 hS10 hb10 hbw
          replace hS11 := hS11.rows hOk
          clear hOk
          clear p0 p1 p2 q0 q1 q2
          go_upto_region 18 with fail
          have hbw : Below w11.heap.size w11 (w11.alloc (.cells #[.int .i64 tc, .int .u8 tk, .slice A8 n8 c8] 24)) := (Below.refl _ _).alloc (Nat.le_refl _) _
          have hN := Has.new w11 24 #[.int .i64 tc, .int .u8 tk, .slice A8 n8 c8]
          have hQ12 := hQ11.below hbw
          have hS12 := (hS11.below hbw).has hN
          have hb12 := Below_trans' hb11 hb11.size hbw
          clear hQ11 hS11 hb11 hN hbw
          generalize hW : World.alloc w11 _ = w12 at hQ12 hS12 hb12
          try rw [hW]
          clear hW
          generalize w11.heap.size = vt at hS12 ⊢
          have p0 : w12.cell? ⟨vp, 0, none⟩ = some (.int .i64 (sc)) := (hS12.2.2.2.2.2.2.1).cell 0
          have p1 : w12.cell? ⟨vp, 1, none⟩ = some (.int .u8 (sk)) := (hS12.2.2.2.2.2.2.1).cell 1
          have p2 : w12.cell? ⟨vp, 2, none⟩ = some (.slice A5 n5 c5) := (hS12.2.2.2.2.2.2.1).cell 2
          have q0 : w12.cell? ⟨w.heap.size + 2, 0, none⟩ = some (.int .i64 (sc)) := (hQ12.2.2.1).cell 0
          have q1 : w12.cell? ⟨w.heap.size + 2, 1, none⟩ = some (.int .u8 (sk)) := (hQ12.2.2.1).cell 1
          have q2 : w12.cell? ⟨w.heap.size + 2, 2, none⟩ = some (.slice A'' n'' cp'') := (hQ12.2.2.1).cell 2
          go_wp2_with fail
          refine (psum_any sc sk A5 n5 c5 sl sc sk A'' n'' cp'' l'' _ hS12.2.2.2.2.2.2.2.1 (h''.below hb12)).mono ?_
          rintro e w13 ⟨A9, n9, c9, rfl, hOk, hbw⟩
          rw [HU2.out] at hOk ⊢
          simp only at hOk ⊢
          have hQ13 := hQ12.below hbw
          have hS13 := hS12.below hbw
          have hb13 := Below_trans' hb12 hb12.size hbw
          clear hQ12 hS12 hb12 hbw
          replace hS13 := hS13.rows hOk
          clear hOk
          clear p0 p1 p2 q0 q1 q2
          go_upto_region 19 with fail
          have hbw : Below w13.heap.size w13 (w13.alloc (.cells #[.int .i64 uc, .int .u8 uk, .slice A9 n9 c9] 24)) := (Below.refl _ _).alloc (Nat.le_refl _) _
          have hN := Has.new w13 24 #[.int .i64 uc, .int .u8 uk, .slice A9 n9 c9]
          have hQ14 := hQ13.below hbw
          have hS14 := (hS13.below hbw).has hN
          have hb14 := Below_trans' hb13 hb13.size hbw
          clear hQ13 hS13 hb13 hN hbw
          generalize hW : World.alloc w13 _ = w14 at hQ14 hS14 hb14
          try rw [hW]
          clear hW
          generalize w13.heap.size = vu at hS14 ⊢
          go_upto_region 20 with fail
          rcases HC.out with ⟨g1, L2, g2, g3⟩ | ⟨g1, g2⟩
          · obtain ⟨rfl, rfl, rfl, rfl⟩ : te = 0 ∧ tc = sc ∧ tk = sk ∧ tl = L2 := by cases g2; exact ⟨rfl, rfl, rfl, rfl⟩
            have G3 := hide g3
            clear g1 g2 g3 HC
            have hV : Has (w14.alloc (.cells #[.int .i64 0, .int .u8 0, .slice none 0 0] 24)) w14.heap.size 24 #[.int .i64 0, .int .u8 0, .slice none 0 0] := Has.new _ _ _
            have hba : Below w14.heap.size w14 (w14.alloc (.cells #[.int .i64 0, .int .u8 0, .slice none 0 0] 24)) := (Below.refl _ _).alloc (Nat.le_refl _) _
            have hlt : w14.heap.size + 1 ≤ (w14.alloc (.cells #[.int .i64 0, .int .u8 0, .slice none 0 0] 24)).heap.size := by simp
            have hQ15 := hQ14.below hba
            have hS15 := hS14.below hba
            have hb15 := Below_trans' hb14 hb14.size hba
            generalize hW : World.alloc w14 _ = w15 at hV hba hlt hQ15 hS15 hb15
            try rw [hW]
            clear hW
            have HX : Hid (sumP tc tk l tc tk tl = ⟨ue, uc, uk, ul⟩) := G3.out.symm
            have p0 : w15.cell? ⟨w.heap.size, 0, none⟩ = some (.int .i64 (tc)) := (hQ15.1).cell 0
            have p1 : w15.cell? ⟨w.heap.size, 1, none⟩ = some (.int .u8 (tk)) := (hQ15.1).cell 1
            have p2 : w15.cell? ⟨w.heap.size, 2, none⟩ = some (.slice A n cp) := (hQ15.1).cell 2
            have q0 : w15.cell? ⟨vt, 0, none⟩ = some (.int .i64 (tc)) := (hS15.2.2.1).cell 0
            have q1 : w15.cell? ⟨vt, 1, none⟩ = some (.int .u8 (tk)) := (hS15.2.2.1).cell 1
            have q2 : w15.cell? ⟨vt, 2, none⟩ = some (.slice A8 n8 c8) := (hS15.2.2.1).cell 2
            go_wp2_with fail
            refine (psumO_any tc tk A n cp l tc tk A8 n8 c8 tl _ (h.below hb15) hS15.2.2.2.1).mono ?_
            rintro e w16 ⟨AX, nX, cX, rfl, hOk, hbw⟩
            rw [HX.out] at hOk ⊢
            simp only at hOk ⊢
            clear p0 p1 p2 q0 q1 q2 hQ15 hS15 hb15
            have hV16 := hV.below hbw hV.lt
            have hb16 := Below_trans' hba hba.size hbw
            have hV17 := put3 (x' := .int .i64 uc) (y' := .int .u8 uk) (z' := .slice AX nX cX) hV16
            have hb17' := below3 hb16 (Nat.le_refl w14.heap.size) (.int .i64 uc) (.int .u8 uk) (.slice AX nX cX)
            have hO17 := (hOk.mono hlt).frame (frame3 w16 w14.heap.size (.int .i64 uc) (.int .u8 uk) (.slice AX nX cX)) (fun b hb _ e => by have e : b = w14.heap.size := e; omega)
            have p0 : w16.cell? ⟨w14.heap.size, 0, none⟩ = some (.int .i64 0) := hV16.cell 0
            have p1 : w16.cell? ⟨w14.heap.size, 1, none⟩ = some (.int .u8 0) := hV16.cell 1
            have p2 : w16.cell? ⟨w14.heap.size, 2, none⟩ = some (.slice none 0 0) := hV16.cell 2
            have f0 := hV16.free 0
            have f1 := hV16.free 1
            have f2 := hV16.free 2
            clear hV hba hlt hOk hbw hb16 hV16
            go_upto_region 22 with fail
            generalize hW : World.setCell (World.setCell (World.setCell w16 _ _) _ _) _ _ = w17 at hV17 hb17' hO17
            try rw [hW]
            clear hW p0 p1 p2 f0 f1 f2
            have hS17 := hS14.below hb17'
            have hb17 := Below_trans' hb14 hb14.size hb17'
            clear hb17' hQ14 hS14 hb14
            have hrX := hO17.rows
            by_cases hue : ue = 0
            · have b1 : (ue == 0) = true := by simpa using hue
              have b2 : (ue != 0) = false := by simpa using hue
              clear hue
              have p0 : w17.cell? ⟨vu, 0, none⟩ = some (.int .i64 (uc)) := (hS17.1).cell 0
              have p1 : w17.cell? ⟨vu, 1, none⟩ = some (.int .u8 (uk)) := (hS17.1).cell 1
              have p2 : w17.cell? ⟨vu, 2, none⟩ = some (.slice A9 n9 c9) := (hS17.1).cell 2
              have q0 : w17.cell? ⟨w14.heap.size, 0, none⟩ = some (.int .i64 (uc)) := (hV17).cell 0
              have q1 : w17.cell? ⟨w14.heap.size, 1, none⟩ = some (.int .u8 (uk)) := (hV17).cell 1
              have q2 : w17.cell? ⟨w14.heap.size, 2, none⟩ = some (.slice AX nX cX) := (hV17).cell 2
              go_wp2_with fail
              refine (rsame_any uc uk A9 n9 c9 ul uc uk AX nX cX ul _ hS17.2.1 hrX).mono ?_
              rintro e w18 ⟨rfl, hbw⟩
              rw [sameB_self]
              clear p0 p1 p2 q0 q1 q2
              have hb18 := Below_trans' hb17 hb17.size hbw
              clear hS17 hb17 hbw
              go_wp2_with fail
              refine (wakes9_any _).mono ?_
              rintro e w9 ⟨rfl, hbw⟩
              go_wp2
              go_ret
              exact ⟨rfl, Below_trans' hb18 hb18.size hbw⟩
            · have b1 : (ue == 0) = false := by simpa using hue
              have b2 : (ue != 0) = true := by simpa using hue
              clear hue
              go_wp2_with fail
              refine (wakes9_any _).mono ?_
              rintro e w9 ⟨rfl, hbw⟩
              go_wp2
              go_ret
              exact ⟨rfl, Below_trans' hb17 hb17.size hbw⟩
          · have hte : (te == 0) = false := by simpa using g1
            have hue : (ue == 0) = false := by simpa using g2
            have hue' : (ue != 0) = true := by simpa using g2
            clear g1 g2 HC
            have hbw : Below w14.heap.size w14 (w14.alloc (.cells #[.int .i64 0, .int .u8 0, .slice none 0 0] 24)) := (Below.refl _ _).alloc (Nat.le_refl _) _
            have hb15 := Below_trans' hb14 hb14.size hbw
            clear hbw hQ14 hS14 hb14
            go_wp2_with fail
            refine (wakes9_any _).mono ?_
            rintro e w9 ⟨rfl, hbw⟩
            go_wp2
            go_ret
            exact ⟨rfl, Below_trans' hb15 hb15.size hbw⟩
        · have hz' : (se != 0) = true := by simpa using hz
          have H3 := HE.out
          rw [HS.out] at H3
          rcases (H3.resolve_left hz : se = 9 ∨ se = 4) with rfl | rfl
          · clear hz hz' H3
            go_wp2_with fail
            refine (wakes9_any _).mono ?_
            rintro e w9 ⟨rfl, hbw⟩
            go_wp2
            go_ret
            exact ⟨rfl, Below_trans' hb7 hb7.size hbw⟩
          · clear hz hz' H3
            go_wp2_with fail
            refine (wakes9_any _).mono ?_
            rintro e w9 ⟨rfl, hbw⟩
            go_wp2
            go_ret
            exact ⟨rfl, Below_trans' hb7 hb7.size hbw⟩
end Go.Proofs.Ytleniljhacnikaa
