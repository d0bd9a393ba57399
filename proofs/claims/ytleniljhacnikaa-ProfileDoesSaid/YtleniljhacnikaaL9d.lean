/-
  The law ProfileDoes.
-/
import Derived.Test.YtleniljhacnikaaL9d0
import Derived.Test.YtleniljhacnikaaRs
import Derived.Test.YtleniljhacnikaaTwi
namespace Go.Proofs.Ytleniljhacnikaa
open Go.RowKit Go.Proofs
attribute [local go_sem] cell?_more cell?_alloc_some cell?_setCell_far frozen?_alloc_some frozen?_more

set_option maxRecDepth 100000 in
set_option maxHeartbeats 8000000 in
theorem profileDoes_any (c k : Int) (A : Option Addr) (n cp : Nat) (l : List Row) (c' k' : Int) (A' : Option Addr) (n' cp' : Nat) (l' : List Row) (kb : Int) (Ab : Option Addr) (nb cb : Nat) (mb : List Int) (y : Int) (w : World)
    (h : RRows w A n cp l) (h' : RRows w A' n' cp' l') (hm : RInts w Ab nb cb mb) (hy : I64 y) :
    Calls Try.prog 10 #[.agg #[.int .i64 c, .int .u8 k, .slice A n cp], .agg #[.int .i64 c', .int .u8 k', .slice A' n' cp'], .agg #[.int .u8 kb, .slice Ab nb cb], .int .i64 y] w fun e w' => e = .returned (.bool true) ∧ Below w.heap.size w w' := by
  have hS0 := (((Hs.nil w).alloc 24 #[.int .i64 c, .int .u8 k, .slice A n cp]).alloc 24 #[.int .i64 c', .int .u8 k', .slice A' n' cp']).alloc 63 #[.int .u8 kb, .slice Ab nb cb]
  have hb0 : Below w.heap.size w (((w.alloc (.cells #[.int .i64 c, .int .u8 k, .slice A n cp] 24)).alloc (.cells #[.int .i64 c', .int .u8 k', .slice A' n' cp'] 24)).alloc (.cells #[.int .u8 kb, .slice Ab nb cb] 63)) :=
    (((Below.refl _ _).alloc (Nat.le_refl _) _).alloc (by simp) _).alloc (by simp; omega) _
  simp only [World.size_alloc] at hS0
  obtain ⟨hy1, hy2⟩ := hy
  go_enter Try.func10, Try.ntmps10
  go_upto_region 1 with fail
  generalize hW : World.alloc (World.alloc (World.alloc w _) _) _ = W0 at hS0 hb0
  try rw [hW]
  clear hW
  have p0 : W0.cell? ⟨w.heap.size, 0, none⟩ = some (.int .i64 c) := hS0.2.2.1.cell 0
  have p1 : W0.cell? ⟨w.heap.size, 1, none⟩ = some (.int .u8 k) := hS0.2.2.1.cell 1
  have p2 : W0.cell? ⟨w.heap.size, 2, none⟩ = some (.slice A n cp) := hS0.2.2.1.cell 2
  have q0 : W0.cell? ⟨w.heap.size + 1, 0, none⟩ = some (.int .i64 c') := hS0.2.1.cell 0
  have q1 : W0.cell? ⟨w.heap.size + 1, 1, none⟩ = some (.int .u8 k') := hS0.2.1.cell 1
  have q2 : W0.cell? ⟨w.heap.size + 1, 2, none⟩ = some (.slice A' n' cp') := hS0.2.1.cell 2
  have hbw5 : Below W0.heap.size W0 (W0.alloc (.cells #[.int .i64 c, .int .u8 k, .slice A n cp, .int .i64 c', .int .u8 k', .slice A' n' cp'] 24)) := (Below.refl _ _).alloc (Nat.le_refl _) _
  have hpp := profs2 (Has.new W0 24 #[.int .i64 c, .int .u8 k, .slice A n cp, .int .i64 c', .int .u8 k', .slice A' n' cp']) ((h.below hb0).below hbw5) ((h'.below hb0).below hbw5)
  go_wp2_with fail
  refine (great9_any _ 2 2 _ _ hpp).mono ?_
  rintro e w1 ⟨rfl, hbw6⟩
  have hbw := Below_trans' hbw5 hbw5.size hbw6
  have hS1 := hS0.below hbw
  have hb1 := Below_trans' hb0 hb0.size hbw
  clear hS0 hb0 hbw hbw5 hbw6 hpp p0 p1 p2 q0 q1 q2
  cases hG9 : great9 [(c, k, l), (c', k', l')] with
  | true =>
    clear hG9
    go_wp2_with fail
    refine (wakes9_any _).mono ?_
    rintro e w9 ⟨rfl, hbw⟩
    go_wp2
    go_ret
    exact ⟨rfl, Below_trans' hb1 hb1.size hbw⟩
  | false =>
    obtain ⟨hg1, hg2⟩ : greatS l = false ∧ greatS l' = false := by
      simpa [great9] using hG9
    have G1 := hide (great_no hg1)
    have G2 := hide (great_no hg2)
    clear hG9 hg1 hg2
    have s0 : w1.cell? ⟨w.heap.size + 2, 0, none⟩ = some (.int .u8 kb) := hS1.1.cell 0
    have s1 : w1.cell? ⟨w.heap.size + 2, 1, none⟩ = some (.slice Ab nb cb) := hS1.1.cell 1
    go_wp2_with fail
    refine (bgreat_any kb Ab nb cb mb _ (hm.below hb1)).mono ?_
    rintro e w0 ⟨rfl, hbw⟩
    clear s0 s1
    have hS2 := hS1.below hbw
    have hb0 := Below_trans' hb1 hb1.size hbw
    clear hS1 hb1 hbw
    cases hG : bgreatS mb with
    | true =>
      clear hG
      go_wp2_with fail
      refine (wakes9_any _).mono ?_
      rintro e w9 ⟨rfl, hbw⟩
      go_wp2
      go_ret
      exact ⟨rfl, Below_trans' hb0 hb0.size hbw⟩
    | false =>
      clear hG
      have hQ0 : Fs w0 [fHas w.heap.size 24 #[.int .i64 c, .int .u8 k, .slice A n cp], fHas (w.heap.size + 1) 24 #[.int .i64 c', .int .u8 k', .slice A' n' cp'], fHas (w.heap.size + 2) 63 #[.int .u8 kb, .slice Ab nb cb]] :=
        ⟨hS2.2.2.1, hS2.2.1, hS2.1, trivial⟩
      have hS0 := Fs.nil w0
      clear hS2
      go_upto_region 3 with fail
      have p0 : w0.cell? ⟨w.heap.size, 0, none⟩ = some (.int .i64 (c)) := (hQ0.1).cell 0
      have p1 : w0.cell? ⟨w.heap.size, 1, none⟩ = some (.int .u8 (k)) := (hQ0.1).cell 1
      have p2 : w0.cell? ⟨w.heap.size, 2, none⟩ = some (.slice A n cp) := (hQ0.1).cell 2
      have q0 : w0.cell? ⟨w.heap.size + 1, 0, none⟩ = some (.int .i64 (c')) := (hQ0.2.1).cell 0
      have q1 : w0.cell? ⟨w.heap.size + 1, 1, none⟩ = some (.int .u8 (k')) := (hQ0.2.1).cell 1
      have q2 : w0.cell? ⟨w.heap.size + 1, 2, none⟩ = some (.slice A' n' cp') := (hQ0.2.1).cell 2
      have hL0 := h.below hb0
      have hL0' := h'.below hb0
      have hn1 : n ≤ 1000 := by have := G1.out.1; have := h.len; omega
      have hn2 : n' ≤ 1000 := by have := G2.out.1; have := h'.len; omega
      have M1 := hide (show ∀ r ∈ l, r.1.length ≤ 1000 from fun r hr => by have := G1.out.2 r hr; omega)
      have M2 := hide (show ∀ r ∈ l', r.1.length ≤ 1000 from fun r hr => by have := G2.out.2 r hr; omega)
      go_cut [9, 10] from 27 (fun u v wx => ∃ g1 A1 n1 c1 g2 A2 n2 c2, u = .pointer (some ⟨g1, 0, none⟩) ∧ v = .pointer (some ⟨g2, 0, none⟩) ∧ Fs wx [fHas g2 24 #[.int .i64 c', .int .u8 k', .slice A2 n2 c2], fRows A2 n2 c2 l', fHas g1 24 #[.int .i64 c, .int .u8 k, .slice A1 n1 c1], fRows A1 n1 c1 l] ∧ Below w0.heap.size w0 wx)
      case first =>
        rename_i J K' hrel hmet
        refine wp_region_inv (by kernel_rfl) (by kernel_rfl) (by kernel_rfl) (fun listed vs wx => ∃ T1 B1 T2 B2, JTwo w0 c k A n cp l c' k' A' n' cp' l' T1 B1 T2 B2 listed vs wx) (fun _ => undef) ?_ ?_ ?_
        · exact ⟨_, _, _, _, JTwo.start _ _ _ _ _ _ _ _ _ _ _ _ _ _⟩
        · rintro listed vs wx i o ho hun hall ⟨T1, B1, T2, B2, hJ⟩
          have hi : i < 8 := (Array.getElem?_eq_some_iff.1 ho).1
          have huf := getD_both hun
          have pp0 := keep_cell hJ.bel p0
          have pp1 := keep_cell hJ.bel p1
          have pp2 := keep_cell hJ.bel p2
          have qq0 := keep_cell hJ.bel q0
          have qq1 := keep_cell hJ.bel q1
          have qq2 := keep_cell hJ.bel q2
          rcases (show i = 0 ∨ i = 1 ∨ i = 2 ∨ i = 3 ∨ i = 4 ∨ i = 5 ∨ i = 6 ∨ i = 7 by omega) with rfl | rfl | rfl | rfl | rfl | rfl | rfl | rfl
          all_goals (simp at ho; subst ho; refine wpOp_here rfl rfl ?_)
          · exact operLoad rfl rfl ((at_other (by kernel_rfl)).trans rfl) pp0 pp1 pp2 ⟨_, rfl, _, _, _, _, hJ.load (.inl ⟨rfl, rfl⟩)⟩
          · have a0 : listed.getD 0 false = true := hall ⟨0, .data⟩ (by simp) rfl
            refine operCall rfl ((at_listed (i := 0) (by kernel_rfl) (by rfl) (by decide) a0 (by simp)).trans (hJ.p a0)) (call_in Try.func47 (by kernel_rfl) rfl) ((rtwin_any c k A n cp l _ (hL0.below hJ.bel) hn1 M1.out).mono ?_)
            rintro e w' ⟨v, rfl, hO, hb⟩
            obtain ⟨A1, n1, c1, rfl⟩ := hO.isSlice
            exact ⟨_, rfl, _, rfl, _, _, _, _, hJ.call1 huf hb hO⟩
          · exact operLoad rfl rfl ((at_other (by kernel_rfl)).trans rfl) qq0 qq1 qq2 ⟨_, rfl, _, _, _, _, hJ.load (.inr ⟨rfl, rfl⟩)⟩
          · have a2 : listed.getD 2 false = true := hall ⟨2, .data⟩ (by simp) rfl
            refine operCall rfl ((at_listed (i := 2) (by kernel_rfl) (by rfl) (by decide) a2 (by simp)).trans (hJ.q a2)) (call_in Try.func47 (by kernel_rfl) rfl) ((rtwin_any c' k' A' n' cp' l' _ (hL0'.below hJ.bel) hn2 M2.out).mono ?_)
            rintro e w' ⟨v, rfl, hO, hb⟩
            obtain ⟨A1, n1, c1, rfl⟩ := hO.isSlice
            exact ⟨_, rfl, _, rfl, _, _, _, _, hJ.call2 huf hb hO⟩
          · exact operNew (d := 9) rfl rfl rfl fun g w' hG hb hg => ⟨_, rfl, _, _, _, _, hJ.new4 huf hb hG hg⟩
          · exact operNew (d := 10) rfl rfl rfl fun g w' hG hb hg => ⟨_, rfl, _, _, _, _, hJ.new5 huf hb hG hg⟩
          · have a1 : listed.getD 1 false = true := hall ⟨1, .data⟩ (by simp) rfl
            have a4 : listed.getD 4 false = true := hall ⟨4, .data⟩ (by simp) rfl
            obtain ⟨A1, n1, c1, e1, e2, e3, e4⟩ := hJ.tp a1
            obtain ⟨g, x, y, z, d1, d2, d3, d4⟩ := hJ.vp a4
            exact operPut rfl rfl rfl ((at_listed (i := 4) (by kernel_rfl) (by rfl) (by decide) a4 (by simp)).trans d1) ((at_listed (i := 1) (by kernel_rfl) (by rfl) (by decide) a1 (by simp)).trans e1) d3 fun w' hG hk => ⟨undef, rfl, _, _, _, _, hJ.put6 a4 a1 d1 e1 hG hk⟩
          · have a3 : listed.getD 3 false = true := hall ⟨3, .data⟩ (by simp) rfl
            have a5 : listed.getD 5 false = true := hall ⟨5, .data⟩ (by simp) rfl
            obtain ⟨A1, n1, c1, e1, e2, e3, e4⟩ := hJ.tq a3
            obtain ⟨g, x, y, z, d1, d2, d3, d4⟩ := hJ.vq a5
            exact operPut rfl rfl rfl ((at_listed (i := 5) (by kernel_rfl) (by rfl) (by decide) a5 (by simp)).trans d1) ((at_listed (i := 3) (by kernel_rfl) (by rfl) (by decide) a3 (by simp)).trans e1) d3 fun w' hG hk => ⟨undef, rfl, _, _, _, _, hJ.put7 a5 a3 d1 e1 hG hk⟩
        · rintro listed vs wx hall ⟨T1, B1, T2, B2, hJ⟩
          obtain ⟨A1, n1, c1, e1, e2, e3, e4⟩ := hJ.tp (hall 1 (by decide))
          obtain ⟨g, x, y, z, d1, d2, d3, d4⟩ := hJ.vp (hall 4 (by decide))
          obtain ⟨A2, n2, c2, f1, f2, f3, f4⟩ := hJ.tq (hall 3 (by decide))
          obtain ⟨g', x', y', z', d1', d2', d3', d4'⟩ := hJ.vq (hall 5 (by decide))
          have d5 := e1.symm.trans (d4 (hall 6 (by decide)))
          have d5' := f1.symm.trans (d4' (hall 7 (by decide)))
          obtain ⟨rfl, rfl, rfl⟩ : Value.int .i64 c = x ∧ Value.int .u8 k = y ∧ Value.slice A1 n1 c1 = z := by simpa using d5
          obtain ⟨rfl, rfl, rfl⟩ : Value.int .i64 c' = x' ∧ Value.int .u8 k' = y' ∧ Value.slice A2 n2 c2 = z' := by simpa using d5'
          rw [actAt_all hall]
          refine hmet _ _ ?_
          refine Met.intro (hrel _ _ ?_)
          (repeat apply Exists.intro)
          refine ⟨?rel, rfl⟩
          case rel => exact ⟨g, A1, n1, c1, g', A2, n2, c2, d1, d1', ⟨d3', f2.now f3, d3, e2.now e3, trivial⟩, hJ.bel⟩
      case rest =>
        obtain ⟨vw, Aw, nw, cw, vo, Ao, no, co, rfl, rfl, hSc, hcb⟩ := hcut
        have hQc := hQ0.below hcb
        have hbc := Below_trans' hb0 hb0.size hcb
        clear hcb hQ0 hb0 hS0 p0 p1 p2 q0 q1 q2 hL0 hL0'
        obtain ⟨⟨ae, ac, ak, al⟩, ha⟩ : ∃ r, addP c k l kb mb y = r := ⟨_, rfl⟩
        have HA := hide ha
        clear ha
        obtain ⟨⟨te, tc, tk, tl⟩, ht⟩ : ∃ r, takeP c k l kb mb y = r := ⟨_, rfl⟩
        have HT := hide ht
        clear ht
        obtain ⟨⟨se, sc, sk, sl⟩, hs⟩ : ∃ r, sumP c k l c' k' l' = r := ⟨_, rfl⟩
        have HS := hide hs
        clear hs
        obtain ⟨⟨me, mc, mk, ml⟩, hm⟩ : ∃ r, minusP c k l c' k' l' = r := ⟨_, rfl⟩
        have HM := hide hm
        clear hm
        go_upto_region 4 with fail
        have p0 : wc.cell? ⟨w.heap.size, 0, none⟩ = some (.int .i64 (c)) := (hQc.1).cell 0
        have p1 : wc.cell? ⟨w.heap.size, 1, none⟩ = some (.int .u8 (k)) := (hQc.1).cell 1
        have p2 : wc.cell? ⟨w.heap.size, 2, none⟩ = some (.slice A n cp) := (hQc.1).cell 2
        have b0 : wc.cell? ⟨w.heap.size + 2, 0, none⟩ = some (.int .u8 kb) := hQc.2.2.1.cell 0
        have b1 : wc.cell? ⟨w.heap.size + 2, 1, none⟩ = some (.slice Ab nb cb) := hQc.2.2.1.cell 1
        go_wp2_with fail
        refine (padd_any c k A n cp l kb Ab nb cb mb y _ (h.below hbc) (hm.below hbc)).mono ?_
        rintro e w2 ⟨Aa, na, ca, rfl, hOk, hbw⟩
        rw [HA.out] at hOk ⊢
        simp only at hOk ⊢
        have hQ2 := hQc.below hbw
        have hS2 := hSc.below hbw
        have hb2 := Below_trans' hbc hbc.size hbw
        clear hQc hSc hbc hbw
        replace hS2 := hS2.rows hOk.rows
        clear hOk
        clear p0 p1 p2 b0 b1
        go_upto_region 5 with fail
        have hbw : Below w2.heap.size w2 (w2.alloc (.cells #[.int .i64 ac, .int .u8 ak, .slice Aa na ca] 24)) := (Below.refl _ _).alloc (Nat.le_refl _) _
        have hN := Has.new w2 24 #[.int .i64 ac, .int .u8 ak, .slice Aa na ca]
        have hQ3 := hQ2.below hbw
        have hS3 := (hS2.below hbw).has hN
        have hb3 := Below_trans' hb2 hb2.size hbw
        clear hQ2 hS2 hb2 hN hbw
        generalize hW : World.alloc w2 _ = w3 at hQ3 hS3 hb3
        try rw [hW]
        clear hW
        generalize w2.heap.size = va at hS3 ⊢
        have p0 : w3.cell? ⟨w.heap.size, 0, none⟩ = some (.int .i64 (c)) := (hQ3.1).cell 0
        have p1 : w3.cell? ⟨w.heap.size, 1, none⟩ = some (.int .u8 (k)) := (hQ3.1).cell 1
        have p2 : w3.cell? ⟨w.heap.size, 2, none⟩ = some (.slice A n cp) := (hQ3.1).cell 2
        have b0 : w3.cell? ⟨w.heap.size + 2, 0, none⟩ = some (.int .u8 kb) := hQ3.2.2.1.cell 0
        have b1 : w3.cell? ⟨w.heap.size + 2, 1, none⟩ = some (.slice Ab nb cb) := hQ3.2.2.1.cell 1
        go_wp2_with fail
        refine (radd_any c k A n cp l kb Ab nb cb mb y _ (h.below hb3) (hm.below hb3)).mono ?_
        rintro e w4 ⟨Af, nf, cf, rfl, hOk, hbw⟩
        rw [HA.out] at hOk ⊢
        simp only at hOk ⊢
        have hQ4 := hQ3.below hbw
        have hS4 := hS3.below hbw
        have hb4 := Below_trans' hb3 hb3.size hbw
        clear hQ3 hS3 hb3 hbw
        replace hS4 := hS4.rows hOk.rows
        clear hOk
        clear p0 p1 p2 b0 b1
        go_upto_region 6 with fail
        have hbw : Below w4.heap.size w4 (w4.alloc (.cells #[.int .i64 ac, .int .u8 ak, .slice Af nf cf] 24)) := (Below.refl _ _).alloc (Nat.le_refl _) _
        have hN := Has.new w4 24 #[.int .i64 ac, .int .u8 ak, .slice Af nf cf]
        have hQ5 := hQ4.below hbw
        have hS5 := (hS4.below hbw).has hN
        have hb5 := Below_trans' hb4 hb4.size hbw
        clear hQ4 hS4 hb4 hN hbw
        generalize hW : World.alloc w4 _ = w5 at hQ5 hS5 hb5
        try rw [hW]
        clear hW
        generalize w4.heap.size = vf at hS5 ⊢
        have p0 : w5.cell? ⟨w.heap.size, 0, none⟩ = some (.int .i64 (c)) := (hQ5.1).cell 0
        have p1 : w5.cell? ⟨w.heap.size, 1, none⟩ = some (.int .u8 (k)) := (hQ5.1).cell 1
        have p2 : w5.cell? ⟨w.heap.size, 2, none⟩ = some (.slice A n cp) := (hQ5.1).cell 2
        have b0 : w5.cell? ⟨w.heap.size + 2, 0, none⟩ = some (.int .u8 kb) := hQ5.2.2.1.cell 0
        have b1 : w5.cell? ⟨w.heap.size + 2, 1, none⟩ = some (.slice Ab nb cb) := hQ5.2.2.1.cell 1
        go_wp2_with fail
        refine (ptake_any c k A n cp l kb Ab nb cb mb y _ (h.below hb5) (hm.below hb5) hy2).mono ?_
        rintro e w6 ⟨At, nt, ct, rfl, hOk, hbw⟩
        rw [HT.out] at hOk ⊢
        simp only at hOk ⊢
        have hQ6 := hQ5.below hbw
        have hS6 := hS5.below hbw
        have hb6 := Below_trans' hb5 hb5.size hbw
        clear hQ5 hS5 hb5 hbw
        replace hS6 := hS6.rows hOk.rows
        clear hOk
        clear p0 p1 p2 b0 b1
        go_upto_region 7 with fail
        have hbw : Below w6.heap.size w6 (w6.alloc (.cells #[.int .i64 tc, .int .u8 tk, .slice At nt ct] 24)) := (Below.refl _ _).alloc (Nat.le_refl _) _
        have hN := Has.new w6 24 #[.int .i64 tc, .int .u8 tk, .slice At nt ct]
        have hQ7 := hQ6.below hbw
        have hS7 := (hS6.below hbw).has hN
        have hb7 := Below_trans' hb6 hb6.size hbw
        clear hQ6 hS6 hb6 hN hbw
        generalize hW : World.alloc w6 _ = w7 at hQ7 hS7 hb7
        try rw [hW]
        clear hW
        generalize w6.heap.size = vt at hS7 ⊢
        have p0 : w7.cell? ⟨w.heap.size, 0, none⟩ = some (.int .i64 (c)) := (hQ7.1).cell 0
        have p1 : w7.cell? ⟨w.heap.size, 1, none⟩ = some (.int .u8 (k)) := (hQ7.1).cell 1
        have p2 : w7.cell? ⟨w.heap.size, 2, none⟩ = some (.slice A n cp) := (hQ7.1).cell 2
        have b0 : w7.cell? ⟨w.heap.size + 2, 0, none⟩ = some (.int .u8 kb) := hQ7.2.2.1.cell 0
        have b1 : w7.cell? ⟨w.heap.size + 2, 1, none⟩ = some (.slice Ab nb cb) := hQ7.2.2.1.cell 1
        go_wp2_with fail
        refine (rtake_any c k A n cp l kb Ab nb cb mb y _ (h.below hb7) (hm.below hb7) hy2).mono ?_
        rintro e w8 ⟨Au, nu, cu, rfl, hOk, hbw⟩
        rw [HT.out] at hOk ⊢
        simp only at hOk ⊢
        have hQ8 := hQ7.below hbw
        have hS8 := hS7.below hbw
        have hb8 := Below_trans' hb7 hb7.size hbw
        clear hQ7 hS7 hb7 hbw
        replace hS8 := hS8.rows hOk.rows
        clear hOk
        clear p0 p1 p2 b0 b1
        go_upto_region 8 with fail
        have hbw : Below w8.heap.size w8 (w8.alloc (.cells #[.int .i64 tc, .int .u8 tk, .slice Au nu cu] 24)) := (Below.refl _ _).alloc (Nat.le_refl _) _
        have hN := Has.new w8 24 #[.int .i64 tc, .int .u8 tk, .slice Au nu cu]
        have hQ9 := hQ8.below hbw
        have hS9 := (hS8.below hbw).has hN
        have hb9 := Below_trans' hb8 hb8.size hbw
        clear hQ8 hS8 hb8 hN hbw
        generalize hW : World.alloc w8 _ = w9 at hQ9 hS9 hb9
        try rw [hW]
        clear hW
        generalize w8.heap.size = vu at hS9 ⊢
        have p0 : w9.cell? ⟨w.heap.size, 0, none⟩ = some (.int .i64 (c)) := (hQ9.1).cell 0
        have p1 : w9.cell? ⟨w.heap.size, 1, none⟩ = some (.int .u8 (k)) := (hQ9.1).cell 1
        have p2 : w9.cell? ⟨w.heap.size, 2, none⟩ = some (.slice A n cp) := (hQ9.1).cell 2
        have q0 : w9.cell? ⟨w.heap.size + 1, 0, none⟩ = some (.int .i64 (c')) := (hQ9.2.1).cell 0
        have q1 : w9.cell? ⟨w.heap.size + 1, 1, none⟩ = some (.int .u8 (k')) := (hQ9.2.1).cell 1
        have q2 : w9.cell? ⟨w.heap.size + 1, 2, none⟩ = some (.slice A' n' cp') := (hQ9.2.1).cell 2
        go_wp2_with fail
        refine (psumO_any c k A n cp l c' k' A' n' cp' l' _ (h.below hb9) (h'.below hb9)).mono ?_
        rintro e w10 ⟨As, ns, cs, rfl, hOk, hbw⟩
        rw [HS.out] at hOk ⊢
        simp only at hOk ⊢
        have hQ10 := hQ9.below hbw
        have hS10 := hS9.below hbw
        have hb10 := Below_trans' hb9 hb9.size hbw
        clear hQ9 hS9 hb9 hbw
        replace hS10 := hS10.rows hOk.rows
        clear hOk
        clear p0 p1 p2 q0 q1 q2
        go_upto_region 9 with fail
        have hbw : Below w10.heap.size w10 (w10.alloc (.cells #[.int .i64 sc, .int .u8 sk, .slice As ns cs] 24)) := (Below.refl _ _).alloc (Nat.le_refl _) _
        have hN := Has.new w10 24 #[.int .i64 sc, .int .u8 sk, .slice As ns cs]
        have hQ11 := hQ10.below hbw
        have hS11 := (hS10.below hbw).has hN
        have hb11 := Below_trans' hb10 hb10.size hbw
        clear hQ10 hS10 hb10 hN hbw
        generalize hW : World.alloc w10 _ = w11 at hQ11 hS11 hb11
        try rw [hW]
        clear hW
        generalize w10.heap.size = vs at hS11 ⊢
        have p0 : w11.cell? ⟨w.heap.size, 0, none⟩ = some (.int .i64 (c)) := (hQ11.1).cell 0
        have p1 : w11.cell? ⟨w.heap.size, 1, none⟩ = some (.int .u8 (k)) := (hQ11.1).cell 1
        have p2 : w11.cell? ⟨w.heap.size, 2, none⟩ = some (.slice A n cp) := (hQ11.1).cell 2
        have q0 : w11.cell? ⟨w.heap.size + 1, 0, none⟩ = some (.int .i64 (c')) := (hQ11.2.1).cell 0
        have q1 : w11.cell? ⟨w.heap.size + 1, 1, none⟩ = some (.int .u8 (k')) := (hQ11.2.1).cell 1
        have q2 : w11.cell? ⟨w.heap.size + 1, 2, none⟩ = some (.slice A' n' cp') := (hQ11.2.1).cell 2
        go_wp2_with fail
        refine (rsum_any c k A n cp l c' k' A' n' cp' l' _ (h.below hb11) (h'.below hb11)).mono ?_
        rintro e w12 ⟨Ar, nr, cr, rfl, hOk, hbw⟩
        rw [HS.out] at hOk ⊢
        simp only at hOk ⊢
        have hQ12 := hQ11.below hbw
        have hS12 := hS11.below hbw
        have hb12 := Below_trans' hb11 hb11.size hbw
        clear hQ11 hS11 hb11 hbw
        replace hS12 := hS12.rows hOk.rows
        clear hOk
        clear p0 p1 p2 q0 q1 q2
        go_upto_region 10 with fail
        have hbw : Below w12.heap.size w12 (w12.alloc (.cells #[.int .i64 sc, .int .u8 sk, .slice Ar nr cr] 24)) := (Below.refl _ _).alloc (Nat.le_refl _) _
        have hN := Has.new w12 24 #[.int .i64 sc, .int .u8 sk, .slice Ar nr cr]
        have hQ13 := hQ12.below hbw
        have hS13 := (hS12.below hbw).has hN
        have hb13 := Below_trans' hb12 hb12.size hbw
        clear hQ12 hS12 hb12 hN hbw
        generalize hW : World.alloc w12 _ = w13 at hQ13 hS13 hb13
        try rw [hW]
        clear hW
        generalize w12.heap.size = vr at hS13 ⊢
        have p0 : w13.cell? ⟨w.heap.size, 0, none⟩ = some (.int .i64 (c)) := (hQ13.1).cell 0
        have p1 : w13.cell? ⟨w.heap.size, 1, none⟩ = some (.int .u8 (k)) := (hQ13.1).cell 1
        have p2 : w13.cell? ⟨w.heap.size, 2, none⟩ = some (.slice A n cp) := (hQ13.1).cell 2
        have q0 : w13.cell? ⟨w.heap.size + 1, 0, none⟩ = some (.int .i64 (c')) := (hQ13.2.1).cell 0
        have q1 : w13.cell? ⟨w.heap.size + 1, 1, none⟩ = some (.int .u8 (k')) := (hQ13.2.1).cell 1
        have q2 : w13.cell? ⟨w.heap.size + 1, 2, none⟩ = some (.slice A' n' cp') := (hQ13.2.1).cell 2
        go_wp2_with fail
        refine (pminus_any c k A n cp l c' k' A' n' cp' l' _ (h.below hb13) (h'.below hb13)).mono ?_
        rintro e w14 ⟨Am, nm, cm, rfl, hOk, hbw⟩
        rw [HM.out] at hOk ⊢
        simp only at hOk ⊢
        have hQ14 := hQ13.below hbw
        have hS14 := hS13.below hbw
        have hb14 := Below_trans' hb13 hb13.size hbw
        clear hQ13 hS13 hb13 hbw
        replace hS14 := hS14.rows hOk.rows
        clear hOk
        clear p0 p1 p2 q0 q1 q2
        go_upto_region 11 with fail
        have hbw : Below w14.heap.size w14 (w14.alloc (.cells #[.int .i64 mc, .int .u8 mk, .slice Am nm cm] 24)) := (Below.refl _ _).alloc (Nat.le_refl _) _
        have hN := Has.new w14 24 #[.int .i64 mc, .int .u8 mk, .slice Am nm cm]
        have hQ15 := hQ14.below hbw
        have hS15 := (hS14.below hbw).has hN
        have hb15 := Below_trans' hb14 hb14.size hbw
        clear hQ14 hS14 hb14 hN hbw
        generalize hW : World.alloc w14 _ = w15 at hQ15 hS15 hb15
        try rw [hW]
        clear hW
        generalize w14.heap.size = vm at hS15 ⊢
        have p0 : w15.cell? ⟨w.heap.size, 0, none⟩ = some (.int .i64 (c)) := (hQ15.1).cell 0
        have p1 : w15.cell? ⟨w.heap.size, 1, none⟩ = some (.int .u8 (k)) := (hQ15.1).cell 1
        have p2 : w15.cell? ⟨w.heap.size, 2, none⟩ = some (.slice A n cp) := (hQ15.1).cell 2
        have q0 : w15.cell? ⟨w.heap.size + 1, 0, none⟩ = some (.int .i64 (c')) := (hQ15.2.1).cell 0
        have q1 : w15.cell? ⟨w.heap.size + 1, 1, none⟩ = some (.int .u8 (k')) := (hQ15.2.1).cell 1
        have q2 : w15.cell? ⟨w.heap.size + 1, 2, none⟩ = some (.slice A' n' cp') := (hQ15.2.1).cell 2
        go_wp2_with fail
        refine (rminus_any c k A n cp l c' k' A' n' cp' l' _ (h.below hb15) (h'.below hb15)).mono ?_
        rintro e w16 ⟨An, nn, cn, rfl, hOk, hbw⟩
        rw [HM.out] at hOk ⊢
        simp only at hOk ⊢
        have hQ16 := hQ15.below hbw
        have hS16 := hS15.below hbw
        have hb16 := Below_trans' hb15 hb15.size hbw
        clear hQ15 hS15 hb15 hbw
        replace hS16 := hS16.rows hOk.rows
        clear hOk
        clear p0 p1 p2 q0 q1 q2
        go_upto_region 12 with fail
        have hbw : Below w16.heap.size w16 (w16.alloc (.cells #[.int .i64 mc, .int .u8 mk, .slice An nn cn] 24)) := (Below.refl _ _).alloc (Nat.le_refl _) _
        have hN := Has.new w16 24 #[.int .i64 mc, .int .u8 mk, .slice An nn cn]
        have hQ17 := hQ16.below hbw
        have hS17 := (hS16.below hbw).has hN
        have hb17 := Below_trans' hb16 hb16.size hbw
        clear hQ16 hS16 hb16 hN hbw
        generalize hW : World.alloc w16 _ = w17 at hQ17 hS17 hb17
        try rw [hW]
        clear hW
        generalize w16.heap.size = vn at hS17 ⊢
        have ea : (ae != ae) = false := by simp
        have et : (te != te) = false := by simp
        have es : (se != se) = false := by simp
        have em : (me != me) = false := by simp
        have p0 : w17.cell? ⟨va, 0, none⟩ = some (.int .i64 (ac)) := (hS17.2.2.2.2.2.2.2.2.2.2.2.2.2.2.1).cell 0
        have p1 : w17.cell? ⟨va, 1, none⟩ = some (.int .u8 (ak)) := (hS17.2.2.2.2.2.2.2.2.2.2.2.2.2.2.1).cell 1
        have p2 : w17.cell? ⟨va, 2, none⟩ = some (.slice Aa na ca) := (hS17.2.2.2.2.2.2.2.2.2.2.2.2.2.2.1).cell 2
        have q0 : w17.cell? ⟨vf, 0, none⟩ = some (.int .i64 (ac)) := (hS17.2.2.2.2.2.2.2.2.2.2.2.2.1).cell 0
        have q1 : w17.cell? ⟨vf, 1, none⟩ = some (.int .u8 (ak)) := (hS17.2.2.2.2.2.2.2.2.2.2.2.2.1).cell 1
        have q2 : w17.cell? ⟨vf, 2, none⟩ = some (.slice Af nf cf) := (hS17.2.2.2.2.2.2.2.2.2.2.2.2.1).cell 2
        go_wp2_with fail
        refine (rsame_any ac ak Aa na ca al ac ak Af nf cf al _ hS17.2.2.2.2.2.2.2.2.2.2.2.2.2.2.2.1 hS17.2.2.2.2.2.2.2.2.2.2.2.2.2.1).mono ?_
        rintro e w18 ⟨rfl, hbw⟩
        rw [sameB_self]
        clear p0 p1 p2 q0 q1 q2
        have hQ18 := hQ17.below hbw
        have hS18 := hS17.below hbw
        have hb18 := Below_trans' hb17 hb17.size hbw
        clear hQ17 hS17 hb17 hbw
        have p0 : w18.cell? ⟨vt, 0, none⟩ = some (.int .i64 (tc)) := (hS18.2.2.2.2.2.2.2.2.2.2.1).cell 0
        have p1 : w18.cell? ⟨vt, 1, none⟩ = some (.int .u8 (tk)) := (hS18.2.2.2.2.2.2.2.2.2.2.1).cell 1
        have p2 : w18.cell? ⟨vt, 2, none⟩ = some (.slice At nt ct) := (hS18.2.2.2.2.2.2.2.2.2.2.1).cell 2
        have q0 : w18.cell? ⟨vu, 0, none⟩ = some (.int .i64 (tc)) := (hS18.2.2.2.2.2.2.2.2.1).cell 0
        have q1 : w18.cell? ⟨vu, 1, none⟩ = some (.int .u8 (tk)) := (hS18.2.2.2.2.2.2.2.2.1).cell 1
        have q2 : w18.cell? ⟨vu, 2, none⟩ = some (.slice Au nu cu) := (hS18.2.2.2.2.2.2.2.2.1).cell 2
        go_wp2_with fail
        refine (rsame_any tc tk At nt ct tl tc tk Au nu cu tl _ hS18.2.2.2.2.2.2.2.2.2.2.2.1 hS18.2.2.2.2.2.2.2.2.2.1).mono ?_
        rintro e w19 ⟨rfl, hbw⟩
        rw [sameB_self]
        clear p0 p1 p2 q0 q1 q2
        have hQ19 := hQ18.below hbw
        have hS19 := hS18.below hbw
        have hb19 := Below_trans' hb18 hb18.size hbw
        clear hQ18 hS18 hb18 hbw
        have p0 : w19.cell? ⟨vs, 0, none⟩ = some (.int .i64 (sc)) := (hS19.2.2.2.2.2.2.1).cell 0
        have p1 : w19.cell? ⟨vs, 1, none⟩ = some (.int .u8 (sk)) := (hS19.2.2.2.2.2.2.1).cell 1
        have p2 : w19.cell? ⟨vs, 2, none⟩ = some (.slice As ns cs) := (hS19.2.2.2.2.2.2.1).cell 2
        have q0 : w19.cell? ⟨vr, 0, none⟩ = some (.int .i64 (sc)) := (hS19.2.2.2.2.1).cell 0
        have q1 : w19.cell? ⟨vr, 1, none⟩ = some (.int .u8 (sk)) := (hS19.2.2.2.2.1).cell 1
        have q2 : w19.cell? ⟨vr, 2, none⟩ = some (.slice Ar nr cr) := (hS19.2.2.2.2.1).cell 2
        go_wp2_with fail
        refine (rsame_any sc sk As ns cs sl sc sk Ar nr cr sl _ hS19.2.2.2.2.2.2.2.1 hS19.2.2.2.2.2.1).mono ?_
        rintro e w20 ⟨rfl, hbw⟩
        rw [sameB_self]
        clear p0 p1 p2 q0 q1 q2
        have hQ20 := hQ19.below hbw
        have hS20 := hS19.below hbw
        have hb20 := Below_trans' hb19 hb19.size hbw
        clear hQ19 hS19 hb19 hbw
        have p0 : w20.cell? ⟨vm, 0, none⟩ = some (.int .i64 (mc)) := (hS20.2.2.1).cell 0
        have p1 : w20.cell? ⟨vm, 1, none⟩ = some (.int .u8 (mk)) := (hS20.2.2.1).cell 1
        have p2 : w20.cell? ⟨vm, 2, none⟩ = some (.slice Am nm cm) := (hS20.2.2.1).cell 2
        have q0 : w20.cell? ⟨vn, 0, none⟩ = some (.int .i64 (mc)) := (hS20.1).cell 0
        have q1 : w20.cell? ⟨vn, 1, none⟩ = some (.int .u8 (mk)) := (hS20.1).cell 1
        have q2 : w20.cell? ⟨vn, 2, none⟩ = some (.slice An nn cn) := (hS20.1).cell 2
        go_wp2_with fail
        refine (rsame_any mc mk Am nm cm ml mc mk An nn cn ml _ hS20.2.2.2.1 hS20.2.1).mono ?_
        rintro e w21 ⟨rfl, hbw⟩
        rw [sameB_self]
        clear p0 p1 p2 q0 q1 q2
        have hQ21 := hQ20.below hbw
        have hS21 := hS20.below hbw
        have hb21 := Below_trans' hb20 hb20.size hbw
        clear hQ20 hS20 hb20 hbw
        clear ea et es em
        go_upto_region 14 with fail
        have p0 : w21.cell? ⟨w.heap.size, 0, none⟩ = some (.int .i64 (c)) := (hQ21.1).cell 0
        have p1 : w21.cell? ⟨w.heap.size, 1, none⟩ = some (.int .u8 (k)) := (hQ21.1).cell 1
        have p2 : w21.cell? ⟨w.heap.size, 2, none⟩ = some (.slice A n cp) := (hQ21.1).cell 2
        have q0 : w21.cell? ⟨vw, 0, none⟩ = some (.int .i64 (c)) := (hS21.2.2.2.2.2.2.2.2.2.2.2.2.2.2.2.2.2.2.1).cell 0
        have q1 : w21.cell? ⟨vw, 1, none⟩ = some (.int .u8 (k)) := (hS21.2.2.2.2.2.2.2.2.2.2.2.2.2.2.2.2.2.2.1).cell 1
        have q2 : w21.cell? ⟨vw, 2, none⟩ = some (.slice Aw nw cw) := (hS21.2.2.2.2.2.2.2.2.2.2.2.2.2.2.2.2.2.2.1).cell 2
        go_wp2_with fail
        refine (rsame_any c k A n cp l c k Aw nw cw l _ (h.below hb21) hS21.2.2.2.2.2.2.2.2.2.2.2.2.2.2.2.2.2.2.2.1).mono ?_
        rintro e w22 ⟨rfl, hbw⟩
        rw [sameB_self]
        clear p0 p1 p2 q0 q1 q2
        have hQ22 := hQ21.below hbw
        have hS22 := hS21.below hbw
        have hb22 := Below_trans' hb21 hb21.size hbw
        clear hQ21 hS21 hb21 hbw
        have p0 : w22.cell? ⟨w.heap.size + 1, 0, none⟩ = some (.int .i64 (c')) := (hQ22.2.1).cell 0
        have p1 : w22.cell? ⟨w.heap.size + 1, 1, none⟩ = some (.int .u8 (k')) := (hQ22.2.1).cell 1
        have p2 : w22.cell? ⟨w.heap.size + 1, 2, none⟩ = some (.slice A' n' cp') := (hQ22.2.1).cell 2
        have q0 : w22.cell? ⟨vo, 0, none⟩ = some (.int .i64 (c')) := (hS22.2.2.2.2.2.2.2.2.2.2.2.2.2.2.2.2.1).cell 0
        have q1 : w22.cell? ⟨vo, 1, none⟩ = some (.int .u8 (k')) := (hS22.2.2.2.2.2.2.2.2.2.2.2.2.2.2.2.2.1).cell 1
        have q2 : w22.cell? ⟨vo, 2, none⟩ = some (.slice Ao no co) := (hS22.2.2.2.2.2.2.2.2.2.2.2.2.2.2.2.2.1).cell 2
        go_wp2_with fail
        refine (rsame_any c' k' A' n' cp' l' c' k' Ao no co l' _ (h'.below hb22) hS22.2.2.2.2.2.2.2.2.2.2.2.2.2.2.2.2.2.1).mono ?_
        rintro e w23 ⟨rfl, hbw⟩
        rw [sameB_self]
        clear p0 p1 p2 q0 q1 q2
        have hQ23 := hQ22.below hbw
        have hS23 := hS22.below hbw
        have hb23 := Below_trans' hb22 hb22.size hbw
        clear hQ22 hS22 hb22 hbw
        go_wp2_with fail
        refine (wakes9_any _).mono ?_
        rintro e w9 ⟨rfl, hbw⟩
        go_wp2
        go_ret
        exact ⟨rfl, Below_trans' hb23 hb23.size hbw⟩
end Go.Proofs.Ytleniljhacnikaa
