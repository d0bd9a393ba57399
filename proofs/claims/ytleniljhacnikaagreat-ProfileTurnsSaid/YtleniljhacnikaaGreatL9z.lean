/-
  The law ProfileTurns.
-/
import Derived.Test.YtleniljhacnikaaGreatGr9
import Derived.Test.YtleniljhacnikaaGreatRk
import Derived.Test.YtleniljhacnikaaGreatW9u
import Derived.Test.YtleniljhacnikaaGreatW9v
import Derived.Test.YtleniljhacnikaaGreatW9z
namespace Go.Proofs.YtleniljhacnikaaGreat
open Go.RowKit Go.Proofs
attribute [local go_sem] cell?_more cell?_alloc_some cell?_setCell_far frozen?_alloc_some frozen?_more

theorem profs1 {w : World} {g : Nat} {c1 k1 : Int} {A1 : Option Addr} {n1 p1 : Nat} {l1 : List Row} (hg : Has w g 24 #[.int .i64 c1, .int .u8 k1, .slice A1 n1 p1]) (h1 : RRows w A1 n1 p1 l1) : RProfs w (some ⟨g, 0, none⟩) 1 1 [(c1, k1, l1)] := by
  refine ⟨rfl, Nat.le_refl _, by omega, fun _ => ⟨g, 0, rfl, fun i hi => ?_⟩⟩
  obtain rfl : i = 0 := by omega
  exact ⟨_, _, _, hg.cell 0, hg.cell 1, hg.cell 2, h1⟩

set_option maxRecDepth 100000 in
set_option maxHeartbeats 8000000 in
theorem profileTurns_any (c k : Int) (A : Option Addr) (n cp : Nat) (l : List Row) (AB : Option Addr) (nB cB : Nat) (bs : List Bool) (AI : Option Addr) (nI cI : Nat) (ps : List Int) (cands kind : Int) (AL : Option Addr) (nL cL : Nat) (bl : List Bal) (w : World)
    (h : RRows w A n cp l) (hB : RBools w AB nB cB bs) (hI : RInts w AI nI cI ps) (hL : RBals w AL nL cL bl) :
    Calls Tryz.prog 3 #[.agg #[.int .i64 c, .int .u8 k, .slice A n cp], .slice AB nB cB, .slice AI nI cI, .int .i64 cands, .int .u8 kind, .slice AL nL cL] w fun e w' => e = .returned (.bool true) ∧ Below w.heap.size w w' := by
  have hleL := hL.le
  have hlenL := hide hL.len
  have hS0 := (Hs.nil w).alloc 24 #[.int .i64 c, .int .u8 k, .slice A n cp]
  have hb0 : Below w.heap.size w (w.alloc (.cells #[.int .i64 c, .int .u8 k, .slice A n cp] 24)) := (Below.refl _ _).alloc (Nat.le_refl _) _
  go_enter Tryz.func3, Tryz.ntmps3
  go_upto_region 1 with fail
  generalize hW : World.alloc w _ = W0 at hS0 hb0
  try rw [hW]
  clear hW
  have p0 : W0.cell? ⟨w.heap.size, 0, none⟩ = some (.int .i64 c) := hS0.1.cell 0
  have p1 : W0.cell? ⟨w.heap.size, 1, none⟩ = some (.int .u8 k) := hS0.1.cell 1
  have p2 : W0.cell? ⟨w.heap.size, 2, none⟩ = some (.slice A n cp) := hS0.1.cell 2
  have hbw5 : Below W0.heap.size W0 (W0.alloc (.cells #[.int .i64 c, .int .u8 k, .slice A n cp] 24)) := (Below.refl _ _).alloc (Nat.le_refl _) _
  have hpp := profs1 (Has.new W0 24 #[.int .i64 c, .int .u8 k, .slice A n cp]) ((h.below hb0).below hbw5)
  go_wp2_with fail
  refine (great9_any _ 1 1 _ _ hpp).mono ?_
  rintro e w1 ⟨rfl, hbw6⟩
  have hbw := Below_trans' hbw5 hbw5.size hbw6
  have hS1 := hS0.below hbw
  have hb1 := Below_trans' hb0 hb0.size hbw
  clear hS0 hb0 hbw hbw5 hbw6 hpp p0 p1 p2
  cases hG9 : great9 [(c, k, l)] with
  | true =>
    clear hG9
    go_wp2_with fail
    refine (wakes9_any _).mono ?_
    rintro e w9 ⟨rfl, hbw⟩
    go_wp2
    go_ret
    exact ⟨rfl, Below_trans' hb1 hb1.size hbw⟩
  | false =>
    have hg1 : greatS l = false := by simpa [great9] using hG9
    have G1 := hide (great_no hg1)
    clear hG9 hg1
    by_cases hn1 : (60 : Int) < (nB : Int)
    · go_wp2_with fail
      refine (wakes9_any _).mono ?_
      rintro e w9 ⟨rfl, hbw⟩
      go_wp2
      go_ret
      exact ⟨rfl, Below_trans' hb1 hb1.size hbw⟩
    · by_cases hn2 : (60 : Int) < (nI : Int)
      · go_wp2_with fail
        refine (wakes9_any _).mono ?_
        rintro e w9 ⟨rfl, hbw⟩
        go_wp2
        go_ret
        exact ⟨rfl, Below_trans' hb1 hb1.size hbw⟩
      · by_cases hn3 : (100 : Int) < (nL : Int)
        · go_wp2_with fail
          refine (wakes9_any _).mono ?_
          rintro e w9 ⟨rfl, hbw⟩
          go_wp2
          go_ret
          exact ⟨rfl, Below_trans' hb1 hb1.size hbw⟩
        · have hP1 : Has w1 w.heap.size 24 #[.int .i64 c, .int .u8 k, .slice A n cp] := hS1.1
          clear hS1
          go_wp2_with fail
          clear hn1 hn2 hn3
          go_loopw [13] (fun i wr => ∃ t : Nat, t ≤ nL ∧ i = .int .i64 t ∧ Has wr w.heap.size 24 #[.int .i64 c, .int .u8 k, .slice A n cp] ∧ Below w.heap.size w wr) (fun i _ => nL - (intOf i).toNat)
          case atStart => exact ⟨0, Nat.zero_le _, rfl, hP1, hb1⟩
          case round =>
            clear hP1 hb1
            obtain ⟨t, ht, rfl, hPr, hb⟩ := hrel
            by_cases hlt : t < nL
            · obtain ⟨b, off, Am, nm, cm, kb, ms, rfl, hc0, hc1, hm0, hat⟩ := hL.step hlt
              have q0 := keep_cell hb hc0
              have q1 := keep_cell hb hc1
              have b1 : (0 : Int) ≤ (t : Int) := by omega
              have b2 : (t : Int) < (nL : Int) := by omega
              clear hc0 hc1 hat
              go_wp2_with fail
              refine (bgreat_any kb Am nm cm ms _ (hm0.below hb)).mono ?_
              rintro e w2 ⟨rfl, hbw⟩
              have hPr2 := hPr.below hbw hPr.lt
              have hb2 := Below_trans' hb hb.size hbw
              clear hPr hb hbw q0 q1
              cases hG : bgreatS ms with
              | true =>
                clear hG
                go_wp2_with fail
                refine (wakes9_any _).mono ?_
                rintro e w9 ⟨rfl, hbw⟩
                go_wp2
                go_ret
                exact ⟨rfl, Below_trans' hb2 hb2.size hbw⟩
              | false =>
                clear hG
                go_wp2
                go_roundw
                case rel => exact ⟨t + 1, by omega, by go_num, hPr2, hb2⟩
                case measure => simp [intOf] <;> omega
            · have b2 : ¬ (t : Int) < (nL : Int) := by omega
              have hQ0 : Fs wr [fHas w.heap.size 24 #[.int .i64 c, .int .u8 k, .slice A n cp]] := ⟨hPr, trivial⟩
              have hb0 := hb
              have hS0 := Fs.nil wr
              clear hPr hb
              obtain ⟨w0, hw0⟩ : ∃ w0, w0 = wr := ⟨_, rfl⟩
              subst hw0
              have hn9 : n ≤ 1000 := by have := G1.out.1; have := h.len; omega
              have M1 := hide (show ∀ r ∈ l, r.1.length ≤ 1000 from fun r hr => by have := G1.out.2 r hr; omega)
              go_upto_region 8 with fail
              clear b2
              have p0 : w0.cell? ⟨w.heap.size, 0, none⟩ = some (.int .i64 (c)) := (hQ0.1).cell 0
              have p1 : w0.cell? ⟨w.heap.size, 1, none⟩ = some (.int .u8 (k)) := (hQ0.1).cell 1
              have p2 : w0.cell? ⟨w.heap.size, 2, none⟩ = some (.slice A n cp) := (hQ0.1).cell 2
              go_wp2_with fail
              refine (rtwin_any c k A n cp l _ (h.below hb0) hn9 M1.out).mono ?_
              rintro e w1 ⟨v, rfl, hO, hbw⟩
              obtain ⟨Aw, nw, cw, rfl⟩ := hO.isSlice
              clear p0 p1 p2
              have hQ1 := hQ0.below hbw
              have hS1 := hS0.below hbw
              have hb1 := Below_trans' hb0 hb0.size hbw
              clear hQ0 hS0 hb0 hbw
              replace hS1 := hS1.rows hO.rows
              clear hO
              go_upto_region 9 with fail
              have hbw : Below w1.heap.size w1 (w1.alloc (.cells #[.int .i64 c, .int .u8 k, .slice Aw nw cw] 24)) := (Below.refl _ _).alloc (Nat.le_refl _) _
              have hN := Has.new w1 24 #[.int .i64 c, .int .u8 k, .slice Aw nw cw]
              have hQ2 := hQ1.below hbw
              have hS2 := (hS1.below hbw).has hN
              have hb2 := Below_trans' hb1 hb1.size hbw
              clear hQ1 hS1 hb1 hN hbw
              generalize hW : World.alloc w1 _ = w2 at hQ2 hS2 hb2
              try rw [hW]
              clear hW
              generalize w1.heap.size = vw at hS2 ⊢
              obtain ⟨⟨ae, ac, ak, al⟩, ha⟩ : ∃ r, turnP (fun ms => keptS k ms bs) c k l = r := ⟨_, rfl⟩
              have HA := hide ha
              clear ha
              obtain ⟨⟨re, rc, rk, rl⟩, hr⟩ : ∃ r, renP c k l ps = r := ⟨_, rfl⟩
              have HR := hide hr
              clear hr
              obtain ⟨⟨me, mc, mk, ml⟩, hm⟩ : ∃ r, makeP cands kind bl = r := ⟨_, rfl⟩
              have HM := hide hm
              clear hm
              have p0 : w2.cell? ⟨w.heap.size, 0, none⟩ = some (.int .i64 (c)) := (hQ2.1).cell 0
              have p1 : w2.cell? ⟨w.heap.size, 1, none⟩ = some (.int .u8 (k)) := (hQ2.1).cell 1
              have p2 : w2.cell? ⟨w.heap.size, 2, none⟩ = some (.slice A n cp) := (hQ2.1).cell 2
              go_wp2_with fail
              refine (pkeep_any c k A n cp l AB nB cB bs _ (h.below hb2) (hB.below hb2)).mono ?_
              rintro e w3 ⟨Aa, na, ca, rfl, hOk, hbw⟩
              rw [HA.out] at hOk ⊢
              simp only at hOk ⊢
              have hQ3 := hQ2.below hbw
              have hS3 := hS2.below hbw
              have hb3 := Below_trans' hb2 hb2.size hbw
              clear hQ2 hS2 hb2 hbw
              replace hS3 := hS3.rows hOk.rows
              clear hOk
              clear p0 p1 p2
              go_upto_region 10 with fail
              have hbw : Below w3.heap.size w3 (w3.alloc (.cells #[.int .i64 ac, .int .u8 ak, .slice Aa na ca] 24)) := (Below.refl _ _).alloc (Nat.le_refl _) _
              have hN := Has.new w3 24 #[.int .i64 ac, .int .u8 ak, .slice Aa na ca]
              have hQ4 := hQ3.below hbw
              have hS4 := (hS3.below hbw).has hN
              have hb4 := Below_trans' hb3 hb3.size hbw
              clear hQ3 hS3 hb3 hN hbw
              generalize hW : World.alloc w3 _ = w4 at hQ4 hS4 hb4
              try rw [hW]
              clear hW
              generalize w3.heap.size = va at hS4 ⊢
              have p0 : w4.cell? ⟨w.heap.size, 0, none⟩ = some (.int .i64 (c)) := (hQ4.1).cell 0
              have p1 : w4.cell? ⟨w.heap.size, 1, none⟩ = some (.int .u8 (k)) := (hQ4.1).cell 1
              have p2 : w4.cell? ⟨w.heap.size, 2, none⟩ = some (.slice A n cp) := (hQ4.1).cell 2
              go_wp2_with fail
              refine (rkeep9_any c k A n cp l AB nB cB bs _ (h.below hb4) (hB.below hb4)).mono ?_
              rintro e w5 ⟨Ab, nb, cb, rfl, hOk, hbw⟩
              rw [HA.out] at hOk ⊢
              simp only at hOk ⊢
              have hQ5 := hQ4.below hbw
              have hS5 := hS4.below hbw
              have hb5 := Below_trans' hb4 hb4.size hbw
              clear hQ4 hS4 hb4 hbw
              replace hS5 := hS5.rows hOk
              clear hOk
              clear p0 p1 p2
              go_upto_region 11 with fail
              have hbw : Below w5.heap.size w5 (w5.alloc (.cells #[.int .i64 ac, .int .u8 ak, .slice Ab nb cb] 24)) := (Below.refl _ _).alloc (Nat.le_refl _) _
              have hN := Has.new w5 24 #[.int .i64 ac, .int .u8 ak, .slice Ab nb cb]
              have hQ6 := hQ5.below hbw
              have hS6 := (hS5.below hbw).has hN
              have hb6 := Below_trans' hb5 hb5.size hbw
              clear hQ5 hS5 hb5 hN hbw
              generalize hW : World.alloc w5 _ = w6 at hQ6 hS6 hb6
              try rw [hW]
              clear hW
              generalize w5.heap.size = vb at hS6 ⊢
              have p0 : w6.cell? ⟨w.heap.size, 0, none⟩ = some (.int .i64 (c)) := (hQ6.1).cell 0
              have p1 : w6.cell? ⟨w.heap.size, 1, none⟩ = some (.int .u8 (k)) := (hQ6.1).cell 1
              have p2 : w6.cell? ⟨w.heap.size, 2, none⟩ = some (.slice A n cp) := (hQ6.1).cell 2
              go_wp2_with fail
              refine (prename_all c k A n cp l AI nI cI ps _ (h.below hb6) (hI.below hb6)).mono ?_
              rintro e w7 ⟨Ac, nc, cc, rfl, hOk, hbw⟩
              rw [HR.out] at hOk ⊢
              simp only at hOk ⊢
              have hQ7 := hQ6.below hbw
              have hS7 := hS6.below hbw
              have hb7 := Below_trans' hb6 hb6.size hbw
              clear hQ6 hS6 hb6 hbw
              replace hS7 := hS7.rows hOk.rows
              clear hOk
              clear p0 p1 p2
              go_upto_region 12 with fail
              have hbw : Below w7.heap.size w7 (w7.alloc (.cells #[.int .i64 rc, .int .u8 rk, .slice Ac nc cc] 24)) := (Below.refl _ _).alloc (Nat.le_refl _) _
              have hN := Has.new w7 24 #[.int .i64 rc, .int .u8 rk, .slice Ac nc cc]
              have hQ8 := hQ7.below hbw
              have hS8 := (hS7.below hbw).has hN
              have hb8 := Below_trans' hb7 hb7.size hbw
              clear hQ7 hS7 hb7 hN hbw
              generalize hW : World.alloc w7 _ = w8 at hQ8 hS8 hb8
              try rw [hW]
              clear hW
              generalize w7.heap.size = vc at hS8 ⊢
              have p0 : w8.cell? ⟨w.heap.size, 0, none⟩ = some (.int .i64 (c)) := (hQ8.1).cell 0
              have p1 : w8.cell? ⟨w.heap.size, 1, none⟩ = some (.int .u8 (k)) := (hQ8.1).cell 1
              have p2 : w8.cell? ⟨w.heap.size, 2, none⟩ = some (.slice A n cp) := (hQ8.1).cell 2
              go_wp2_with fail
              refine (rren9_any c k A n cp l AI nI cI ps _ (h.below hb8) (hI.below hb8)).mono ?_
              rintro e w9 ⟨Ad, nd, cd, rfl, hOk, hbw⟩
              rw [HR.out] at hOk ⊢
              simp only at hOk ⊢
              have hQ9 := hQ8.below hbw
              have hS9 := hS8.below hbw
              have hb9 := Below_trans' hb8 hb8.size hbw
              clear hQ8 hS8 hb8 hbw
              replace hS9 := hS9.rows hOk
              clear hOk
              clear p0 p1 p2
              go_upto_region 13 with fail
              have hbw : Below w9.heap.size w9 (w9.alloc (.cells #[.int .i64 rc, .int .u8 rk, .slice Ad nd cd] 24)) := (Below.refl _ _).alloc (Nat.le_refl _) _
              have hN := Has.new w9 24 #[.int .i64 rc, .int .u8 rk, .slice Ad nd cd]
              have hQ10 := hQ9.below hbw
              have hS10 := (hS9.below hbw).has hN
              have hb10 := Below_trans' hb9 hb9.size hbw
              clear hQ9 hS9 hb9 hN hbw
              generalize hW : World.alloc w9 _ = w10 at hQ10 hS10 hb10
              try rw [hW]
              clear hW
              generalize w9.heap.size = vd at hS10 ⊢
              go_wp2_with fail
              refine (pmake_any cands kind AL nL cL bl _ (hL.below hb10)).mono ?_
              rintro e w11 ⟨Am, nm, cm, rfl, hOk, hbw⟩
              rw [HM.out] at hOk ⊢
              simp only at hOk ⊢
              have hQ11 := hQ10.below hbw
              have hS11 := hS10.below hbw
              have hb11 := Below_trans' hb10 hb10.size hbw
              clear hQ10 hS10 hb10 hbw
              replace hS11 := hS11.rows hOk.rows
              clear hOk
              go_upto_region 14 with fail
              have hbw : Below w11.heap.size w11 (w11.alloc (.cells #[.int .i64 mc, .int .u8 mk, .slice Am nm cm] 24)) := (Below.refl _ _).alloc (Nat.le_refl _) _
              have hN := Has.new w11 24 #[.int .i64 mc, .int .u8 mk, .slice Am nm cm]
              have hQ12 := hQ11.below hbw
              have hS12 := (hS11.below hbw).has hN
              have hb12 := Below_trans' hb11 hb11.size hbw
              clear hQ11 hS11 hb11 hN hbw
              generalize hW : World.alloc w11 _ = w12 at hQ12 hS12 hb12
              try rw [hW]
              clear hW
              generalize w11.heap.size = vm at hS12 ⊢
              go_wp2_with fail
              refine (rmake_any cands kind AL nL cL bl _ (hL.below hb12)).mono ?_
              rintro e w13 ⟨An, nn, cn, rfl, hOk, hbw⟩
              rw [HM.out] at hOk ⊢
              simp only at hOk ⊢
              have hQ13 := hQ12.below hbw
              have hS13 := hS12.below hbw
              have hb13 := Below_trans' hb12 hb12.size hbw
              clear hQ12 hS12 hb12 hbw
              replace hS13 := hS13.rows hOk.rows
              clear hOk
              go_upto_region 15 with fail
              have hbw : Below w13.heap.size w13 (w13.alloc (.cells #[.int .i64 mc, .int .u8 mk, .slice An nn cn] 24)) := (Below.refl _ _).alloc (Nat.le_refl _) _
              have hN := Has.new w13 24 #[.int .i64 mc, .int .u8 mk, .slice An nn cn]
              have hQ14 := hQ13.below hbw
              have hS14 := (hS13.below hbw).has hN
              have hb14 := Below_trans' hb13 hb13.size hbw
              clear hQ13 hS13 hb13 hN hbw
              generalize hW : World.alloc w13 _ = w14 at hQ14 hS14 hb14
              try rw [hW]
              clear hW
              generalize w13.heap.size = vn at hS14 ⊢
              have ea : (ae == ae) = true := by simp
              have er : (re == re) = true := by simp
              have em : (me == me) = true := by simp
              have p0 : w14.cell? ⟨va, 0, none⟩ = some (.int .i64 (ac)) := (hS14.2.2.2.2.2.2.2.2.2.2.1).cell 0
              have p1 : w14.cell? ⟨va, 1, none⟩ = some (.int .u8 (ak)) := (hS14.2.2.2.2.2.2.2.2.2.2.1).cell 1
              have p2 : w14.cell? ⟨va, 2, none⟩ = some (.slice Aa na ca) := (hS14.2.2.2.2.2.2.2.2.2.2.1).cell 2
              have q0 : w14.cell? ⟨vb, 0, none⟩ = some (.int .i64 (ac)) := (hS14.2.2.2.2.2.2.2.2.1).cell 0
              have q1 : w14.cell? ⟨vb, 1, none⟩ = some (.int .u8 (ak)) := (hS14.2.2.2.2.2.2.2.2.1).cell 1
              have q2 : w14.cell? ⟨vb, 2, none⟩ = some (.slice Ab nb cb) := (hS14.2.2.2.2.2.2.2.2.1).cell 2
              go_wp2_with fail
              refine (rsame_any ac ak Aa na ca al ac ak Ab nb cb al _ hS14.2.2.2.2.2.2.2.2.2.2.2.1 hS14.2.2.2.2.2.2.2.2.2.1).mono ?_
              rintro e w15 ⟨rfl, hbw⟩
              rw [sameB_self]
              clear p0 p1 p2 q0 q1 q2
              have hQ15 := hQ14.below hbw
              have hS15 := hS14.below hbw
              have hb15 := Below_trans' hb14 hb14.size hbw
              clear hQ14 hS14 hb14 hbw
              have p0 : w15.cell? ⟨vc, 0, none⟩ = some (.int .i64 (rc)) := (hS15.2.2.2.2.2.2.1).cell 0
              have p1 : w15.cell? ⟨vc, 1, none⟩ = some (.int .u8 (rk)) := (hS15.2.2.2.2.2.2.1).cell 1
              have p2 : w15.cell? ⟨vc, 2, none⟩ = some (.slice Ac nc cc) := (hS15.2.2.2.2.2.2.1).cell 2
              have q0 : w15.cell? ⟨vd, 0, none⟩ = some (.int .i64 (rc)) := (hS15.2.2.2.2.1).cell 0
              have q1 : w15.cell? ⟨vd, 1, none⟩ = some (.int .u8 (rk)) := (hS15.2.2.2.2.1).cell 1
              have q2 : w15.cell? ⟨vd, 2, none⟩ = some (.slice Ad nd cd) := (hS15.2.2.2.2.1).cell 2
              go_wp2_with fail
              refine (rsame_any rc rk Ac nc cc rl rc rk Ad nd cd rl _ hS15.2.2.2.2.2.2.2.1 hS15.2.2.2.2.2.1).mono ?_
              rintro e w16 ⟨rfl, hbw⟩
              rw [sameB_self]
              clear p0 p1 p2 q0 q1 q2
              have hQ16 := hQ15.below hbw
              have hS16 := hS15.below hbw
              have hb16 := Below_trans' hb15 hb15.size hbw
              clear hQ15 hS15 hb15 hbw
              have p0 : w16.cell? ⟨vm, 0, none⟩ = some (.int .i64 (mc)) := (hS16.2.2.1).cell 0
              have p1 : w16.cell? ⟨vm, 1, none⟩ = some (.int .u8 (mk)) := (hS16.2.2.1).cell 1
              have p2 : w16.cell? ⟨vm, 2, none⟩ = some (.slice Am nm cm) := (hS16.2.2.1).cell 2
              have q0 : w16.cell? ⟨vn, 0, none⟩ = some (.int .i64 (mc)) := (hS16.1).cell 0
              have q1 : w16.cell? ⟨vn, 1, none⟩ = some (.int .u8 (mk)) := (hS16.1).cell 1
              have q2 : w16.cell? ⟨vn, 2, none⟩ = some (.slice An nn cn) := (hS16.1).cell 2
              go_wp2_with fail
              refine (rsame_any mc mk Am nm cm ml mc mk An nn cn ml _ hS16.2.2.2.1 hS16.2.1).mono ?_
              rintro e w17 ⟨rfl, hbw⟩
              rw [sameB_self]
              clear p0 p1 p2 q0 q1 q2
              have hQ17 := hQ16.below hbw
              have hS17 := hS16.below hbw
              have hb17 := Below_trans' hb16 hb16.size hbw
              clear hQ16 hS16 hb16 hbw
              have p0 : w17.cell? ⟨w.heap.size, 0, none⟩ = some (.int .i64 (c)) := (hQ17.1).cell 0
              have p1 : w17.cell? ⟨w.heap.size, 1, none⟩ = some (.int .u8 (k)) := (hQ17.1).cell 1
              have p2 : w17.cell? ⟨w.heap.size, 2, none⟩ = some (.slice A n cp) := (hQ17.1).cell 2
              have q0 : w17.cell? ⟨vw, 0, none⟩ = some (.int .i64 (c)) := (hS17.2.2.2.2.2.2.2.2.2.2.2.2.1).cell 0
              have q1 : w17.cell? ⟨vw, 1, none⟩ = some (.int .u8 (k)) := (hS17.2.2.2.2.2.2.2.2.2.2.2.2.1).cell 1
              have q2 : w17.cell? ⟨vw, 2, none⟩ = some (.slice Aw nw cw) := (hS17.2.2.2.2.2.2.2.2.2.2.2.2.1).cell 2
              go_wp2_with fail
              refine (rsame_any c k A n cp l c k Aw nw cw l _ (h.below hb17) hS17.2.2.2.2.2.2.2.2.2.2.2.2.2.1).mono ?_
              rintro e w18 ⟨rfl, hbw⟩
              rw [sameB_self]
              clear p0 p1 p2 q0 q1 q2
              have hQ18 := hQ17.below hbw
              have hS18 := hS17.below hbw
              have hb18 := Below_trans' hb17 hb17.size hbw
              clear hQ17 hS17 hb17 hbw
              go_wp2_with fail
              refine (wakes9_any _).mono ?_
              rintro e w9 ⟨rfl, hbw⟩
              go_wp2
              go_ret
              exact ⟨rfl, Below_trans' hb18 hb18.size hbw⟩
end Go.Proofs.YtleniljhacnikaaGreat
