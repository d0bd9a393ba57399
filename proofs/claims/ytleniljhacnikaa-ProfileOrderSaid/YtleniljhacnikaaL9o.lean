/-
  The law ProfileOrder.
-/
import Derived.Test.YtleniljhacnikaaBals
import Derived.Test.YtleniljhacnikaaSpecO
import Derived.Test.YtleniljhacnikaaW9z
import Derived.Test.YtleniljhacnikaaW9v
import Derived.Test.YtleniljhacnikaaW9e
namespace Go.Proofs.Ytleniljhacnikaa
open Go.RowKit Go.Proofs
attribute [local go_sem] cell?_more cell?_alloc_some cell?_setCell_far frozen?_alloc_some frozen?_more

theorem cntV_all {c k : Int} {l : List Row} (h : checkS c k l = 0) : cntV c k l anyRow = totS l := by
  unfold cntV; rw [if_pos h, cntP_any]

section
variable {ops : Array Oper} {rest : List Oper} {o : Oper} {a : Act} {w : World} {Q : Exit → Act → World → Prop}
theorem listMax (hgd : o.guard = none) {x y : Operand} {ats : Array TypeId} (ho : o.op = .call { callee := .builtin .max, args := #[x, y], argTypes := ats }) {u v z : Int} (hx : a.eval x = .int .i64 u) (hy : a.eval y = .int .i64 v) (hz : (if v > u then v else u) = z)
    (h : wpList Try.prog ops Q rest (a.put o.dst (.int .i64 z)) w) : wpList Try.prog ops Q (o :: rest) a w :=
  wpList_plain hgd fun _ hK => by
    unfold Oper.wp execOp
    simp only [ho, resolve, invoke, builtin, Sem.run_bind, Sem.run_pure, Result.andThen_ok, List.map_toArray, List.map_cons, List.map_nil, hx, hy, run_max_int2, hz]
    exact hK _ _ h
theorem listMin (hgd : o.guard = none) {x y : Operand} {ats : Array TypeId} (ho : o.op = .call { callee := .builtin .min, args := #[x, y], argTypes := ats }) {u v z : Int} (hx : a.eval x = .int .i64 u) (hy : a.eval y = .int .i64 v) (hz : (if v < u then v else u) = z)
    (h : wpList Try.prog ops Q rest (a.put o.dst (.int .i64 z)) w) : wpList Try.prog ops Q (o :: rest) a w :=
  wpList_plain hgd fun _ hK => by
    unfold Oper.wp execOp
    simp only [ho, resolve, invoke, builtin, Sem.run_bind, Sem.run_pure, Result.andThen_ok, List.map_toArray, List.map_cons, List.map_nil, hx, hy, run_min_int2, hz]
    exact hK _ _ h
end
theorem clampN (z : Int) (n : Nat) : ∃ (x : Int) (m : Nat), (if (0 : Int) > z then 0 else z) = x ∧ (if (n : Int) < x then (n : Int) else x) = (m : Int) ∧ m ≤ n := by
  refine ⟨_, (if (n : Int) < (if (0 : Int) > z then 0 else z) then (n : Int) else (if (0 : Int) > z then 0 else z)).toNat, rfl, ?_, ?_⟩
  · repeat' split
    all_goals omega
  · repeat' split
    all_goals omega
theorem clampI (z : Int) {n : Nat} (hn : 0 < n) : ∃ (x : Int) (m : Nat), (if (0 : Int) > z then 0 else z) = x ∧ (if (n : Int) - 1 < x then (n : Int) - 1 else x) = (m : Int) ∧ m < n := by
  refine ⟨_, (if (n : Int) - 1 < (if (0 : Int) > z then 0 else z) then (n : Int) - 1 else (if (0 : Int) > z then 0 else z)).toNat, rfl, ?_, ?_⟩
  · repeat' split
    all_goals omega
  · repeat' split
    all_goals omega


set_option maxRecDepth 100000 in
set_option maxHeartbeats 8000000 in
theorem profileOrder_any (cands kind : Int) (A : Option Addr) (n cp : Nat) (bl : List Bal) (zi zk za : Int) (w : World) (h : RBals w A n cp bl) :
    Calls Try.prog 9 #[.int .i64 cands, .int .u8 kind, .slice A n cp, .int .i64 zi, .int .i64 zk, .int .i64 za] w fun e w' => e = .returned (.bool true) ∧ Below w.heap.size w w' := by
  have hle := h.le
  have hlen := hide h.len
  have hbR := Below.refl w.heap.size w
  go_enter Try.func9, Try.ntmps9
  by_cases hn60 : 60 < n
  · have n1 : (60 : Int) < (n : Int) := by omega
    go_wp2_with fail
    refine (wakes9_any _).mono ?_
    rintro e w9 ⟨rfl, hbw⟩
    go_wp2
    go_ret
    exact ⟨rfl, Below_trans' hbR hbR.size hbw⟩
  · have n1 : ¬ (60 : Int) < (n : Int) := by omega
    replace hn60 : bl.length ≤ 60 := by have := hlen.out; omega
    go_wp2_with fail
    clear n1
    go_loopw [13] (fun i wr => ∃ t : Nat, t ≤ n ∧ i = .int .i64 t ∧ Hid (∀ b ∈ bl.take t, b.1 = kind ∧ bcheckS b.1 b.2 cands = 0) ∧ Below w.heap.size w wr) (fun i _ => n - (intOf i).toNat)
    case atStart => exact ⟨0, Nat.zero_le _, rfl, hide (fun b hb => by simp at hb), hbR⟩
    case round =>
      clear hbR
      obtain ⟨t, ht, rfl, hv, hb⟩ := hrel
      by_cases hlt : t < n
      · obtain ⟨b, off, Am, nm, cm, kb, ms, rfl, hc0, hc1, hm0, hat⟩ := h.step hlt
        have q0 := keep_cell hb hc0
        have q1 := keep_cell hb hc1
        have b1 : (0 : Int) ≤ (t : Int) := by omega
        have b2 : (t : Int) < (n : Int) := by omega
        obtain ⟨cv, hcv⟩ : ∃ x, bcheckS kb ms cands = x := ⟨_, rfl⟩
        have HC := hide hcv
        clear hcv
        go_wp2_with fail
        refine (rbcheck_any kb Am nm cm ms cands _ (hm0.below hb)).mono ?_
        rintro e w1 ⟨rfl, hbw⟩
        rw [HC.out]
        have hb1 := Below_trans' hb hb.size hbw
        clear q0 q1 hbw hb
        have q0 := keep_cell hb1 hc0
        by_cases hcz : cv = 0
        · have c1 : (cv != 0) = false := by simp [hcz]
          by_cases hkk : kb = kind
          · have c2 : (kb != kind) = false := by simp [hkk]
            have hv' : Hid (∀ b ∈ bl.take (t + 1), b.1 = kind ∧ bcheckS b.1 b.2 cands = 0) := hide (fun b hb => by
              rw [List.take_add_one, hat.out] at hb
              rcases List.mem_append.1 hb with hb | hb
              · exact hv.out b hb
              · simp at hb; subst hb; exact ⟨hkk, by rw [HC.out, hcz]⟩)
            clear hv hat hkk hcz
            go_wp2
            go_roundw
            case rel => exact ⟨t + 1, by omega, by go_num, hv', hb1⟩
            case measure => simp [intOf] <;> omega
          · have c2 : (kb != kind) = true := by simpa using hkk
            clear hkk hcz hv hat
            go_wp2_with fail
            refine (wakes9_any _).mono ?_
            rintro e w9 ⟨rfl, hbw⟩
            go_wp2
            go_ret
            exact ⟨rfl, Below_trans' hb1 hb1.size hbw⟩
        · have c1 : (cv != 0) = true := by simpa using hcz
          clear hcz hv hat
          go_wp2_with fail
          refine (wakes9_any _).mono ?_
          rintro e w9 ⟨rfl, hbw⟩
          go_wp2
          go_ret
          exact ⟨rfl, Below_trans' hb1 hb1.size hbw⟩
      · have b2 : ¬ (t : Int) < (n : Int) := by omega
        have hbl : Hid (∀ b ∈ bl, b.1 = kind ∧ bcheckS b.1 b.2 cands = 0) := hide (fun b hb' => hv.out b (by rw [List.take_of_length_le (by have := hlen.out; omega)]; exact hb'))
        clear hv hlt ht
        have hb0 := hb
        have hQ0 := Fs.nil wr
        have hS0 := Fs.nil wr
        obtain ⟨w0, hw0⟩ : ∃ w0, w0 = wr := ⟨_, rfl⟩
        subst hw0
        clear hb
        go_upto_region 8 with fail
        clear b2
        by_cases hbad : cands < 1 ∨ 10 < cands ∨ kind < 1 ∨ 3 < kind
        · have HM := hide (make_bad hbad bl)
          go_wp2_with fail
          refine (pmake_any cands kind A n cp bl _ (h.below hb0)).mono ?_
          rintro e w2 ⟨Ap, np, cpp, rfl, hOk, hbw⟩
          rw [HM.out] at hOk ⊢
          simp only [badP] at hOk ⊢
          have hnp : np = 0 := by have := hOk.rows.len; simpa using this.symm
          subst hnp
          clear hOk
          have hQ2 := hQ0.below hbw
          have hS2 := hS0.below hbw
          have hb2 := Below_trans' hb0 hb0.size hbw
          clear hQ0 hS0 hb0 hbw
          go_upto_region 9 with fail
          have hbw : Below w2.heap.size w2 (w2.alloc (.cells #[.int .i64 0, .int .u8 0, .slice Ap 0 cpp] 24)) := (Below.refl _ _).alloc (Nat.le_refl _) _
          have hN := Has.new w2 24 #[.int .i64 0, .int .u8 0, .slice Ap 0 cpp]
          have hQ3 := hQ2.below hbw
          have hS3 := (hS2.below hbw).has hN
          have hb3 := Below_trans' hb2 hb2.size hbw
          clear hQ2 hS2 hb2 hN hbw
          generalize hW : World.alloc w2 _ = w3 at hQ3 hS3 hb3
          try rw [hW]
          clear hW
          generalize w2.heap.size = vp at hS3 ⊢
          have p0 : w3.cell? ⟨vp, 0, none⟩ = some (.int .i64 (0)) := (hS3.1).cell 0
          have p1 : w3.cell? ⟨vp, 1, none⟩ = some (.int .u8 (0)) := (hS3.1).cell 1
          have p2 : w3.cell? ⟨vp, 2, none⟩ = some (.slice Ap 0 cpp) := (hS3.1).cell 2
          by_cases h1 : cands < 1
          · go_wp2_with fail
            refine (wakes9_any _).mono ?_
            rintro e w9 ⟨rfl, hbw⟩
            go_wp2
            go_ret
            exact ⟨rfl, Below_trans' hb3 hb3.size hbw⟩
          · by_cases h2 : 10 < cands
            · go_wp2_with fail
              refine (wakes9_any _).mono ?_
              rintro e w9 ⟨rfl, hbw⟩
              go_wp2
              go_ret
              exact ⟨rfl, Below_trans' hb3 hb3.size hbw⟩
            · by_cases h3 : kind < 1
              · go_wp2_with fail
                refine (wakes9_any _).mono ?_
                rintro e w9 ⟨rfl, hbw⟩
                go_wp2
                go_ret
                exact ⟨rfl, Below_trans' hb3 hb3.size hbw⟩
              · have h4 : 3 < kind := by omega
                go_wp2_with fail
                refine (wakes9_any _).mono ?_
                rintro e w9 ⟨rfl, hbw⟩
                go_wp2
                go_ret
                exact ⟨rfl, Below_trans' hb3 hb3.size hbw⟩
        · have hc : 1 ≤ cands ∧ cands ≤ 10 := by omega
          have hk : 1 ≤ kind ∧ kind ≤ 3 := by omega
          clear hbad
          have a1 : ¬ cands < 1 := by omega
          have a2 : ¬ 10 < cands := by omega
          have a3 : ¬ kind < 1 := by omega
          have a4 : ¬ 3 < kind := by omega
          obtain ⟨L, _, _, eM, _, _, _, _, eC, eT⟩ := order_law (t := bl) (m := 0) hc hk hbl.out hn60 (List.Perm.refl _)
          have EM := hide eM
          have EC := hide eC
          have ET := hide eT
          clear eM eC eT
          go_wp2_with fail
          refine (pmake_any cands kind A n cp bl _ (h.below hb0)).mono ?_
          rintro e w2 ⟨Ap, np, cpp, rfl, hOk, hbw⟩
          rw [EM.out] at hOk ⊢
          simp only at hOk ⊢
          have hQ2 := hQ0.below hbw
          have hS2 := hS0.below hbw
          have hb2 := Below_trans' hb0 hb0.size hbw
          clear hQ0 hS0 hb0 hbw
          replace hS2 := hS2.rows hOk.rows
          clear hOk
          go_upto_region 9 with fail
          have hbw : Below w2.heap.size w2 (w2.alloc (.cells #[.int .i64 cands, .int .u8 kind, .slice Ap np cpp] 24)) := (Below.refl _ _).alloc (Nat.le_refl _) _
          have hN := Has.new w2 24 #[.int .i64 cands, .int .u8 kind, .slice Ap np cpp]
          have hQ3 := hQ2.below hbw
          have hS3 := (hS2.below hbw).has hN
          have hb3 := Below_trans' hb2 hb2.size hbw
          clear hQ2 hS2 hb2 hN hbw
          generalize hW : World.alloc w2 _ = w3 at hQ3 hS3 hb3
          try rw [hW]
          clear hW
          generalize w2.heap.size = vp at hS3 ⊢
          go_upto_region 12 with fail
          clear a1 a2 a3 a4
          obtain ⟨x1, m, E1, E2, hm⟩ := clampN za n
          go_upto_region 13 with (at_builtin; first | (refine listMax rfl rfl rfl rfl E1 ?_) | (refine listMin rfl rfl rfl rfl E2 ?_))
          clear E1 E2
          have hbn : Below w3.heap.size w3 (w3.alloc (.cells #[] 63)) := (Below.refl _ _).alloc (Nat.le_refl _) _
          obtain ⟨A1, c1, w4, hrun, hB4, hb34, hg4⟩ := copy_bals w3 (w3.alloc (.cells #[] 63)) 60 (Has.new _ _ _) (Nat.le_refl _) (h.below hb3) hbn (by have := hlen.out; omega)
          clear hbn
          go_upto_region 14 with (refine list_app rfl rfl rfl rfl hrun ?_)
          clear hrun
          go_upto_if 97 with fail
          go_cut [17] from 28 (fun v wx => ∃ bl' A2 c2, v = .slice A2 n c2 ∧ bl'.Perm bl ∧ RBals wx A2 n c2 bl' ∧ Below w3.heap.size w3 wx)
          case first =>
            by_cases hz : 0 < n
            · obtain ⟨g, cur, rfl, hg, hH⟩ := hg4 hz
              have z1 : (0 : Int) < (n : Int) := by omega
              go_upto_region 15 with fail
              obtain ⟨x3, I, E3, E4, hI⟩ := clampI zi hz
              obtain ⟨x4, K, E5, E6, hK⟩ := clampI zk hz
              have z4 : (n : Int) ≤ 9223372036854775807 := by omega
              go_upto_region 16 with (at_builtin; first | (refine listMax rfl rfl rfl rfl E3 ?_) | (refine listMax rfl rfl rfl rfl E5 ?_) | (refine listMin rfl rfl rfl rfl E4 ?_) | (refine listMin rfl rfl rfl rfl E6 ?_))
              clear E3 E4 E5 E6
              obtain ⟨ki, Ai, ni, ci, kk, Ak, nk, ck, bl', a0, a1, b0, b1, hperm, hSw⟩ := hB4.swap hI hK
              have f0 := hH.free (I * 2)
              have f1 := hH.free (I * 2 + 1)
              have f2 := hH.free (K * 2)
              have f3 := hH.free (K * 2 + 1)
              have i1 : (0 : Int) ≤ (I : Int) := by omega
              have i2 : (I : Int) < (n : Int) := by omega
              have k1 : (0 : Int) ≤ (K : Int) := by omega
              have k2 : (K : Int) < (n : Int) := by omega
              have hbs := Frame'.below hb34 (((((Frame'.refl (fun b => b = g) w4).setCell (p := ⟨g, I * 2, none⟩) (.inl rfl) (.int .u8 kk)).setCell (p := ⟨g, I * 2 + 1, none⟩) (.inl rfl) (.slice Ak nk ck)).setCell (p := ⟨g, K * 2, none⟩) (.inl rfl) (.int .u8 ki)).setCell (p := ⟨g, K * 2 + 1, none⟩) (.inl rfl) (.slice Ai ni ci)) (fun b e => by rw [e]; exact hg) hb34.size
              have HB := hide hbs
              have HW := hide hSw
              clear hbs hSw
              by_cases hIK : I = K
              · subst hIK
                have e0 := a0.symm.trans b0
                have e1 := a1.symm.trans b1
                cases e0
                cases e1
                clear b0 b1 f2 f3 k1 k2
                go_region_with (fail)
                all_goals
                  go_wp2
                  go_meet
                  case rel => exact ⟨bl', _, _, rfl, hperm, HW.out, HB.out.drew⟩
              · have n1 : I * 2 ≠ K * 2 := by omega
                have n2 : I * 2 ≠ K * 2 + 1 := by omega
                have n3 : I * 2 + 1 ≠ K * 2 := by omega
                have n4 : I * 2 + 1 ≠ K * 2 + 1 := by omega
                go_region_with (fail)
                all_goals
                  go_wp2
                  go_meet
                  case rel => exact ⟨bl', _, _, rfl, hperm, HW.out, HB.out.drew⟩
            · have z1 : ¬ (0 : Int) < (n : Int) := by omega
              go_wp2
              go_meet
              case rel => exact ⟨bl, A1, c1, rfl, List.Perm.refl _, hB4, hb34⟩
          case rest =>
            obtain ⟨bl', A2, c2, rfl, hperm, hB5, hb35⟩ := hcut
            clear hg4 hB4 hb34 hQ3
            obtain ⟨L', L1, L2, f1, f2, f3, f4, f5, f6, f7⟩ := order_law (m := m) hc hk hbl.out hn60 hperm
            obtain rfl : L' = L := by have := f1.symm.trans EM.out; cases this; rfl
            have ET2 := hide f2
            have E1 := hide f3
            have E2 := hide f4
            have ES := hide f5
            have EN : Hid (cntV cands kind L' anyRow = (n : Int)) := hide (by rw [cntV_all EC.out, ET.out, hlen.out])
            clear f1 f2 f3 f4 f5 f6 f7
            have hQ5 := Fs.nil wc
            have hS5 := hS3.below hb35
            have hb5 := Below_trans' hb3 hb3.size hb35
            clear hS3 hb3 hb35
            go_upto_region 17 with fail
            go_wp2_with fail
            refine (pmake_any cands kind A2 n c2 bl' _ hB5).mono ?_
            rintro e w6 ⟨Aq, nq, cq, rfl, hOk, hbw⟩
            rw [ET2.out] at hOk ⊢
            simp only at hOk ⊢
            obtain ⟨w5, hw5⟩ : ∃ w5, w5 = wc := ⟨_, rfl⟩
            subst hw5
            have hQ6 := hQ5.below hbw
            have hS6 := hS5.below hbw
            have hb6 := Below_trans' hb5 hb5.size hbw
            clear hQ5 hS5 hb5 hbw
            replace hS6 := hS6.rows hOk.rows
            clear hOk
            go_upto_region 18 with fail
            have hbw : Below w6.heap.size w6 (w6.alloc (.cells #[.int .i64 cands, .int .u8 kind, .slice Aq nq cq] 24)) := (Below.refl _ _).alloc (Nat.le_refl _) _
            have hN := Has.new w6 24 #[.int .i64 cands, .int .u8 kind, .slice Aq nq cq]
            have hQ7 := hQ6.below hbw
            have hS7 := (hS6.below hbw).has hN
            have hb7 := Below_trans' hb6 hb6.size hbw
            clear hQ6 hS6 hb6 hN hbw
            generalize hW : World.alloc w6 _ = w7 at hQ7 hS7 hb7
            try rw [hW]
            clear hW
            generalize w6.heap.size = vq at hS7 ⊢
            obtain ⟨Al, nl, cl, hA3, hB3⟩ := sliced_lo (h.below hb7) hm
            go_wp2_with (refine sliceBalsLo rfl rfl rfl rfl (by have := h.2.1; omega) hA3 ?_)
            refine (pmake_any cands kind Al nl cl (bl.take m) _ hB3).mono ?_
            rintro e w8 ⟨Ao, no, co, rfl, hOk, hbw⟩
            rw [E1.out] at hOk ⊢
            simp only at hOk ⊢
            have hQ8 := hQ7.below hbw
            have hS8 := hS7.below hbw
            have hb8 := Below_trans' hb7 hb7.size hbw
            clear hQ7 hS7 hb7 hbw
            replace hS8 := hS8.rows hOk.rows
            clear hOk hA3 hB3
            go_upto_region 19 with fail
            have hbw : Below w8.heap.size w8 (w8.alloc (.cells #[.int .i64 cands, .int .u8 kind, .slice Ao no co] 24)) := (Below.refl _ _).alloc (Nat.le_refl _) _
            have hN := Has.new w8 24 #[.int .i64 cands, .int .u8 kind, .slice Ao no co]
            have hQ9 := hQ8.below hbw
            have hS9 := (hS8.below hbw).has hN
            have hb9 := Below_trans' hb8 hb8.size hbw
            clear hQ8 hS8 hb8 hN hbw
            generalize hW : World.alloc w8 _ = w9 at hQ9 hS9 hb9
            try rw [hW]
            clear hW
            generalize w8.heap.size = vo at hS9 ⊢
            obtain ⟨Ah, nh, ch, hA3, hB3⟩ := sliced_hi (h.below hb9) hm
            go_wp2_with (refine sliceBalsHi rfl rfl rfl rfl hm hA3 ?_)
            refine (pmake_any cands kind Ah nh ch (bl.drop m) _ hB3).mono ?_
            rintro e w10 ⟨At, nt, ct, rfl, hOk, hbw⟩
            rw [E2.out] at hOk ⊢
            simp only at hOk ⊢
            have hQ10 := hQ9.below hbw
            have hS10 := hS9.below hbw
            have hb10 := Below_trans' hb9 hb9.size hbw
            clear hQ9 hS9 hb9 hbw
            replace hS10 := hS10.rows hOk.rows
            clear hOk hA3 hB3
            go_upto_region 20 with fail
            have hbw : Below w10.heap.size w10 (w10.alloc (.cells #[.int .i64 cands, .int .u8 kind, .slice At nt ct] 24)) := (Below.refl _ _).alloc (Nat.le_refl _) _
            have hN := Has.new w10 24 #[.int .i64 cands, .int .u8 kind, .slice At nt ct]
            have hQ11 := hQ10.below hbw
            have hS11 := (hS10.below hbw).has hN
            have hb11 := Below_trans' hb10 hb10.size hbw
            clear hQ10 hS10 hb10 hN hbw
            generalize hW : World.alloc w10 _ = w11 at hQ11 hS11 hb11
            try rw [hW]
            clear hW
            generalize w10.heap.size = vt at hS11 ⊢
            have p0 : w11.cell? ⟨vt, 0, none⟩ = some (.int .i64 (cands)) := (hS11.1).cell 0
            have p1 : w11.cell? ⟨vt, 1, none⟩ = some (.int .u8 (kind)) := (hS11.1).cell 1
            have p2 : w11.cell? ⟨vt, 2, none⟩ = some (.slice At nt ct) := (hS11.1).cell 2
            have q0 : w11.cell? ⟨vo, 0, none⟩ = some (.int .i64 (cands)) := (hS11.2.2.1).cell 0
            have q1 : w11.cell? ⟨vo, 1, none⟩ = some (.int .u8 (kind)) := (hS11.2.2.1).cell 1
            have q2 : w11.cell? ⟨vo, 2, none⟩ = some (.slice Ao no co) := (hS11.2.2.1).cell 2
            go_wp2_with fail
            refine (psum_any cands kind At nt ct L2 cands kind Ao no co L1 _ hS11.2.1 hS11.2.2.2.1).mono ?_
            rintro e w12 ⟨As, ns, cs, rfl, hOk, hbw⟩
            rw [ES.out] at hOk ⊢
            simp only at hOk ⊢
            have hQ12 := hQ11.below hbw
            have hS12 := hS11.below hbw
            have hb12 := Below_trans' hb11 hb11.size hbw
            clear hQ11 hS11 hb11 hbw
            replace hS12 := hS12.rows hOk
            clear hOk
            clear p0 p1 p2 q0 q1 q2
            go_upto_region 21 with fail
            have hbw : Below w12.heap.size w12 (w12.alloc (.cells #[.int .i64 cands, .int .u8 kind, .slice As ns cs] 24)) := (Below.refl _ _).alloc (Nat.le_refl _) _
            have hN := Has.new w12 24 #[.int .i64 cands, .int .u8 kind, .slice As ns cs]
            have hQ13 := hQ12.below hbw
            have hS13 := (hS12.below hbw).has hN
            have hb13 := Below_trans' hb12 hb12.size hbw
            clear hQ12 hS12 hb12 hN hbw
            generalize hW : World.alloc w12 _ = w13 at hQ13 hS13 hb13
            try rw [hW]
            clear hW
            generalize w12.heap.size = vs at hS13 ⊢
            have p0 : w13.cell? ⟨vp, 0, none⟩ = some (.int .i64 (cands)) := (hS13.2.2.2.2.2.2.2.2.1).cell 0
            have p1 : w13.cell? ⟨vp, 1, none⟩ = some (.int .u8 (kind)) := (hS13.2.2.2.2.2.2.2.2.1).cell 1
            have p2 : w13.cell? ⟨vp, 2, none⟩ = some (.slice Ap np cpp) := (hS13.2.2.2.2.2.2.2.2.1).cell 2
            go_wp2_with fail
            refine (many_any cands kind Ap np cpp L' _ hS13.2.2.2.2.2.2.2.2.2.1).mono ?_
            rintro e w14 ⟨rfl, hbw⟩
            rw [EN.out, EC.out]
            clear p0 p1 p2
            have hQ14 := hQ13.below hbw
            have hS14 := hS13.below hbw
            have hb14 := Below_trans' hb13 hb13.size hbw
            clear hQ13 hS13 hb13 hbw
            go_upto_region 22 with fail
            have p0 : w14.cell? ⟨vp, 0, none⟩ = some (.int .i64 (cands)) := (hS14.2.2.2.2.2.2.2.2.1).cell 0
            have p1 : w14.cell? ⟨vp, 1, none⟩ = some (.int .u8 (kind)) := (hS14.2.2.2.2.2.2.2.2.1).cell 1
            have p2 : w14.cell? ⟨vp, 2, none⟩ = some (.slice Ap np cpp) := (hS14.2.2.2.2.2.2.2.2.1).cell 2
            have q0 : w14.cell? ⟨vq, 0, none⟩ = some (.int .i64 (cands)) := (hS14.2.2.2.2.2.2.1).cell 0
            have q1 : w14.cell? ⟨vq, 1, none⟩ = some (.int .u8 (kind)) := (hS14.2.2.2.2.2.2.1).cell 1
            have q2 : w14.cell? ⟨vq, 2, none⟩ = some (.slice Aq nq cq) := (hS14.2.2.2.2.2.2.1).cell 2
            go_wp2_with fail
            refine (rsame_any cands kind Ap np cpp L' cands kind Aq nq cq L' _ hS14.2.2.2.2.2.2.2.2.2.1 hS14.2.2.2.2.2.2.2.1).mono ?_
            rintro e w15 ⟨rfl, hbw⟩
            rw [sameB_self]
            clear p0 p1 p2 q0 q1 q2
            have hQ15 := hQ14.below hbw
            have hS15 := hS14.below hbw
            have hb15 := Below_trans' hb14 hb14.size hbw
            clear hQ14 hS14 hb14 hbw
            have p0 : w15.cell? ⟨vp, 0, none⟩ = some (.int .i64 (cands)) := (hS15.2.2.2.2.2.2.2.2.1).cell 0
            have p1 : w15.cell? ⟨vp, 1, none⟩ = some (.int .u8 (kind)) := (hS15.2.2.2.2.2.2.2.2.1).cell 1
            have p2 : w15.cell? ⟨vp, 2, none⟩ = some (.slice Ap np cpp) := (hS15.2.2.2.2.2.2.2.2.1).cell 2
            have q0 : w15.cell? ⟨vs, 0, none⟩ = some (.int .i64 (cands)) := (hS15.1).cell 0
            have q1 : w15.cell? ⟨vs, 1, none⟩ = some (.int .u8 (kind)) := (hS15.1).cell 1
            have q2 : w15.cell? ⟨vs, 2, none⟩ = some (.slice As ns cs) := (hS15.1).cell 2
            go_wp2_with fail
            refine (rsame_any cands kind Ap np cpp L' cands kind As ns cs L' _ hS15.2.2.2.2.2.2.2.2.2.1 hS15.2.1).mono ?_
            rintro e w16 ⟨rfl, hbw⟩
            rw [sameB_self]
            clear p0 p1 p2 q0 q1 q2
            have hQ16 := hQ15.below hbw
            have hS16 := hS15.below hbw
            have hb16 := Below_trans' hb15 hb15.size hbw
            clear hQ15 hS15 hb15 hbw
            have p0 : w16.cell? ⟨vp, 0, none⟩ = some (.int .i64 (cands)) := (hS16.2.2.2.2.2.2.2.2.1).cell 0
            have p1 : w16.cell? ⟨vp, 1, none⟩ = some (.int .u8 (kind)) := (hS16.2.2.2.2.2.2.2.2.1).cell 1
            have p2 : w16.cell? ⟨vp, 2, none⟩ = some (.slice Ap np cpp) := (hS16.2.2.2.2.2.2.2.2.1).cell 2
            have x1 : ((n : Int) == (n : Int)) = true := by simp
            go_wp2_with fail
            refine (pcheck_any cands kind Ap np cpp L' _ hS16.2.2.2.2.2.2.2.2.2.1).mono ?_
            rintro e w17 ⟨rfl, hbw⟩
            rw [EC.out]
            clear p0 p1 p2
            have hQ17 := hQ16.below hbw
            have hS17 := hS16.below hbw
            have hb17 := Below_trans' hb16 hb16.size hbw
            clear hQ16 hS16 hb16 hbw
            go_wp2_with fail
            refine (wakes9_any _).mono ?_
            rintro e w9 ⟨rfl, hbw⟩
            go_wp2
            go_ret
            exact ⟨rfl, Below_trans' hb17 hb17.size hbw⟩
end Go.Proofs.Ytleniljhacnikaa

