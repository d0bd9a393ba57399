/-
  The reference of assertions: Of.
-/
import Derived.Test.YtkmcgpaoekphmaaW41t
namespace Go.Proofs.Ytkmcgpaoekphmaa
open Go.RowKit Go.Proofs Go.Shelf
attribute [local go_sem] cell?_more cell?_alloc_some cell?_setCell_far frozen?_alloc_some frozen?_more
set_option maxRecDepth 100000 in
set_option maxHeartbeats 8000000 in
theorem rof41_any (name : ByteArray) (A : Option Addr) (n cp : Nat) (cs : List ByteArray) (seats : Int) (rule : Nat) (Ae : Option Addr) (ne ce : Nat) (el : List Int) (Ar : Option Addr) (nr cr : Nat) (outs : List (List Int)) (vt : Option Addr) (nt ct : Nat) (w : World)
    (h : RStrs w A n cp cs) (hle : StrsLe name cs) (he : RInts w Ae ne ce el) (hro : RAgg ERo 6 w Ar nr cr outs) (hnr : nr ≤ 40) :
    Calls Try.prog 16 #[.agg #[.string name, .slice A n cp, .int .i64 seats, .int .u8 (rule : Int)], .agg #[.slice Ae ne ce, .slice Ar nr cr, .slice vt nt ct]] w (OfPostA w (ofE name cs seats rule el outs) (ofA name cs seats rule el outs)) := by
  have Hl := hide h.len
  have Hel := hide he.len
  have hb0 : Below w.heap.size w (w.alloc (.cells #[.string name, .slice A n cp, .int .i64 seats, .int .u8 (rule : Int)] 34)) := below_allocN
  have hP := Has.new w 34 #[.string name, .slice A n cp, .int .i64 seats, .int .u8 (rule : Int)]
  have hb1 : Below (w.alloc (.cells #[.string name, .slice A n cp, .int .i64 seats, .int .u8 (rule : Int)] 34)).heap.size (w.alloc (.cells #[.string name, .slice A n cp, .int .i64 seats, .int .u8 (rule : Int)] 34)) ((w.alloc (.cells #[.string name, .slice A n cp, .int .i64 seats, .int .u8 (rule : Int)] 34)).alloc (.cells #[.slice Ae ne ce, .slice Ar nr cr, .slice vt nt ct] 41)) := below_allocN
  have hQ := Has.new (w.alloc (.cells #[.string name, .slice A n cp, .int .i64 seats, .int .u8 (rule : Int)] 34)) 41 #[.slice Ae ne ce, .slice Ar nr cr, .slice vt nt ct]
  have hP1 := hP.below hb1 hP.lt
  have hb := Below_trans' hb0 hb0.size hb1
  clear hb0 hb1 hP
  rw [World.size_alloc] at hQ
  go_enter Try.func16, Try.ntmps16
  go_upto_region 1 with fail
  generalize World.alloc (World.alloc w _) _ = W0 at hb hP1 hQ ⊢
  have p0 := hP1.cell 0
  have p1 := hP1.cell 1
  have p2 := hP1.cell 2
  have p3 := hP1.cell 3
  have hC := rcheck07_any name A n cp cs seats rule W0 (h.below hb) hle
  by_cases hc0 : contestE name cs seats rule = 0
  · have Hc := hide hc0
    have hcz := contest_zero hc0
    rw [hc0] at hC
    rw [Hl.out] at hcz
    clear hc0
    go_upto_region 4 with (go_at_call 30; refine hC.mono ?_; rintro e w1 ⟨rfl, hbC⟩)
    have hP2 := hP1.below hbC hP1.lt
    have hQ2 := hQ.below hbC hQ.lt
    have hw1 := Below_trans' hb hb.size hbC
    clear hC p0 p1 p2 p3
    have p1 := hP2.cell 1
    have p2 := hP2.cell 2
    have p3 := hP2.cell 3
    have q0 := hQ2.cell 0
    have q1 := hQ2.cell 1
    have q2 := hQ2.cell 2
    obtain ⟨k, hk⟩ : ∃ k, k = by41 rule := ⟨_, rfl⟩
    have hby := by41_any rule w1
    rw [← hk] at hby
    have Hk := hide hk
    clear hk
    have he1 := he.below hw1
    have hEl := elected41_any Ae ne ce el seats n w1 he1
    by_cases k0 : k = 0
    · have hE : Hid (ofE name cs seats rule el outs = 6) := by unfold Hid ofE; rw [if_neg (by simp [Hc.out]), if_pos (by rw [← Hk.out]; exact k0)]
      have hA := hide (ofA_bad hE.out (by decide))
      have b0 : (k == 0) = true := by simp [k0]
      clear k0
      go_wp2_with (go_at_call 31; with_reducible refine hby.mono ?_; rintro e w' ⟨rfl, rfl⟩)
      refine bodyPost_ret (results_tmp2 rfl _ _ _) rfl ?_
      exact ofPost_bad hE.out hA.out hw1
    · have b0 : (k == 0) = false := by simp [k0]
      have Hk0 : Hid (by41 rule ≠ 0) := by unfold Hid; rw [← Hk.out]; exact k0
      clear k0
      cases hel : (((ne : Int) == seats) && electB el n) with
      | false =>
        have hE : Hid (ofE name cs seats rule el outs = 8) := by
          unfold Hid ofE; rw [if_neg (by simp [Hc.out]), if_neg Hk0.out, Hl.out, Hel.out, if_pos ?_]
          rw [Bool.and_eq_false_iff] at hel
          rcases hel with h1 | h1
          · exact .inl (by simpa using h1)
          · exact .inr h1
        have hA := hide (ofA_bad hE.out (by decide))
        rw [hel] at hEl
        clear hel
        go_wp2_with (first | (go_at_call 31; with_reducible refine hby.mono ?_; rintro e w' ⟨rfl, rfl⟩) | (go_at_call 32; with_reducible refine hEl.mono ?_; rintro e w2 ⟨rfl, hb2⟩))
        refine bodyPost_ret (results_tmp2 rfl _ _ _) rfl ?_
        exact ofPost_bad hE.out hA.out (Below_trans' hw1 hw1.size hb2)
      | true =>
        have hse : (ne : Int) = seats ∧ electB el n = true := by
          rw [Bool.and_eq_true] at hel; exact ⟨by simpa using hel.1, hel.2⟩
        have hEx : Hid (ofE name cs seats rule el outs = if by41 rule = 4 ∧ runoffL el outs n = none then 8 else 0) := by
          unfold Hid ofE; rw [if_neg (by simp [Hc.out]), if_neg Hk0.out, Hl.out, Hel.out, if_neg (by rw [hse.2]; simp [hse.1])]
        rw [hel] at hEl
        have hn1 : 1 ≤ ne := by omega
        have hn10 : ne ≤ 10 := by omega
        clear hel hse
        go_upto_region 10 with (first | (go_at_call 31; with_reducible refine hby.mono ?_; rintro e w' ⟨rfl, rfl⟩) | (go_at_call 32; with_reducible refine hEl.mono ?_; rintro e w2 ⟨rfl, hb2⟩))
        have hw2 := Below_trans' hw1 hw1.size hb2
        have hQ3 := hQ2.below hb2 hQ2.lt
        clear p1 p2 p3 q0 q1 q2 hby hEl
        have q0 := hQ3.cell 0
        have q1 := hQ3.cell 1
        have q2 := hQ3.cell 2
        by_cases h4 : k = 4
        · have b4 : (k == 4) = true := by simp [h4]
          have hk4 : Hid (by41 rule = 4) := by unfold Hid; rw [← Hk.out]; exact h4
          clear h4
          have hru := rrunoff_any Ae ne ce el Ar nr cr outs vt nt ct n (by omega) (by omega) hnr w2 (he.below hw2) (hro.below below_ro hw2)
          unfold RRunPost at hru
          cases hrl : runoffL el outs n with
          | none =>
            have hE : Hid (ofE name cs seats rule el outs = 8) := by unfold Hid; rw [hEx.out, if_pos ⟨hk4.out, hrl⟩]
            have hA := hide (ofA_bad hE.out (by decide))
            rw [hrl] at hru
            clear hrl
            go_wp2_with fail
            refine hru.mono ?_
            rintro e w4 ⟨⟨v, rfl, _⟩, hb4⟩
            go_wp2
            refine bodyPost_ret (results_tmp2 rfl _ _ _) rfl ?_
            exact ofPost_bad hE.out hA.out (Below_trans' hw2 hw2.size hb4)
          | some l =>
            have hE : Hid (ofE name cs seats rule el outs = 0) := by unfold Hid; rw [hEx.out, if_neg (by rw [hrl]; simp)]
            have hA : Hid (ofA name cs seats rule el outs = l) := by unfold Hid ofA; rw [if_neg (by simp [hE.out]), if_pos hk4.out, Hl.out, hrl]; rfl
            rw [hrl] at hru
            clear hrl
            go_wp2_with fail
            refine hru.mono ?_
            rintro e w4 ⟨⟨v, rfl, ho⟩, hb4⟩
            have Ho := hide (ho l rfl)
            clear ho
            go_wp2
            refine bodyPost_ret (results_tmp2 rfl _ _ _) rfl ?_
            obtain ⟨fp, ho⟩ := Ho.out
            exact ⟨⟨v, fp, by rw [hE.out]; rfl, by rw [hA.out]; exact ho.mono hw2.size⟩, Below_trans' hw2 hw2.size hb4⟩
        · have b4 : (k == 4) = false := by simp [h4]
          have hk4 : Hid (by41 rule ≠ 4) := by unfold Hid; rw [← Hk.out]; exact h4
          clear h4
          have hE : Hid (ofE name cs seats rule el outs = 0) := by unfold Hid; rw [hEx.out, if_neg (fun h => hk4.out h.1)]
          have hA : Hid (ofA name cs seats rule el outs = plainL k el n) := by unfold Hid ofA; rw [if_neg (by simp [hE.out]), if_neg hk4.out, Hl.out, Hk.out]
          have hW2 := hide (show w.heap.size ≤ w2.heap.size from hw2.size)
          have hR0 := hide (RunAt.start w w2 w2.heap.size hw2)
          go_wp2
          go_loopw [11, 12] (fun v i wr => ∃ X : Nat, X ≤ ne ∧ i = .int .i64 X ∧ Hid (RunAt w w2.heap.size (plainT k (el.take X) el n) [] v (.slice none 0 0) wr) ∧ Below w2.heap.size w2 wr) (fun _ i _ => ne - (intOf i).toNat)
          case atStart => exact ⟨0, Nat.zero_le _, rfl, hR0, Below.refl _ _⟩
          case round =>
            obtain ⟨X, hX, rfl, hR, hbr⟩ := hrel
            obtain ⟨wo, rfl⟩ : ∃ wo : World, wo = wr := ⟨_, rfl⟩
            have hQo := hQ3.below hbr hQ3.lt
            clear q0 q1 q2
            have q0 := hQo.cell 0
            by_cases hlt : X < ne
            · obtain ⟨bv, ov, v, e1, hcv0, _, hat, _⟩ := he.step (k := X) hlt
              subst e1
              have hsn : Hid (plainT k (el.take (X + 1)) el n = plainT k (el.take X) el n ++ (othersL el n).map fun o => (k, v, o, [])) := by unfold Hid; rw [take_succ_of hat.out, plainT_snoc]
              have hnl := hide (plainT_len k (el.take X) el n)
              have hxl := hide (show (el.take X).length ≤ 10 by rw [List.length_take]; omega)
              generalize plainT k (el.take X) el n = l0 at *
              go_wp2
              go_loopw [11, 13] (fun v' i wr => ∃ Y : Nat, Y ≤ n ∧ i = .int .i64 Y ∧ Hid (RunAt w w2.heap.size (l0 ++ (othersL el Y).map fun o => (k, v, o, [])) [] v' (.slice none 0 0) wr) ∧ Below w2.heap.size w2 wr) (fun _ i _ => n - (intOf i).toNat)
              case atStart => exact ⟨0, Nat.zero_le _, rfl, by unfold Hid; rw [show othersL el 0 = [] from rfl, List.map_nil, List.append_nil]; exact hR.out, hbr⟩
              case round =>
                obtain ⟨Y, hY, rfl, hRi, hbi⟩ := hrel
                obtain ⟨wi, rfl⟩ : ∃ wi : World, wi = wr := ⟨_, rfl⟩
                have hQi := hQ3.below hbi hQ3.lt
                clear q0
                have q0 := hQi.cell 0
                have hwi := Below_trans' hw2 hw2.size hbi
                have hei := he.below hwi
                have hcv := keep_cell hwi hcv0
                by_cases hYn : Y < n
                · cases hin : inL el Y with
                  | true =>
                    have hnx := hide (others_succ_in hin)
                    have Hin := hide hin
                    clear hin
                    go_wp2_with (go_at_call 34; with_reducible refine (in41_val _ _ _ _ _ _ hei Hin.out).mono ?_; rintro e w' ⟨rfl, rfl⟩)
                    go_roundw
                    case rel => exact ⟨Y + 1, by omega, by go_num, by unfold Hid; rw [hnx.out]; exact hRi.out, hbi⟩
                    case measure => simp [intOf] <;> omega
                  | false =>
                    have hnx := hide (others_succ_out hin)
                    have Hin := hide hin
                    clear hin
                    have hol := others_le el Y
                    obtain ⟨v', W', hrun, hR', hF, _⟩ := hRi.out.app (k := k) (x := v) (y := (Y : Int)) (RInts.nil_ wi) (fun b _ hf => fpS_none _ _ hf) (fun b _ hf => fpS_none _ _ hf)
                      (by rw [List.length_append, List.length_map]; have h1 := hnl.out; have h2 : (el.take X).length * n ≤ 10 * 10 := Nat.mul_le_mul hxl.out (by omega); omega)
                      hbi.size hW2.out 35
                    have hb' : Below w2.heap.size w2 W' := Frame'.below hbi hF (fun b hvb => by obtain ⟨⟨fp, ho, _⟩, _⟩ := hRi.out; exact (ho.lt hvb).1) hbi.size
                    have HR' := hide hR'
                    clear hR' hF
                    go_wp2_with (first | (go_at_call 34; with_reducible refine (in41_val _ _ _ _ _ _ hei Hin.out).mono ?_; rintro e w' ⟨rfl, rfl⟩) | (at_builtin; refine list_app rfl rfl rfl rfl hrun ?_))
                    go_roundw
                    case rel => exact ⟨Y + 1, by omega, by go_num, by unfold Hid; rw [hnx.out, List.map_append, ← List.append_assoc]; exact HR'.out, hb'⟩
                    case measure => simp [intOf] <;> omega
                · obtain rfl : n = Y := by omega
                  go_wp2
                  go_roundw
                  case rel => exact ⟨X + 1, by omega, by go_num, by unfold Hid; rw [hsn.out]; exact hRi.out, hbi⟩
                  case measure => simp [intOf] <;> omega
            · obtain rfl : ne = X := by omega
              go_wp2
              refine bodyPost_end (results_tmp2 rfl _ _ _) rfl ?_
              obtain ⟨⟨fp, ho, _⟩, _, _, hbW⟩ := hR.out
              rw [List.take_of_length_le (by rw [Hel.out]; exact Nat.le_refl _)] at ho
              exact ⟨⟨_, fp, by rw [hE.out]; rfl, by rw [hA.out]; exact ho.mono hW2.out⟩, hbW⟩
  · have hE : Hid (ofE name cs seats rule el outs = contestE name cs seats rule) := by unfold Hid ofE; rw [if_pos hc0]
    have hA := hide (ofA_bad hE.out hc0)
    have b1 : (contestE name cs seats rule != 0) = true := by simp [hc0]
    generalize contestE name cs seats rule = E at *
    clear hc0
    go_wp2_with (go_at_call 30; refine hC.mono ?_; rintro e w1 ⟨rfl, hbC⟩)
    refine bodyPost_ret (results_tmp2 rfl _ _ _) rfl ?_
    exact ofPost_bad hE.out hA.out (Below_trans' hb hb.size hbC)
end Go.Proofs.Ytkmcgpaoekphmaa
