/-
  The reference of chapter 20: largest remainders.
-/
import Derived.Test.YtiebfalodelclaaGreatW20r
namespace Go.Proofs.YtiebfalodelclaaGreat
open Go.RowKit Go.Proofs Go.Shelf
attribute [local go_sem] cell?_more cell?_alloc_some cell?_setCell_far frozen?_alloc_some frozen?_more
theorem restT_flat {had : List Int} {n C k : Nat} (h : had.sum ≤ 0) : restT had n C k = restT had n C C := by
  have hz : ∀ x, restS had n x = 0 := fun x => by unfold restS; rw [if_pos h]
  unfold restT
  refine List.map_congr_left fun i _ => ?_
  rw [hz]
  split <;> split <;> rfl
theorem best_restT {had : List Int} {n C : Nat} {E : List Int} (hE : E.Sublist (rangeI C)) : alikeS E (restT had n C C) = bestS (restS had n) E := by
  rw [alike_best (by rw [length_restT]; exact hE)]
  have hr : ∀ x ∈ E, getI (restT had n C C) x = restS had n x := fun x hx => getI_restT (mem_rangeI.1 (hE.subset hx))
  unfold bestS
  refine List.filter_congr fun x hx => ?_
  rw [Bool.eq_iff_iff, List.all_eq_true, List.all_eq_true]
  constructor
  · intro h k hk
    have := h k hk
    rwa [hr k hk, hr x hx] at this
  · intro h k hk
    have := h k hk
    rwa [← hr k hk, ← hr x hx] at this
/-- While the reference gives seats by remainders. -/
def RRem (w : World) (gr C n : Nat) (had : List Int) (s : List Int × List Row) (eg : List Int) (vo vt ve : Value) (wr : World) : Prop :=
  ∃ fp, Own wr w.heap.size vo s.1 ∧ OAgg ETie 66 2 fp wr w.heap.size vt s.2 ∧ Own wr w.heap.size ve eg ∧ (∀ b, fp b → w.heap.size ≤ b) ∧ (∀ b, vo.ownBlock = some b → ¬ fp b ∧ vt.ownBlock ≠ some b ∧ ve.ownBlock ≠ some b ∧ b ≠ gr) ∧
    (∀ b, vt.ownBlock = some b → ve.ownBlock ≠ some b ∧ b ≠ gr) ∧ Own wr w.heap.size (.slice (some ⟨gr, 0, none⟩) C C) (restT had n C C) ∧ Below w.heap.size w wr
set_option maxRecDepth 100000 in
set_option maxHeartbeats 2000000 in
theorem rremainders_any (Al : Option Addr) (nl cl : Nat) (lot : List Int) (A : Option Addr) (C c : Nat) (had : List Int) (n : Nat) (w : World)
    (hL : RInts w Al nl cl lot) (hH : RInts w A C c had) (hC1 : 1 ≤ C) (hC10 : C ≤ 10) (hn : n ≤ 10) (hla : LotAll lot C) (hh : HadOK had C) (hsum : had.sum ≤ 1000000) :
    Calls Tryz.prog 33 #[.slice A C c, .int .i64 n, .slice Al nl cl] w (RSeat w (remS had C lot n)) := by
  have hmk := run_make_row' (P := Tryz.prog) 25 3 (.int .i64 0) 8 Tryz.underlying25 info3 rfl .i64 .i64 C (by omega) (by omega)
  have Hla := hide hla
  have Hh := hide hh
  have hlen := hide hH.len
  clear hla hh
  go_enter Tryz.func33, Tryz.ntmps33
  go_wp2
  go_loop [10, 11] (fun s i => ∃ k : Nat, k ≤ C ∧ i = .int .i64 k ∧ s = .int .i64 ((had.take k).sum)) (fun s i => C - (intOf i).toNat)
  case atStart => exact ⟨0, Nat.zero_le _, rfl, rfl⟩
  case round =>
    obtain ⟨k, hk, rfl, rfl⟩ := hrel
    by_cases hlt : k < C
    · obtain ⟨b, off, v, rfl, hc, _, hat, _⟩ := hH.step hlt
      have hs := hide (sum_step20 hat.out)
      have hb1 := sum_take20 Hh.out.mem k
      have hb2 := sum_take20 Hh.out.mem (k + 1)
      rw [hs.out] at hb2
      clear hat
      go_wp2
      go_round
      case rel => exact ⟨k + 1, by omega, by go_num, by rw [hs.out]⟩
      case measure => simp [intOf] <;> omega
    · obtain rfl : C = k := by omega
      have e : Hid (had.take C = had) := List.take_of_length_le (by rw [hlen.out]; exact Nat.le_refl _)
      rw [e.out]
      have hTS0 : 0 ≤ had.sum := sum_nn20 Hh.out.mem
      have hG1 := Own.made w w.heap.size C (Nat.le_refl _) (by omega)
      have hb1 : Below w.heap.size w (w.alloc (.cells (madeCells #[.int .i64 0] C) 3)) := below_allocN
      go_upto_region 9 with fail
      generalize World.alloc w _ = W1 at hG1 hb1 ⊢
      clear hmk hlt hk e
      generalize hTS : had.sum = TS at hsum hTS0 ⊢
      have HTS := hide hTS
      clear hTS
      go_wp2
      go_loopw [8, 13] (fun v i wr => ∃ j : Nat, j ≤ C ∧ i = .int .i64 j ∧ Own wr w.heap.size v (baseS had n j) ∧ Own wr w.heap.size (.slice (some ⟨w.heap.size, 0, none⟩) C C) (restT had n C j) ∧ (∀ b, v.ownBlock = some b → b ≠ w.heap.size) ∧ Below w.heap.size w wr) (fun v i _ => C - (intOf i).toNat)
      case atStart => exact ⟨0, Nat.zero_le _, rfl, Own.nil_ _ _, by rw [restT_zero]; exact hG1, (fun b h => by cases h), hb1⟩
      case round =>
        clear hG1 hb1
        obtain ⟨j, hj, rfl, hO, hW, hap, hb⟩ := hrel
        obtain ⟨wo, rfl⟩ : ∃ wo : World, wo = wr := ⟨_, rfl⟩
        by_cases hlt : j < C
        · by_cases hpos : 0 < TS
          · have hHo := hH.below hb
            obtain ⟨bh, oh, v, rfl, hc, _, hat, _⟩ := hHo.step hlt
            have hv := Hh.out.le_sum hat.out
            have hgv := getI_of hat.out
            have hbl := base_len hC1 Hla.out Hh.out n (k := j) (by omega)
            have hbs := hide (base_succ had n j)
            rw [HTS.out] at hv
            have hf := flr_ok Hh.out (by rw [HTS.out]; exact hpos) n (j : Int)
            have hfl := flr_le hC1 Hla.out Hh.out n j hlt
            have hrs := hide (restT_succ had n (C := C) (k := j))
            have e1 := hf.is
            have e2 := hf.r0
            have e3 := hf.r1
            have e4 : restS had n (j : Int) = getI had (j : Int) * n % had.sum := by unfold restS; rw [if_neg (by rw [HTS.out]; omega)]
            rw [HTS.out] at e1 e3 e4
            rw [hgv] at e1 e4
            have m1 : 0 ≤ v * (n : Int) ∧ v * (n : Int) ≤ 1000000000 := ⟨Int.mul_nonneg hv.1 (by omega), Int.le_trans (Int.mul_le_mul (show v ≤ 1000000 by omega) (show (n : Int) ≤ 10 by omega) (by omega) (by omega)) (by omega)⟩
            have g1 : (v * (n : Int)).tdiv TS = ((flrS had n (j : Int) : Nat) : Int) := by rw [Int.tdiv_eq_ediv_of_nonneg m1.1]; exact e1.symm
            have g2 : (v * (n : Int)).tmod TS = restS had n (j : Int) := by rw [Int.tmod_eq_emod_of_nonneg m1.1]; exact e4.symm
            have f1 : (TS != 0) = true := by simp; omega
            have Hat := hide hat.out
            clear hf e1 e4 hgv hat
            generalize flrS had n (j : Int) = F at hfl g1 hbs
            generalize restS had n (j : Int) = R at e2 e3 g2 hrs
            generalize baseS had n j = bs at hO hbl hbs
            go_wp2
            go_loopw [8, 14] (fun v i wz => ∃ m : Nat, m ≤ F ∧ i = .int .i64 m ∧ Own wz w.heap.size v (bs ++ List.replicate m (j : Int)) ∧ Own wz w.heap.size (.slice (some ⟨w.heap.size, 0, none⟩) C C) (restT had n C j) ∧ (∀ b, v.ownBlock = some b → b ≠ w.heap.size) ∧ Below w.heap.size w wz) (fun v i _ => F - (intOf i).toNat)
            case atStart => exact ⟨0, Nat.zero_le _, rfl, by rw [List.replicate_zero, List.append_nil]; exact hO, hW, hap, hb⟩
            case round =>
              clear hO hW hap hb hc hHo
              obtain ⟨m, hm, rfl, hO, hW, hap, hb⟩ := hrel
              obtain ⟨wz, rfl⟩ : ∃ wz : World, wz = wr := ⟨_, rfl⟩
              obtain ⟨bh', oh', v', eA, hc, _, hat, _⟩ := (hH.below hb).step hlt
              cases eA
              obtain rfl : v = v' := Option.some.inj (Hat.out.symm.trans hat.out)
              clear hat
              by_cases hmF : m < F
              · have hl1 : (bs ++ List.replicate m (j : Int)).length ≤ 100 := by rw [List.length_append, List.length_replicate]; omega
                obtain ⟨u', w4, k1, k2, k3, k4⟩ := hO.app20 (j : Int) (by unfold I64; omega) (by omega) hb.size 25
                have hW4 := hW.frame k4 (fun b hb h => by
                  obtain rfl : w.heap.size = b := Option.some.inj hb
                  exact hap _ h rfl)
                have hb4 : Below w.heap.size w w4 := Frame'.below hb k4 (fun b e => (hO.own_lt e).1) hb.size
                have hap4 : ∀ b, u'.ownBlock = some b → b ≠ w.heap.size := fun b hb' => by
                  rcases k3 with e | ⟨b', e, h2⟩
                  · rw [e] at hb'; exact hap b hb'
                  · rw [e] at hb'; have h3 : w.heap.size < wz.heap.size := (hW.own_lt rfl).2; have := Option.some.inj hb'; omega
                rw [List.append_assoc, ← List.replicate_succ'] at k2
                obtain ⟨Ao, co, rfl⟩ := hO.slice
                clear hap hl1
                go_wp2_with (at_builtin; refine list_app rfl rfl rfl rfl k1 ?_)
                clear k1
                go_wp2
                go_roundw
                case rel => exact ⟨m + 1, by omega, by go_num, k2, hW4, hap4, hb4⟩
                case measure => simp [intOf] <;> omega
              · obtain rfl : F = m := by omega
                rw [← hbs.out] at hO
                obtain ⟨u2, hu2, hcu2, hfu2⟩ := hW.at (length_restT _ _ _ _) hlt
                have hW3 := hW.set (length_restT _ _ _ _) j R
                rw [← hrs.out] at hW3
                have hO3 := hO.frame ((Frame'.refl (fun b => b = w.heap.size) wz).setCell (p := ⟨w.heap.size, j, none⟩) (.inl rfl) (.int .i64 R)) (fun b hb h => hap b hb h)
                have hb3 := hb.setCell (p := ⟨w.heap.size, j, none⟩) (Nat.le_refl _) (.int .i64 R)
                clear hu2
                go_wp2
                go_roundw
                case rel => exact ⟨j + 1, by omega, by go_num, hO3, hW3, hap, hb3⟩
                case measure => simp [intOf] <;> omega
          · have hz : had.sum ≤ 0 := by rw [HTS.out]; omega
            rw [base_zero hz, ← base_zero (n := n) (C := C) hz] at hO
            rw [restT_flat hz] at hW
            clear hz
            -- the last loop: at the world wo, with hO, hW, hap, hb
            have hbl := base_len hC1 Hla.out Hh.out n (Nat.le_refl C)
            go_wp2
            go_loopw [8, 9, 15] (fun u v ve wr => ∃ (d : Nat) (eg : List Int) (s : List Int × List Row), s.1.length + d = n ∧ s.2.length + d ≤ n ∧ moreS (restS had n) C lot d eg s = remS had C lot n ∧ eg.Sublist (rangeI C) ∧ RRem w w.heap.size C n had s eg u v ve wr) (fun u v ve _ => n - lenV u)
            case atStart => exact ⟨n - (baseS had n C).length, [], (baseS had n C, []), by dsimp only; omega, by simp, rfl, List.nil_sublist _, fun _ => False, hO, OAgg.nil_ _ _ _ _ _, Own.nil_ _ _, fun _ h => h.elim, (fun b hb' => ⟨(fun h => h), (fun h => by cases h), (fun h => by cases h), hap b hb'⟩), (fun b h => by cases h), hW, hb⟩
            case round =>
              clear hO hW hap hb
              obtain ⟨d, eg, ⟨el, ts⟩, hd, hts, hmo, hsub, fp, hO, hT, hE, hfp, hapo, hapt, hW, hb1w⟩ := hrel
              obtain ⟨wz, rfl⟩ : ∃ wz : World, wz = wr := ⟨_, rfl⟩
              dsimp only at *
              obtain ⟨Ao, co, rfl⟩ := hO.slice
              obtain ⟨Av, cv, rfl⟩ := hT.slice
              obtain ⟨Ae, ce, rfl⟩ := hE.slice
              have hz := hb1w.size
              have Hfp := hide hfp
              clear hfp
              rcases d with _ | d
              · have hm' : (el, ts) = remS had C lot n := hmo
                obtain ⟨nn, hnn⟩ : ∃ nn, nn = el.length := ⟨_, rfl⟩
                rw [← hnn] at hO ⊢
                obtain ⟨nt, hnt⟩ : ∃ nt, nt = ts.length := ⟨_, rfl⟩
                rw [← hnt] at hT ⊢
                have Hm := hide hm'
                clear hapo hapt hmo hm' hnt
                go_wp2
                go_ret2
                refine ⟨_, _, fp, rfl, ?_, ?_, Hfp.out, hb1w⟩
                · rw [← Hm.out]; exact hO
                · rw [← Hm.out]; exact hT
              · have hlt : (el.length : Int) < (n : Int) := by omega
                simp only [moreS] at hmo
                by_cases he : eg.length = 0
                · have f1 : ((eg.length : Int) == 0) = true := by simp [he]
                  rw [if_pos he] at hmo
                  have Hapo0 := hide hapo
                  have Hapt0 := hide hapt
                  have hE0 := hE
                  clear hapo hapt
                  go_wp2_with fail
                  refine (rall_any C wz (by omega)).mono ?_
                  rintro e w1 ⟨va, rfl, hA1, hb1⟩
                  clear hE hE0 hsub he f1
                  obtain ⟨Ae, ce, rfl⟩ := hA1.slice
                  obtain ⟨E, hEd⟩ : ∃ E, E = rangeI C := ⟨_, rfl⟩
                  rw [← hEd] at hA1 hmo ⊢
                  have hE1 := hA1.mono hz
                  have hO1 := hO.below hb1
                  have hT1 := hT.below hb1
                  have hW1 := hW.below hb1
                  have hEs : E.Sublist (rangeI C) := by rw [hEd]; exact List.Sublist.refl _
                  have hEne : E ≠ [] := by rw [hEd]; intro e; have := congrArg List.length e; rw [length_rangeI] at this; simp at this; omega
                  have Hapo : Hid (∀ b, (Value.slice Ao el.length co).ownBlock = some b → ¬ fp b ∧ (Value.slice Av ts.length cv).ownBlock ≠ some b ∧ (Value.slice Ae E.length ce).ownBlock ≠ some b ∧ b ≠ w.heap.size) := fun b hb => ⟨(Hapo0.out b hb).1, (Hapo0.out b hb).2.1, fun h => by have := (hA1.own_lt h).1; have := (hO.own_lt hb).2; omega, (Hapo0.out b hb).2.2.2⟩
                  have Hapt : Hid (∀ b, (Value.slice Av ts.length cv).ownBlock = some b → (Value.slice Ae E.length ce).ownBlock ≠ some b ∧ b ≠ w.heap.size) := fun b hb => ⟨fun h => by have := (hA1.own_lt h).1; have := (hT.lt hb).2; omega, (Hapt0.out b hb).2⟩
                  replace hb1w := Below_trans' hb1w hz hb1
                  clear hO hT hW hA1 hEd Hapo0 Hapt0 hz
                  have hEr : ∀ x ∈ E, 0 ≤ x ∧ x < (C : Int) := fun x hx => mem_rangeI.1 (hEs.subset hx)
                  have hEl : E.length ≤ C := by have := hEs.length_le; rwa [length_rangeI] at this
                  have hER := hE1.ints (fun y hy => by have := hEr y hy; omega)
                  have hRr := hW1.ints (fun y hy => by
                    obtain ⟨i, _, rfl⟩ := List.mem_map.1 hy
                    have := restS_bd Hh.out (by rw [HTS.out]; exact hsum) n (i : Int)
                    split <;> omega)
                  have hal := alike_any Ae E.length ce E (some ⟨w.heap.size, 0, none⟩) C C (restT had n C C) w1 hER hRr (by omega) hEr
                  rw [best_restT hEs] at hal
                  go_wp2_with fail
                  refine hal.mono ?_
                  rintro e w2 ⟨vb, rfl, hT2, hb2⟩
                  clear hal
                  obtain ⟨Ab, cb, rfl⟩ := hT2.slice
                  have hbsub : (bestS (restS had n) E).Sublist (rangeI C) := (bestS_sub _ _).trans hEs
                  have hbr : ∀ x ∈ bestS (restS had n) E, 0 ≤ x ∧ x < (C : Int) := fun x hx => mem_rangeI.1 (hbsub.subset hx)
                  have hRb := hT2.ints (fun y hy => by have := hbr y hy; omega)
                  have hbl1 : (bestS (restS had n) E).length ≤ C := by have := hbsub.length_le; rwa [length_rangeI] at this
                  have hxr := hbr _ (frst_mem (lot := lot) (bestS_ne (f := restS had n) hEne) fun x hx => Hla.out x (hbr x hx).1 (hbr x hx).2)
                  have hz1 := hb1w.size
                  have hz2 := hb2.size
                  have hvtlt : ∀ b, (Value.slice Av ts.length cv).ownBlock = some b → w.heap.size ≤ b ∧ b < w1.heap.size := fun b hb => hT1.lt hb
                  have hvolt : ∀ b, (Value.slice Ao el.length co).ownBlock = some b → w.heap.size ≤ b ∧ b < w1.heap.size := fun b hb => hO1.own_lt hb
                  have hvelt : ∀ b, (Value.slice Ae E.length ce).ownBlock = some b → w.heap.size ≤ b ∧ b < w1.heap.size := fun b hb => hE1.own_lt hb
                  have hgrlt : w.heap.size < w1.heap.size := (hW1.own_lt rfl).2
                  have hAb : ∀ b, fpS Ab (bestS (restS had n) E).length b → w1.heap.size ≤ b := fun b hb => (hT2.own_lt (hT2.fps hb)).1
                  have hbw2 := Below_trans' hb1w hz1 hb2
                  obtain ⟨xx, hxx⟩ : ∃ xx, xx = frstS lot (bestS (restS had n) E) := ⟨_, rfl⟩
                  have Hmo := hide hmo
                  clear hmo
                  rw [← hxx] at hxr Hmo
                  obtain ⟨x, rfl⟩ : ∃ x : Nat, xx = x := ⟨xx.toNat, by omega⟩
                  have hfi := rfirst_any Al nl cl lot Ab _ cb (bestS (restS had n) E) w2 (hL.below hbw2) hRb
                  rw [← hxx] at hfi
                  have hti := tied_any w.heap.size (.slice Av ts.length cv) fp ts Ab _ cb (bestS (restS had n) E) (x : Int) w2 hbw2.size (hT1.below hb2) hRb (fun b hv hx => by have := hAb b hx; have := (hvtlt b hv).2; omega) (by unfold I64; omega) (by omega)
                  have htl := tied_len ts (bestS (restS had n) E) (x : Int)
                  obtain ⟨tsn, htsn⟩ : ∃ tsn, tsn = tiedS ts (bestS (restS had n) E) (x : Int) := ⟨_, rfl⟩
                  unfold TPost at hti
                  rw [← htsn] at hti Hmo htl
                  obtain ⟨m, hm⟩ : ∃ m, m = (bestS (restS had n) E).length := ⟨_, rfl⟩
                  rw [← hm] at hfi hti hAb ⊢
                  clear hxx hm hRb hbsub hbl1 hbr htsn hT2
                  go_wp2_with fail
                  refine hfi.mono ?_
                  rintro e w' ⟨rfl, rfl⟩
                  go_wp2_with fail
                  refine hti.mono ?_
                  rintro e w3 ⟨vt', fp', rfl, hT3, hfp3, hvt3, hF3⟩
                  clear hfi hti
                  have hO3 := (hO1.below hb2).frame hF3 (fun b hb h => (Hapo.out b hb).2.1 h)
                  have hE3 := (hE1.below hb2).frame hF3 (fun b hb h => (Hapt.out b h).1 hb)
                  have hW3 := (hW1.below hb2).frame hF3 (fun b hb h => by
                    obtain rfl : w.heap.size = b := Option.some.inj hb
                    exact (Hapt.out _ h).2 rfl)
                  have hz3 := hF3.size
                  have hb3 : Below w.heap.size w w3 := Frame'.below hbw2 hF3 (fun b e => (hvtlt b e).1) hbw2.size
                  obtain ⟨u', w4, k1, k2, k3, k4⟩ := hO3.app20 (x : Int) (by unfold I64; omega) (by omega) hb3.size 25
                  have hold : ∀ b, b < w1.heap.size → ¬ fp b → (Value.slice Av ts.length cv).ownBlock ≠ some b → ¬ fp' b ∧ vt'.ownBlock ≠ some b := fun b h1 h2 h3 => by
                    refine ⟨fun h => ?_, fun h => ?_⟩
                    · rcases hfp3 b h with h | h
                      · exact h2 h
                      · have := hAb b h; omega
                    · rcases hvt3 with e | ⟨b', e, hb'⟩
                      · rw [e] at h; exact h3 h
                      · rw [e] at h; have := Option.some.inj h; omega
                  have hT4 := hT3.frame k4 (fun b hb h => (hold b (hvolt b h).2 (Hapo.out b h).1 (Hapo.out b h).2.1).1 hb) (fun b hb h => (hold b (hvolt b h).2 (Hapo.out b h).1 (Hapo.out b h).2.1).2 hb)
                  have hE4 := hE3.frame k4 (fun b hb h => (Hapo.out b h).2.2.1 hb)
                  have hW4 := hW3.frame k4 (fun b hb h => by
                    obtain rfl : w.heap.size = b := Option.some.inj hb
                    exact (Hapo.out _ h).2.2.2 rfl)
                  have hb4 : Below w.heap.size w w4 := Frame'.below hb3 k4 (fun b e => (hvolt b e).1) hb3.size
                  have hz4 := k4.size
                  have hap4 : ∀ b, u'.ownBlock = some b → (¬ fp' b ∧ vt'.ownBlock ≠ some b ∧ b ≠ w.heap.size) ∧ b < w4.heap.size := fun b hb => by
                    refine ⟨?_, (k2.own_lt hb).2⟩
                    rcases k3 with e | ⟨b', e, hb'⟩
                    · rw [e] at hb
                      have h1 := Hapo.out b hb
                      exact ⟨(hold b (hvolt b hb).2 h1.1 h1.2.1).1, (hold b (hvolt b hb).2 h1.1 h1.2.1).2, h1.2.2.2⟩
                    · rw [e] at hb
                      obtain rfl : b' = b := Option.some.inj hb
                      exact ⟨fun h => by have := hT3.fp_lt h; omega, fun h => by have := (hT3.lt h).2; omega, by omega⟩
                  have hfp4 : ∀ b, fp' b → w.heap.size ≤ b := fun b hb => (hfp3 b hb).elim (Hfp.out b) (fun h => by have := hAb b h; omega)
                  have hvt4 : ∀ b, vt'.ownBlock = some b → b ≠ w.heap.size ∧ b < w4.heap.size := fun b hb => by
                    refine ⟨?_, (hT4.lt hb).2⟩
                    rcases hvt3 with e | ⟨b', e, hb'⟩
                    · rw [e] at hb; exact (Hapt.out b hb).2
                    · rw [e] at hb; have := Option.some.inj hb; omega
                  obtain ⟨Av', nv', cv', rfl⟩ : ∃ Av' nv' cv', vt' = .slice Av' nv' cv' := let ⟨A, c, e⟩ := hT3.slice; ⟨A, _, c, e⟩
                  obtain ⟨Au, cu, hu'⟩ := k2.slice
                  rw [List.length_append, List.length_singleton] at hu'
                  subst hu'
                  have hER4 := hE4.ints (fun y hy => by have := mem_rangeI.1 (hEs.subset hy); omega)
                  go_wp2_with (at_builtin; refine list_app rfl rfl rfl rfl k1 ?_)
                  clear k1
                  go_wp2_with fail
                  refine (without_any Ae E.length ce E (x : Int) w4 hER4 (by omega)).mono ?_
                  rintro e w5 ⟨v5, rfl, hE5, hb5⟩
                  obtain ⟨A5, n5, c5, rfl⟩ : ∃ A5 n5 c5, v5 = .slice A5 n5 c5 := let ⟨A, c, e⟩ := hE5.slice; ⟨A, _, c, e⟩
                  have hE5lt : ∀ b, (Value.slice A5 n5 c5).ownBlock = some b → w4.heap.size ≤ b := fun b hb => (hE5.own_lt hb).1
                  go_wp2
                  go_roundw
                  case rel =>
                    refine ⟨d, outS E (x : Int), (el ++ [(x : Int)], tsn), ?_, ?_, Hmo.out, (outS_sub _ _).trans hEs, fp', k2.below hb5, hT4.below hb5, hE5.mono hb4.size, hfp4, fun b hb => ⟨(hap4 b hb).1.1, (hap4 b hb).1.2.1, fun h => by have := hE5lt b h; have := (hap4 b hb).2; omega, (hap4 b hb).1.2.2⟩, fun b hb => ⟨fun h => by have := hE5lt b h; have := (hvt4 b hb).2; omega, (hvt4 b hb).1⟩, hW4.below hb5, Below_trans' hb4 hb4.size hb5⟩
                    · dsimp only; rw [List.length_append, List.length_singleton]; omega
                    · dsimp only; omega
                  case measure => simp [lenV] <;> omega
                · have f1 : ((eg.length : Int) == 0) = false := by simp only [beq_eq_false_iff_ne, ne_eq]; omega
                  rw [if_neg he] at hmo
                  obtain ⟨w1, rfl⟩ : ∃ w1 : World, w1 = wz := ⟨_, rfl⟩
                  obtain ⟨E, rfl⟩ : ∃ E, E = eg := ⟨_, rfl⟩
                  have hE1 := hE
                  have hO1 := hO
                  have hT1 := hT
                  have hW1 := hW
                  have hEs := hsub
                  have hEne : E ≠ [] := fun e => he (by rw [e]; rfl)
                  have Hapo := hide hapo
                  have Hapt := hide hapt
                  clear hO hT hW hE hsub hapo hapt he hz
                  have hEr : ∀ x ∈ E, 0 ≤ x ∧ x < (C : Int) := fun x hx => mem_rangeI.1 (hEs.subset hx)
                  have hEl : E.length ≤ C := by have := hEs.length_le; rwa [length_rangeI] at this
                  have hER := hE1.ints (fun y hy => by have := hEr y hy; omega)
                  have hRr := hW1.ints (fun y hy => by
                    obtain ⟨i, _, rfl⟩ := List.mem_map.1 hy
                    have := restS_bd Hh.out (by rw [HTS.out]; exact hsum) n (i : Int)
                    split <;> omega)
                  have hal := alike_any Ae E.length ce E (some ⟨w.heap.size, 0, none⟩) C C (restT had n C C) w1 hER hRr (by omega) hEr
                  rw [best_restT hEs] at hal
                  go_wp2_with fail
                  refine hal.mono ?_
                  rintro e w2 ⟨vb, rfl, hT2, hb2⟩
                  clear hal
                  obtain ⟨Ab, cb, rfl⟩ := hT2.slice
                  have hbsub : (bestS (restS had n) E).Sublist (rangeI C) := (bestS_sub _ _).trans hEs
                  have hbr : ∀ x ∈ bestS (restS had n) E, 0 ≤ x ∧ x < (C : Int) := fun x hx => mem_rangeI.1 (hbsub.subset hx)
                  have hRb := hT2.ints (fun y hy => by have := hbr y hy; omega)
                  have hbl1 : (bestS (restS had n) E).length ≤ C := by have := hbsub.length_le; rwa [length_rangeI] at this
                  have hxr := hbr _ (frst_mem (lot := lot) (bestS_ne (f := restS had n) hEne) fun x hx => Hla.out x (hbr x hx).1 (hbr x hx).2)
                  have hz1 := hb1w.size
                  have hz2 := hb2.size
                  have hvtlt : ∀ b, (Value.slice Av ts.length cv).ownBlock = some b → w.heap.size ≤ b ∧ b < w1.heap.size := fun b hb => hT1.lt hb
                  have hvolt : ∀ b, (Value.slice Ao el.length co).ownBlock = some b → w.heap.size ≤ b ∧ b < w1.heap.size := fun b hb => hO1.own_lt hb
                  have hvelt : ∀ b, (Value.slice Ae E.length ce).ownBlock = some b → w.heap.size ≤ b ∧ b < w1.heap.size := fun b hb => hE1.own_lt hb
                  have hgrlt : w.heap.size < w1.heap.size := (hW1.own_lt rfl).2
                  have hAb : ∀ b, fpS Ab (bestS (restS had n) E).length b → w1.heap.size ≤ b := fun b hb => (hT2.own_lt (hT2.fps hb)).1
                  have hbw2 := Below_trans' hb1w hz1 hb2
                  obtain ⟨xx, hxx⟩ : ∃ xx, xx = frstS lot (bestS (restS had n) E) := ⟨_, rfl⟩
                  have Hmo := hide hmo
                  clear hmo
                  rw [← hxx] at hxr Hmo
                  obtain ⟨x, rfl⟩ : ∃ x : Nat, xx = x := ⟨xx.toNat, by omega⟩
                  have hfi := rfirst_any Al nl cl lot Ab _ cb (bestS (restS had n) E) w2 (hL.below hbw2) hRb
                  rw [← hxx] at hfi
                  have hti := tied_any w.heap.size (.slice Av ts.length cv) fp ts Ab _ cb (bestS (restS had n) E) (x : Int) w2 hbw2.size (hT1.below hb2) hRb (fun b hv hx => by have := hAb b hx; have := (hvtlt b hv).2; omega) (by unfold I64; omega) (by omega)
                  have htl := tied_len ts (bestS (restS had n) E) (x : Int)
                  obtain ⟨tsn, htsn⟩ : ∃ tsn, tsn = tiedS ts (bestS (restS had n) E) (x : Int) := ⟨_, rfl⟩
                  unfold TPost at hti
                  rw [← htsn] at hti Hmo htl
                  obtain ⟨m, hm⟩ : ∃ m, m = (bestS (restS had n) E).length := ⟨_, rfl⟩
                  rw [← hm] at hfi hti hAb ⊢
                  clear hxx hm hRb hbsub hbl1 hbr htsn hT2
                  go_wp2_with fail
                  refine hfi.mono ?_
                  rintro e w' ⟨rfl, rfl⟩
                  go_wp2_with fail
                  refine hti.mono ?_
                  rintro e w3 ⟨vt', fp', rfl, hT3, hfp3, hvt3, hF3⟩
                  clear hfi hti
                  have hO3 := (hO1.below hb2).frame hF3 (fun b hb h => (Hapo.out b hb).2.1 h)
                  have hE3 := (hE1.below hb2).frame hF3 (fun b hb h => (Hapt.out b h).1 hb)
                  have hW3 := (hW1.below hb2).frame hF3 (fun b hb h => by
                    obtain rfl : w.heap.size = b := Option.some.inj hb
                    exact (Hapt.out _ h).2 rfl)
                  have hz3 := hF3.size
                  have hb3 : Below w.heap.size w w3 := Frame'.below hbw2 hF3 (fun b e => (hvtlt b e).1) hbw2.size
                  obtain ⟨u', w4, k1, k2, k3, k4⟩ := hO3.app20 (x : Int) (by unfold I64; omega) (by omega) hb3.size 25
                  have hold : ∀ b, b < w1.heap.size → ¬ fp b → (Value.slice Av ts.length cv).ownBlock ≠ some b → ¬ fp' b ∧ vt'.ownBlock ≠ some b := fun b h1 h2 h3 => by
                    refine ⟨fun h => ?_, fun h => ?_⟩
                    · rcases hfp3 b h with h | h
                      · exact h2 h
                      · have := hAb b h; omega
                    · rcases hvt3 with e | ⟨b', e, hb'⟩
                      · rw [e] at h; exact h3 h
                      · rw [e] at h; have := Option.some.inj h; omega
                  have hT4 := hT3.frame k4 (fun b hb h => (hold b (hvolt b h).2 (Hapo.out b h).1 (Hapo.out b h).2.1).1 hb) (fun b hb h => (hold b (hvolt b h).2 (Hapo.out b h).1 (Hapo.out b h).2.1).2 hb)
                  have hE4 := hE3.frame k4 (fun b hb h => (Hapo.out b h).2.2.1 hb)
                  have hW4 := hW3.frame k4 (fun b hb h => by
                    obtain rfl : w.heap.size = b := Option.some.inj hb
                    exact (Hapo.out _ h).2.2.2 rfl)
                  have hb4 : Below w.heap.size w w4 := Frame'.below hb3 k4 (fun b e => (hvolt b e).1) hb3.size
                  have hz4 := k4.size
                  have hap4 : ∀ b, u'.ownBlock = some b → (¬ fp' b ∧ vt'.ownBlock ≠ some b ∧ b ≠ w.heap.size) ∧ b < w4.heap.size := fun b hb => by
                    refine ⟨?_, (k2.own_lt hb).2⟩
                    rcases k3 with e | ⟨b', e, hb'⟩
                    · rw [e] at hb
                      have h1 := Hapo.out b hb
                      exact ⟨(hold b (hvolt b hb).2 h1.1 h1.2.1).1, (hold b (hvolt b hb).2 h1.1 h1.2.1).2, h1.2.2.2⟩
                    · rw [e] at hb
                      obtain rfl : b' = b := Option.some.inj hb
                      exact ⟨fun h => by have := hT3.fp_lt h; omega, fun h => by have := (hT3.lt h).2; omega, by omega⟩
                  have hfp4 : ∀ b, fp' b → w.heap.size ≤ b := fun b hb => (hfp3 b hb).elim (Hfp.out b) (fun h => by have := hAb b h; omega)
                  have hvt4 : ∀ b, vt'.ownBlock = some b → b ≠ w.heap.size ∧ b < w4.heap.size := fun b hb => by
                    refine ⟨?_, (hT4.lt hb).2⟩
                    rcases hvt3 with e | ⟨b', e, hb'⟩
                    · rw [e] at hb; exact (Hapt.out b hb).2
                    · rw [e] at hb; have := Option.some.inj hb; omega
                  obtain ⟨Av', nv', cv', rfl⟩ : ∃ Av' nv' cv', vt' = .slice Av' nv' cv' := let ⟨A, c, e⟩ := hT3.slice; ⟨A, _, c, e⟩
                  obtain ⟨Au, cu, hu'⟩ := k2.slice
                  rw [List.length_append, List.length_singleton] at hu'
                  subst hu'
                  have hER4 := hE4.ints (fun y hy => by have := mem_rangeI.1 (hEs.subset hy); omega)
                  go_wp2_with (at_builtin; refine list_app rfl rfl rfl rfl k1 ?_)
                  clear k1
                  go_wp2_with fail
                  refine (without_any Ae E.length ce E (x : Int) w4 hER4 (by omega)).mono ?_
                  rintro e w5 ⟨v5, rfl, hE5, hb5⟩
                  obtain ⟨A5, n5, c5, rfl⟩ : ∃ A5 n5 c5, v5 = .slice A5 n5 c5 := let ⟨A, c, e⟩ := hE5.slice; ⟨A, _, c, e⟩
                  have hE5lt : ∀ b, (Value.slice A5 n5 c5).ownBlock = some b → w4.heap.size ≤ b := fun b hb => (hE5.own_lt hb).1
                  go_wp2
                  go_roundw
                  case rel =>
                    refine ⟨d, outS E (x : Int), (el ++ [(x : Int)], tsn), ?_, ?_, Hmo.out, (outS_sub _ _).trans hEs, fp', k2.below hb5, hT4.below hb5, hE5.mono hb4.size, hfp4, fun b hb => ⟨(hap4 b hb).1.1, (hap4 b hb).1.2.1, fun h => by have := hE5lt b h; have := (hap4 b hb).2; omega, (hap4 b hb).1.2.2⟩, fun b hb => ⟨fun h => by have := hE5lt b h; have := (hvt4 b hb).2; omega, (hvt4 b hb).1⟩, hW4.below hb5, Below_trans' hb4 hb4.size hb5⟩
                    · dsimp only; rw [List.length_append, List.length_singleton]; omega
                    · dsimp only; omega
                  case measure => simp [lenV] <;> omega
        · obtain rfl : C = j := by omega
          -- the last loop: at the world wo, with hO, hW, hap, hb
          have hbl := base_len hC1 Hla.out Hh.out n (Nat.le_refl C)
          go_wp2
          go_loopw [8, 9, 15] (fun u v ve wr => ∃ (d : Nat) (eg : List Int) (s : List Int × List Row), s.1.length + d = n ∧ s.2.length + d ≤ n ∧ moreS (restS had n) C lot d eg s = remS had C lot n ∧ eg.Sublist (rangeI C) ∧ RRem w w.heap.size C n had s eg u v ve wr) (fun u v ve _ => n - lenV u)
          case atStart => exact ⟨n - (baseS had n C).length, [], (baseS had n C, []), by dsimp only; omega, by simp, rfl, List.nil_sublist _, fun _ => False, hO, OAgg.nil_ _ _ _ _ _, Own.nil_ _ _, fun _ h => h.elim, (fun b hb' => ⟨(fun h => h), (fun h => by cases h), (fun h => by cases h), hap b hb'⟩), (fun b h => by cases h), hW, hb⟩
          case round =>
            clear hO hW hap hb
            obtain ⟨d, eg, ⟨el, ts⟩, hd, hts, hmo, hsub, fp, hO, hT, hE, hfp, hapo, hapt, hW, hb1w⟩ := hrel
            obtain ⟨wz, rfl⟩ : ∃ wz : World, wz = wr := ⟨_, rfl⟩
            dsimp only at *
            obtain ⟨Ao, co, rfl⟩ := hO.slice
            obtain ⟨Av, cv, rfl⟩ := hT.slice
            obtain ⟨Ae, ce, rfl⟩ := hE.slice
            have hz := hb1w.size
            have Hfp := hide hfp
            clear hfp
            rcases d with _ | d
            · have hm' : (el, ts) = remS had C lot n := hmo
              obtain ⟨nn, hnn⟩ : ∃ nn, nn = el.length := ⟨_, rfl⟩
              rw [← hnn] at hO ⊢
              obtain ⟨nt, hnt⟩ : ∃ nt, nt = ts.length := ⟨_, rfl⟩
              rw [← hnt] at hT ⊢
              have Hm := hide hm'
              clear hapo hapt hmo hm' hnt
              go_wp2
              go_ret2
              refine ⟨_, _, fp, rfl, ?_, ?_, Hfp.out, hb1w⟩
              · rw [← Hm.out]; exact hO
              · rw [← Hm.out]; exact hT
            · have hlt : (el.length : Int) < (n : Int) := by omega
              simp only [moreS] at hmo
              by_cases he : eg.length = 0
              · have f1 : ((eg.length : Int) == 0) = true := by simp [he]
                rw [if_pos he] at hmo
                have Hapo0 := hide hapo
                have Hapt0 := hide hapt
                have hE0 := hE
                clear hapo hapt
                go_wp2_with fail
                refine (rall_any C wz (by omega)).mono ?_
                rintro e w1 ⟨va, rfl, hA1, hb1⟩
                clear hE hE0 hsub he f1
                obtain ⟨Ae, ce, rfl⟩ := hA1.slice
                obtain ⟨E, hEd⟩ : ∃ E, E = rangeI C := ⟨_, rfl⟩
                rw [← hEd] at hA1 hmo ⊢
                have hE1 := hA1.mono hz
                have hO1 := hO.below hb1
                have hT1 := hT.below hb1
                have hW1 := hW.below hb1
                have hEs : E.Sublist (rangeI C) := by rw [hEd]; exact List.Sublist.refl _
                have hEne : E ≠ [] := by rw [hEd]; intro e; have := congrArg List.length e; rw [length_rangeI] at this; simp at this; omega
                have Hapo : Hid (∀ b, (Value.slice Ao el.length co).ownBlock = some b → ¬ fp b ∧ (Value.slice Av ts.length cv).ownBlock ≠ some b ∧ (Value.slice Ae E.length ce).ownBlock ≠ some b ∧ b ≠ w.heap.size) := fun b hb => ⟨(Hapo0.out b hb).1, (Hapo0.out b hb).2.1, fun h => by have := (hA1.own_lt h).1; have := (hO.own_lt hb).2; omega, (Hapo0.out b hb).2.2.2⟩
                have Hapt : Hid (∀ b, (Value.slice Av ts.length cv).ownBlock = some b → (Value.slice Ae E.length ce).ownBlock ≠ some b ∧ b ≠ w.heap.size) := fun b hb => ⟨fun h => by have := (hA1.own_lt h).1; have := (hT.lt hb).2; omega, (Hapt0.out b hb).2⟩
                replace hb1w := Below_trans' hb1w hz hb1
                clear hO hT hW hA1 hEd Hapo0 Hapt0 hz
                have hEr : ∀ x ∈ E, 0 ≤ x ∧ x < (C : Int) := fun x hx => mem_rangeI.1 (hEs.subset hx)
                have hEl : E.length ≤ C := by have := hEs.length_le; rwa [length_rangeI] at this
                have hER := hE1.ints (fun y hy => by have := hEr y hy; omega)
                have hRr := hW1.ints (fun y hy => by
                  obtain ⟨i, _, rfl⟩ := List.mem_map.1 hy
                  have := restS_bd Hh.out (by rw [HTS.out]; exact hsum) n (i : Int)
                  split <;> omega)
                have hal := alike_any Ae E.length ce E (some ⟨w.heap.size, 0, none⟩) C C (restT had n C C) w1 hER hRr (by omega) hEr
                rw [best_restT hEs] at hal
                go_wp2_with fail
                refine hal.mono ?_
                rintro e w2 ⟨vb, rfl, hT2, hb2⟩
                clear hal
                obtain ⟨Ab, cb, rfl⟩ := hT2.slice
                have hbsub : (bestS (restS had n) E).Sublist (rangeI C) := (bestS_sub _ _).trans hEs
                have hbr : ∀ x ∈ bestS (restS had n) E, 0 ≤ x ∧ x < (C : Int) := fun x hx => mem_rangeI.1 (hbsub.subset hx)
                have hRb := hT2.ints (fun y hy => by have := hbr y hy; omega)
                have hbl1 : (bestS (restS had n) E).length ≤ C := by have := hbsub.length_le; rwa [length_rangeI] at this
                have hxr := hbr _ (frst_mem (lot := lot) (bestS_ne (f := restS had n) hEne) fun x hx => Hla.out x (hbr x hx).1 (hbr x hx).2)
                have hz1 := hb1w.size
                have hz2 := hb2.size
                have hvtlt : ∀ b, (Value.slice Av ts.length cv).ownBlock = some b → w.heap.size ≤ b ∧ b < w1.heap.size := fun b hb => hT1.lt hb
                have hvolt : ∀ b, (Value.slice Ao el.length co).ownBlock = some b → w.heap.size ≤ b ∧ b < w1.heap.size := fun b hb => hO1.own_lt hb
                have hvelt : ∀ b, (Value.slice Ae E.length ce).ownBlock = some b → w.heap.size ≤ b ∧ b < w1.heap.size := fun b hb => hE1.own_lt hb
                have hgrlt : w.heap.size < w1.heap.size := (hW1.own_lt rfl).2
                have hAb : ∀ b, fpS Ab (bestS (restS had n) E).length b → w1.heap.size ≤ b := fun b hb => (hT2.own_lt (hT2.fps hb)).1
                have hbw2 := Below_trans' hb1w hz1 hb2
                obtain ⟨xx, hxx⟩ : ∃ xx, xx = frstS lot (bestS (restS had n) E) := ⟨_, rfl⟩
                have Hmo := hide hmo
                clear hmo
                rw [← hxx] at hxr Hmo
                obtain ⟨x, rfl⟩ : ∃ x : Nat, xx = x := ⟨xx.toNat, by omega⟩
                have hfi := rfirst_any Al nl cl lot Ab _ cb (bestS (restS had n) E) w2 (hL.below hbw2) hRb
                rw [← hxx] at hfi
                have hti := tied_any w.heap.size (.slice Av ts.length cv) fp ts Ab _ cb (bestS (restS had n) E) (x : Int) w2 hbw2.size (hT1.below hb2) hRb (fun b hv hx => by have := hAb b hx; have := (hvtlt b hv).2; omega) (by unfold I64; omega) (by omega)
                have htl := tied_len ts (bestS (restS had n) E) (x : Int)
                obtain ⟨tsn, htsn⟩ : ∃ tsn, tsn = tiedS ts (bestS (restS had n) E) (x : Int) := ⟨_, rfl⟩
                unfold TPost at hti
                rw [← htsn] at hti Hmo htl
                obtain ⟨m, hm⟩ : ∃ m, m = (bestS (restS had n) E).length := ⟨_, rfl⟩
                rw [← hm] at hfi hti hAb ⊢
                clear hxx hm hRb hbsub hbl1 hbr htsn hT2
                go_wp2_with fail
                refine hfi.mono ?_
                rintro e w' ⟨rfl, rfl⟩
                go_wp2_with fail
                refine hti.mono ?_
                rintro e w3 ⟨vt', fp', rfl, hT3, hfp3, hvt3, hF3⟩
                clear hfi hti
                have hO3 := (hO1.below hb2).frame hF3 (fun b hb h => (Hapo.out b hb).2.1 h)
                have hE3 := (hE1.below hb2).frame hF3 (fun b hb h => (Hapt.out b h).1 hb)
                have hW3 := (hW1.below hb2).frame hF3 (fun b hb h => by
                  obtain rfl : w.heap.size = b := Option.some.inj hb
                  exact (Hapt.out _ h).2 rfl)
                have hz3 := hF3.size
                have hb3 : Below w.heap.size w w3 := Frame'.below hbw2 hF3 (fun b e => (hvtlt b e).1) hbw2.size
                obtain ⟨u', w4, k1, k2, k3, k4⟩ := hO3.app20 (x : Int) (by unfold I64; omega) (by omega) hb3.size 25
                have hold : ∀ b, b < w1.heap.size → ¬ fp b → (Value.slice Av ts.length cv).ownBlock ≠ some b → ¬ fp' b ∧ vt'.ownBlock ≠ some b := fun b h1 h2 h3 => by
                  refine ⟨fun h => ?_, fun h => ?_⟩
                  · rcases hfp3 b h with h | h
                    · exact h2 h
                    · have := hAb b h; omega
                  · rcases hvt3 with e | ⟨b', e, hb'⟩
                    · rw [e] at h; exact h3 h
                    · rw [e] at h; have := Option.some.inj h; omega
                have hT4 := hT3.frame k4 (fun b hb h => (hold b (hvolt b h).2 (Hapo.out b h).1 (Hapo.out b h).2.1).1 hb) (fun b hb h => (hold b (hvolt b h).2 (Hapo.out b h).1 (Hapo.out b h).2.1).2 hb)
                have hE4 := hE3.frame k4 (fun b hb h => (Hapo.out b h).2.2.1 hb)
                have hW4 := hW3.frame k4 (fun b hb h => by
                  obtain rfl : w.heap.size = b := Option.some.inj hb
                  exact (Hapo.out _ h).2.2.2 rfl)
                have hb4 : Below w.heap.size w w4 := Frame'.below hb3 k4 (fun b e => (hvolt b e).1) hb3.size
                have hz4 := k4.size
                have hap4 : ∀ b, u'.ownBlock = some b → (¬ fp' b ∧ vt'.ownBlock ≠ some b ∧ b ≠ w.heap.size) ∧ b < w4.heap.size := fun b hb => by
                  refine ⟨?_, (k2.own_lt hb).2⟩
                  rcases k3 with e | ⟨b', e, hb'⟩
                  · rw [e] at hb
                    have h1 := Hapo.out b hb
                    exact ⟨(hold b (hvolt b hb).2 h1.1 h1.2.1).1, (hold b (hvolt b hb).2 h1.1 h1.2.1).2, h1.2.2.2⟩
                  · rw [e] at hb
                    obtain rfl : b' = b := Option.some.inj hb
                    exact ⟨fun h => by have := hT3.fp_lt h; omega, fun h => by have := (hT3.lt h).2; omega, by omega⟩
                have hfp4 : ∀ b, fp' b → w.heap.size ≤ b := fun b hb => (hfp3 b hb).elim (Hfp.out b) (fun h => by have := hAb b h; omega)
                have hvt4 : ∀ b, vt'.ownBlock = some b → b ≠ w.heap.size ∧ b < w4.heap.size := fun b hb => by
                  refine ⟨?_, (hT4.lt hb).2⟩
                  rcases hvt3 with e | ⟨b', e, hb'⟩
                  · rw [e] at hb; exact (Hapt.out b hb).2
                  · rw [e] at hb; have := Option.some.inj hb; omega
                obtain ⟨Av', nv', cv', rfl⟩ : ∃ Av' nv' cv', vt' = .slice Av' nv' cv' := let ⟨A, c, e⟩ := hT3.slice; ⟨A, _, c, e⟩
                obtain ⟨Au, cu, hu'⟩ := k2.slice
                rw [List.length_append, List.length_singleton] at hu'
                subst hu'
                have hER4 := hE4.ints (fun y hy => by have := mem_rangeI.1 (hEs.subset hy); omega)
                go_wp2_with (at_builtin; refine list_app rfl rfl rfl rfl k1 ?_)
                clear k1
                go_wp2_with fail
                refine (without_any Ae E.length ce E (x : Int) w4 hER4 (by omega)).mono ?_
                rintro e w5 ⟨v5, rfl, hE5, hb5⟩
                obtain ⟨A5, n5, c5, rfl⟩ : ∃ A5 n5 c5, v5 = .slice A5 n5 c5 := let ⟨A, c, e⟩ := hE5.slice; ⟨A, _, c, e⟩
                have hE5lt : ∀ b, (Value.slice A5 n5 c5).ownBlock = some b → w4.heap.size ≤ b := fun b hb => (hE5.own_lt hb).1
                go_wp2
                go_roundw
                case rel =>
                  refine ⟨d, outS E (x : Int), (el ++ [(x : Int)], tsn), ?_, ?_, Hmo.out, (outS_sub _ _).trans hEs, fp', k2.below hb5, hT4.below hb5, hE5.mono hb4.size, hfp4, fun b hb => ⟨(hap4 b hb).1.1, (hap4 b hb).1.2.1, fun h => by have := hE5lt b h; have := (hap4 b hb).2; omega, (hap4 b hb).1.2.2⟩, fun b hb => ⟨fun h => by have := hE5lt b h; have := (hvt4 b hb).2; omega, (hvt4 b hb).1⟩, hW4.below hb5, Below_trans' hb4 hb4.size hb5⟩
                  · dsimp only; rw [List.length_append, List.length_singleton]; omega
                  · dsimp only; omega
                case measure => simp [lenV] <;> omega
              · have f1 : ((eg.length : Int) == 0) = false := by simp only [beq_eq_false_iff_ne, ne_eq]; omega
                rw [if_neg he] at hmo
                obtain ⟨w1, rfl⟩ : ∃ w1 : World, w1 = wz := ⟨_, rfl⟩
                obtain ⟨E, rfl⟩ : ∃ E, E = eg := ⟨_, rfl⟩
                have hE1 := hE
                have hO1 := hO
                have hT1 := hT
                have hW1 := hW
                have hEs := hsub
                have hEne : E ≠ [] := fun e => he (by rw [e]; rfl)
                have Hapo := hide hapo
                have Hapt := hide hapt
                clear hO hT hW hE hsub hapo hapt he hz
                have hEr : ∀ x ∈ E, 0 ≤ x ∧ x < (C : Int) := fun x hx => mem_rangeI.1 (hEs.subset hx)
                have hEl : E.length ≤ C := by have := hEs.length_le; rwa [length_rangeI] at this
                have hER := hE1.ints (fun y hy => by have := hEr y hy; omega)
                have hRr := hW1.ints (fun y hy => by
                  obtain ⟨i, _, rfl⟩ := List.mem_map.1 hy
                  have := restS_bd Hh.out (by rw [HTS.out]; exact hsum) n (i : Int)
                  split <;> omega)
                have hal := alike_any Ae E.length ce E (some ⟨w.heap.size, 0, none⟩) C C (restT had n C C) w1 hER hRr (by omega) hEr
                rw [best_restT hEs] at hal
                go_wp2_with fail
                refine hal.mono ?_
                rintro e w2 ⟨vb, rfl, hT2, hb2⟩
                clear hal
                obtain ⟨Ab, cb, rfl⟩ := hT2.slice
                have hbsub : (bestS (restS had n) E).Sublist (rangeI C) := (bestS_sub _ _).trans hEs
                have hbr : ∀ x ∈ bestS (restS had n) E, 0 ≤ x ∧ x < (C : Int) := fun x hx => mem_rangeI.1 (hbsub.subset hx)
                have hRb := hT2.ints (fun y hy => by have := hbr y hy; omega)
                have hbl1 : (bestS (restS had n) E).length ≤ C := by have := hbsub.length_le; rwa [length_rangeI] at this
                have hxr := hbr _ (frst_mem (lot := lot) (bestS_ne (f := restS had n) hEne) fun x hx => Hla.out x (hbr x hx).1 (hbr x hx).2)
                have hz1 := hb1w.size
                have hz2 := hb2.size
                have hvtlt : ∀ b, (Value.slice Av ts.length cv).ownBlock = some b → w.heap.size ≤ b ∧ b < w1.heap.size := fun b hb => hT1.lt hb
                have hvolt : ∀ b, (Value.slice Ao el.length co).ownBlock = some b → w.heap.size ≤ b ∧ b < w1.heap.size := fun b hb => hO1.own_lt hb
                have hvelt : ∀ b, (Value.slice Ae E.length ce).ownBlock = some b → w.heap.size ≤ b ∧ b < w1.heap.size := fun b hb => hE1.own_lt hb
                have hgrlt : w.heap.size < w1.heap.size := (hW1.own_lt rfl).2
                have hAb : ∀ b, fpS Ab (bestS (restS had n) E).length b → w1.heap.size ≤ b := fun b hb => (hT2.own_lt (hT2.fps hb)).1
                have hbw2 := Below_trans' hb1w hz1 hb2
                obtain ⟨xx, hxx⟩ : ∃ xx, xx = frstS lot (bestS (restS had n) E) := ⟨_, rfl⟩
                have Hmo := hide hmo
                clear hmo
                rw [← hxx] at hxr Hmo
                obtain ⟨x, rfl⟩ : ∃ x : Nat, xx = x := ⟨xx.toNat, by omega⟩
                have hfi := rfirst_any Al nl cl lot Ab _ cb (bestS (restS had n) E) w2 (hL.below hbw2) hRb
                rw [← hxx] at hfi
                have hti := tied_any w.heap.size (.slice Av ts.length cv) fp ts Ab _ cb (bestS (restS had n) E) (x : Int) w2 hbw2.size (hT1.below hb2) hRb (fun b hv hx => by have := hAb b hx; have := (hvtlt b hv).2; omega) (by unfold I64; omega) (by omega)
                have htl := tied_len ts (bestS (restS had n) E) (x : Int)
                obtain ⟨tsn, htsn⟩ : ∃ tsn, tsn = tiedS ts (bestS (restS had n) E) (x : Int) := ⟨_, rfl⟩
                unfold TPost at hti
                rw [← htsn] at hti Hmo htl
                obtain ⟨m, hm⟩ : ∃ m, m = (bestS (restS had n) E).length := ⟨_, rfl⟩
                rw [← hm] at hfi hti hAb ⊢
                clear hxx hm hRb hbsub hbl1 hbr htsn hT2
                go_wp2_with fail
                refine hfi.mono ?_
                rintro e w' ⟨rfl, rfl⟩
                go_wp2_with fail
                refine hti.mono ?_
                rintro e w3 ⟨vt', fp', rfl, hT3, hfp3, hvt3, hF3⟩
                clear hfi hti
                have hO3 := (hO1.below hb2).frame hF3 (fun b hb h => (Hapo.out b hb).2.1 h)
                have hE3 := (hE1.below hb2).frame hF3 (fun b hb h => (Hapt.out b h).1 hb)
                have hW3 := (hW1.below hb2).frame hF3 (fun b hb h => by
                  obtain rfl : w.heap.size = b := Option.some.inj hb
                  exact (Hapt.out _ h).2 rfl)
                have hz3 := hF3.size
                have hb3 : Below w.heap.size w w3 := Frame'.below hbw2 hF3 (fun b e => (hvtlt b e).1) hbw2.size
                obtain ⟨u', w4, k1, k2, k3, k4⟩ := hO3.app20 (x : Int) (by unfold I64; omega) (by omega) hb3.size 25
                have hold : ∀ b, b < w1.heap.size → ¬ fp b → (Value.slice Av ts.length cv).ownBlock ≠ some b → ¬ fp' b ∧ vt'.ownBlock ≠ some b := fun b h1 h2 h3 => by
                  refine ⟨fun h => ?_, fun h => ?_⟩
                  · rcases hfp3 b h with h | h
                    · exact h2 h
                    · have := hAb b h; omega
                  · rcases hvt3 with e | ⟨b', e, hb'⟩
                    · rw [e] at h; exact h3 h
                    · rw [e] at h; have := Option.some.inj h; omega
                have hT4 := hT3.frame k4 (fun b hb h => (hold b (hvolt b h).2 (Hapo.out b h).1 (Hapo.out b h).2.1).1 hb) (fun b hb h => (hold b (hvolt b h).2 (Hapo.out b h).1 (Hapo.out b h).2.1).2 hb)
                have hE4 := hE3.frame k4 (fun b hb h => (Hapo.out b h).2.2.1 hb)
                have hW4 := hW3.frame k4 (fun b hb h => by
                  obtain rfl : w.heap.size = b := Option.some.inj hb
                  exact (Hapo.out _ h).2.2.2 rfl)
                have hb4 : Below w.heap.size w w4 := Frame'.below hb3 k4 (fun b e => (hvolt b e).1) hb3.size
                have hz4 := k4.size
                have hap4 : ∀ b, u'.ownBlock = some b → (¬ fp' b ∧ vt'.ownBlock ≠ some b ∧ b ≠ w.heap.size) ∧ b < w4.heap.size := fun b hb => by
                  refine ⟨?_, (k2.own_lt hb).2⟩
                  rcases k3 with e | ⟨b', e, hb'⟩
                  · rw [e] at hb
                    have h1 := Hapo.out b hb
                    exact ⟨(hold b (hvolt b hb).2 h1.1 h1.2.1).1, (hold b (hvolt b hb).2 h1.1 h1.2.1).2, h1.2.2.2⟩
                  · rw [e] at hb
                    obtain rfl : b' = b := Option.some.inj hb
                    exact ⟨fun h => by have := hT3.fp_lt h; omega, fun h => by have := (hT3.lt h).2; omega, by omega⟩
                have hfp4 : ∀ b, fp' b → w.heap.size ≤ b := fun b hb => (hfp3 b hb).elim (Hfp.out b) (fun h => by have := hAb b h; omega)
                have hvt4 : ∀ b, vt'.ownBlock = some b → b ≠ w.heap.size ∧ b < w4.heap.size := fun b hb => by
                  refine ⟨?_, (hT4.lt hb).2⟩
                  rcases hvt3 with e | ⟨b', e, hb'⟩
                  · rw [e] at hb; exact (Hapt.out b hb).2
                  · rw [e] at hb; have := Option.some.inj hb; omega
                obtain ⟨Av', nv', cv', rfl⟩ : ∃ Av' nv' cv', vt' = .slice Av' nv' cv' := let ⟨A, c, e⟩ := hT3.slice; ⟨A, _, c, e⟩
                obtain ⟨Au, cu, hu'⟩ := k2.slice
                rw [List.length_append, List.length_singleton] at hu'
                subst hu'
                have hER4 := hE4.ints (fun y hy => by have := mem_rangeI.1 (hEs.subset hy); omega)
                go_wp2_with (at_builtin; refine list_app rfl rfl rfl rfl k1 ?_)
                clear k1
                go_wp2_with fail
                refine (without_any Ae E.length ce E (x : Int) w4 hER4 (by omega)).mono ?_
                rintro e w5 ⟨v5, rfl, hE5, hb5⟩
                obtain ⟨A5, n5, c5, rfl⟩ : ∃ A5 n5 c5, v5 = .slice A5 n5 c5 := let ⟨A, c, e⟩ := hE5.slice; ⟨A, _, c, e⟩
                have hE5lt : ∀ b, (Value.slice A5 n5 c5).ownBlock = some b → w4.heap.size ≤ b := fun b hb => (hE5.own_lt hb).1
                go_wp2
                go_roundw
                case rel =>
                  refine ⟨d, outS E (x : Int), (el ++ [(x : Int)], tsn), ?_, ?_, Hmo.out, (outS_sub _ _).trans hEs, fp', k2.below hb5, hT4.below hb5, hE5.mono hb4.size, hfp4, fun b hb => ⟨(hap4 b hb).1.1, (hap4 b hb).1.2.1, fun h => by have := hE5lt b h; have := (hap4 b hb).2; omega, (hap4 b hb).1.2.2⟩, fun b hb => ⟨fun h => by have := hE5lt b h; have := (hvt4 b hb).2; omega, (hvt4 b hb).1⟩, hW4.below hb5, Below_trans' hb4 hb4.size hb5⟩
                  · dsimp only; rw [List.length_append, List.length_singleton]; omega
                  · dsimp only; omega
                case measure => simp [lenV] <;> omega
end Go.Proofs.YtiebfalodelclaaGreat
