/-
  The law CondorcetSmith.
-/
import Derived.Test.YtkhclcdmehjfkaaGreatW12h
import Derived.Test.YtkhclcdmehjfkaaGreatSpecSt
namespace Go.Proofs.YtkhclcdmehjfkaaGreat
open Go.RowKit Go.Proofs Go.Shelf
attribute [local go_sem] cell?_more cell?_alloc_some cell?_setCell_far frozen?_alloc_some frozen?_more
attribute [local go_sem ↓] ldm_fold
attribute [local go_sem] run_LDM run_LDM_more run_LDM_drew
set_option maxRecDepth 100000 in
set_option maxHeartbeats 4000000 in
theorem condorcetSmith_any (D : Array Value) (m : M) (hD : Mat D m) (c : Int) (w : World) :
    Calls Tryz.prog 11 #[.agg D, .int .i64 c] w fun e w' => e = .returned (.bool true) ∧ Below w.heap.size w w' := by
  have hDs := hD.size
  have hb : Below w.heap.size w (w.alloc (.cells D 24)) := below_allocN
  have hM := Has.new w 24 D
  go_enter Tryz.func11, Tryz.ntmps11
  go_upto_region 1 with fail
  generalize World.alloc w _ = W0 at hb hM ⊢
  go_wp2_with (refine ldMat rfl rfl rfl hM hDs ?_)
  refine (rright_any D m hD c W0).mono ?_
  rintro e w1 ⟨rfl, hb1⟩
  have hbw1 := Below_trans' hb hb.size hb1
  replace hM := hM.below hb1 hM.lt
  clear hb hb1
  cases hr : rightS m c with
  | false =>
    clear hr
    go_wp2_with fail
    refine (wakes12_any _).mono ?_
    rintro e w9 ⟨rfl, hb9⟩
    go_wp2
    go_ret
    exact ⟨rfl, Below_trans' hbw1 (hbw1).size hb9⟩
  | true =>
    obtain ⟨hc1, hc10, -⟩ := rightS_iff.1 hr
    obtain ⟨C, rfl⟩ : ∃ C : Nat, c = (C : Int) := ⟨c.toNat, by omega⟩
    have hr10 := hide (right_ten hr)
    have HsE := hide (smithErr_ok hr)
    have hsm := smithS_ok (m := m) (show 0 < C by omega)
    have hsv := hide (smithV_ok hr hsm)
    have hTr : Hid (∀ x ∈ smithV m C, 0 ≤ x ∧ x < C) := fun x hx => by rw [hsv.out] at hx; exact mem_rangeI.1 (hsm.dom.sub.subset hx)
    have Hsm : Hid (Smith m C (smithV m C)) := by unfold Hid; rw [hsv.out]; exact hsm
    clear hsm hsv hr
    go_wp2_with (refine ldMat rfl rfl rfl hM hDs ?_)
    refine (smith_any D _ hD C w1).mono ?_
    rintro e w2 ⟨vs, rfl, hOs, hb2⟩
    rw [HsE.out]
    generalize smithV m C = T at *
    obtain ⟨As, cs, rfl⟩ := hOs.slice
    have hRT := hOs.ints fun x hx => by have := hTr.out x hx; omega
    obtain ⟨nT, hnT⟩ : ∃ k, k = T.length := ⟨_, rfl⟩
    rw [← hnT] at hRT hOs ⊢
    have hn1 : 1 ≤ nT := by have := List.length_pos_iff.2 Hsm.out.dom.ne; omega
    have hnc : nT ≤ 10 := by have := Hsm.out.dom.sub.length_le; rw [length_rangeI] at this; omega
    have HnT := hide hnT
    clear hnT hOs
    have hbw2 := Below_trans' hbw1 hbw1.size hb2
    have hM2 := hM.below hb2 hM.lt
    have fn0 : ((nT : Int) == 0) = false := by simp; omega
    clear hM hb2 hbw1
    go_upto_region 7 with fail
    clear fn0
    go_loopw [7] (fun i wr => ∃ X : Nat, X ≤ C ∧ i = .int .i64 X ∧ Below w2.heap.size w2 wr) (fun i _ => C - (intOf i).toNat)
    case atStart => exact ⟨0, Nat.zero_le _, rfl, Below.refl _ _⟩
    case round =>
      obtain ⟨X, hX, rfl, hb⟩ := hrel
      obtain ⟨wo, rfl⟩ : ∃ wo : World, wo = wr := ⟨_, rfl⟩
      by_cases hlt : X < C
      · go_wp2
        go_loopw [8] (fun i wr => ∃ Y : Nat, Y ≤ C ∧ i = .int .i64 Y ∧ Below w2.heap.size w2 wr) (fun i _ => C - (intOf i).toNat)
        case atStart => exact ⟨0, Nat.zero_le _, rfl, hb⟩
        case round =>
          obtain ⟨Y, hY, rfl, hb3⟩ := hrel
          by_cases hltY : Y < C
          · have hMr := hM2.below hb3 hM2.lt
            have hRr := hRT.below hb3
            have gd := good_of hMr hDs
            have gc := cells_eq hMr
            have hB : inL T X = true → inL T Y = false → ∀ W, Calls Tryz.prog 53 #[.agg D, .int .i64 (X : Int), .int .i64 (Y : Int)] W fun e w' => e = .returned (.bool true) ∧ Below W.heap.size W w' := fun h1 h2 W =>
              (beats_any D m hD X Y W).mono (by
                rintro e w' ⟨rfl, hb⟩
                refine ⟨?_, hb⟩
                have := Hsm.out.dom.all X Y hlt hltY (inL_iff.1 h1) (fun h3 => by rw [inL_iff.2 h3] at h2; cases h2)
                rw [margin_three (by omega) (by omega) hr10.out]
                exact ret_b (by simp; omega))
            go_wp2_with fail
            refine (in_any As nT cs T X wr hRr).mono ?_
            rintro e w' ⟨rfl, hw'⟩
            cases hw'
            cases hX1 : inL T X with
            | false =>
              clear hX1 hB
              go_wp2
              go_roundw
              case rel => exact ⟨Y + 1, by omega, by go_num, hb3⟩
              case measure => simp [intOf] <;> omega
            | true =>
              go_wp2_with fail
              refine (in_any As nT cs T Y wr hRr).mono ?_
              rintro e w'' ⟨rfl, hw''⟩
              cases hw''
              cases hY1 : inL T Y with
              | true =>
                clear hX1 hY1 hB
                go_wp2
                go_roundw
                case rel => exact ⟨Y + 1, by omega, by go_num, hb3⟩
                case measure => simp [intOf] <;> omega
              | false =>
                have hB := hB hX1 hY1
                clear hX1 hY1
                go_wp2_with fail
                refine (hB _).mono ?_
                rintro e w5 ⟨rfl, hb5⟩
                go_wp2
                go_roundw
                case rel => exact ⟨Y + 1, by omega, by go_num, Below_trans' hb3 hb3.size hb5⟩
                case measure => simp [intOf] <;> omega
          · go_wp2
            go_roundw
            case rel => exact ⟨X + 1, by omega, by go_num, hb3⟩
            case measure => simp [intOf] <;> omega
      · obtain ⟨P, hP⟩ : ∃ P : Nat, P = 2 ^ C := ⟨_, rfl⟩
        have hP0 : 2 ^ C ≤ 2 ^ 10 := Nat.pow_le_pow_right (by omega) (by omega)
        have hP1 : 0 < 2 ^ C := Nat.pow_pos (by omega)
        have hsh : (2 : Int) ^ C = (P : Int) := by rw [hP]; simp
        have hP2 : 1 ≤ P := by omega
        have hP3 : P ≤ 1024 := by omega
        have HP := hide hP
        clear hP hP0 hP1
        go_wp2
        go_loopw [9] (fun i wr => ∃ X : Nat, X ≤ nT ∧ i = .int .i64 X ∧ Below w2.heap.size w2 wr) (fun i _ => nT - (intOf i).toNat)
        case atStart => exact ⟨0, Nat.zero_le _, rfl, hb⟩
        case round =>
          obtain ⟨X1, hX1, rfl, hb4⟩ := hrel
          obtain ⟨wp, rfl⟩ : ∃ wp : World, wp = wr := ⟨_, rfl⟩
          by_cases hlt1 : X1 < nT
          · obtain ⟨be, oe, xe, ee, hcx, _, hatx, _⟩ := (hRT.below hb4).step hlt1
            cases ee
            have hx := hTr.out xe (List.mem_of_getElem? hatx.out)
            have f1 : ¬ xe < 0 := by omega
            have f2 : ¬ (C : Int) ≤ xe := by omega
            rcases X1 with _ | j
            · simp only [Nat.add_zero] at hcx
              go_upto_region 17 with fail
              refine wp_region_more (by kernel_rfl) (by kernel_rfl) ?_
              repeat (go_big_quiet_step (fail))
              refine wpQuiet_nil ?_
              rintro w6 ⟨qw6, hww6⟩
              have hbw6 := below_of_eq hww6
              clear hww6 qw6
              go_wp2
              go_roundw
              case rel => exact ⟨0 + 1, by omega, by go_num, Below_trans' hb4 hb4.size hbw6⟩
              case measure => simp [intOf] <;> omega
            · obtain ⟨bf, of_, xf, ef, hcy, _, haty, _⟩ := (hRT.below hb4).step (show j < nT by omega)
              cases ef
              have hlx := range_lt Hsm.out.dom.sub haty.out hatx.out
              have f3 : ¬ xe ≤ xf := by omega
              go_upto_region 17 with fail
              refine wp_region_more (by kernel_rfl) (by kernel_rfl) ?_
              repeat (go_big_quiet_step (fail))
              refine wpQuiet_nil ?_
              rintro w6 ⟨qw6, hww6⟩
              have hbw6 := below_of_eq hww6
              clear hww6 qw6
              go_wp2
              go_roundw
              case rel => exact ⟨(j + 1) + 1, by omega, by go_num, Below_trans' hb4 hb4.size hbw6⟩
              case measure => simp [intOf] <;> omega
          · go_wp2
            go_loopw [10] (fun i wr => ∃ t : Nat, 1 ≤ t ∧ t ≤ P ∧ i = .int .i64 t ∧ Below w2.heap.size w2 wr) (fun i _ => P - (intOf i).toNat)
            case atStart => exact ⟨1, by omega, by omega, rfl, hb4⟩
            case round =>
              obtain ⟨t, ht1, htP, rfl, hb5⟩ := hrel
              obtain ⟨wq, rfl⟩ : ∃ wq : World, wq = wr := ⟨_, rfl⟩
              by_cases hltt : t < P
              · have ht64 : (t : Int) ≤ 1024 := by omega
                go_upto_region 24 with fail
                go_loopw [11, 12, 13] (fun mv rv i wr => ∃ X : Nat, X ≤ C ∧ i = .int .i64 X ∧ mv = .int .i64 ((bitS X t).length : Nat) ∧ rv = .bool (rulesT m C t X) ∧ Below w2.heap.size w2 wr) (fun mv rv i _ => C - (intOf i).toNat)
                case atStart => exact ⟨0, Nat.zero_le _, rfl, rfl, rfl, hb5⟩
                case round =>
                  obtain ⟨X3, hX3, rfl, rfl, rfl, hb6⟩ := hrel
                  obtain ⟨wu, rfl⟩ : ∃ wu : World, wu = wr := ⟨_, rfl⟩
                  have hml := bitS_le X3 t
                  have hss := hide (rulesT_succ m C t X3)
                  have hbi := hide (fun h => bitS_in (X := X3) (t := t) h)
                  have hbo := hide (fun h => bitS_out (X := X3) (t := t) h)
                  generalize hmn : (bitS X3 t).length = mn at hml hbi hbo ⊢
                  generalize hrn : rulesT m C t X3 = rn at hss ⊢
                  by_cases hlt3 : X3 < C
                  · clear hmn hrn
                    have hsr : (t : Int) / 2 ^ X3 = ((t / 2 ^ X3 : Nat) : Int) := by simp
                    by_cases hbit : t / 2 ^ X3 % 2 = 0
                    · have hn1 := hide (show rulesT m C t (X3 + 1) = rn by rw [hss.out, hbit]; simp)
                      have hn2 := hide (hbo.out hbit)
                      generalize t / 2 ^ X3 = u at hsr hbit
                      have hbu : ((u : Int) % 2 == 0) = true := by simp; omega
                      go_wp2
                      go_roundw
                      case rel => exact ⟨X3 + 1, by omega, by go_num, by rw [hn2.out], by rw [hn1.out], hb6⟩
                      case measure => simp [intOf] <;> omega
                    · have hbit1 : t / 2 ^ X3 % 2 = 1 := by omega
                      have hn1 := hide (show rulesT m C t (X3 + 1) = (rn && rowT m t X3 C) by rw [hss.out, hbit1]; simp)
                      have hn2 := hide (hbi.out hbit1)
                      clear hbit
                      generalize t / 2 ^ X3 = u at hsr hbit1
                      have hbu : ((u : Int) % 2 == 0) = false := by simp; omega
                      go_wp2
                      clear hsr hbu hbit1
                      go_loopw [12, 14] (fun rv i wr => ∃ Y : Nat, Y ≤ C ∧ i = .int .i64 Y ∧ rv = .bool (rn && rowT m t X3 Y) ∧ Below w2.heap.size w2 wr) (fun rv i _ => C - (intOf i).toNat)
                      case atStart => exact ⟨0, Nat.zero_le _, rfl, by rw [rowT_zero, Bool.and_true], hb6⟩
                      case round =>
                        obtain ⟨Y, hY, rfl, rfl, hb7⟩ := hrel
                        have hrs := hide (rowT_succ m t X3 Y)
                        generalize hqq : (rn && rowT m t X3 Y) = q
                        have Hqq := hide hqq
                        clear hqq
                        by_cases hltY : Y < C
                        · have hBr := hM2.below hb7 hM2.lt
                          have x10 : X3 < 10 := by omega
                          have y10 : Y < 10 := by omega
                          have bx : (X3 : Int) < 10 := by omega
                          have by_ : (Y : Int) < 10 := by omega
                          have hcv := (hBr.cell (X3 * 10 + Y)).trans (hD.at_ X3 Y x10 y10)
                          have hcu := (hBr.cell (Y * 10 + X3)).trans (hD.at_ Y X3 y10 x10)
                          have hd1 := hD.bd X3 Y x10 y10
                          have hd2 := hD.bd Y X3 y10 x10
                          have hsr : (t : Int) / 2 ^ Y = ((t / 2 ^ Y : Nat) : Int) := by simp
                          cases q with
                          | false =>
                            have hn := hide (show (rn && rowT m t X3 (Y + 1)) = false by rw [hrs.out, ← Bool.and_assoc, Hqq.out]; rfl)
                            clear hcv hcu hsr
                            go_upto_region 31 with fail
                            refine wp_region_more (by kernel_rfl) (by kernel_rfl) ?_
                            repeat (go_big_quiet_step (fail))
                            refine wpQuiet_nil ?_
                            rintro w7 ⟨qw7, hww7⟩
                            have hbw7 := below_of_eq hww7
                            clear hww7 qw7
                            go_wp2
                            go_roundw
                            case rel => exact ⟨Y + 1, by omega, by go_num, by rw [hn.out], Below_trans' hb7 hb7.size hbw7⟩
                            case measure => simp [intOf] <;> omega
                          | true =>
                            by_cases hby : t / 2 ^ Y % 2 = 1
                            · have hn := hide (show (rn && rowT m t X3 (Y + 1)) = true by rw [hrs.out, ← Bool.and_assoc, Hqq.out, hby]; simp)
                              generalize t / 2 ^ Y = v at hsr hby
                              have hbv : ((v : Int) % 2 == 1) = true := by simp; omega
                              clear hcv hcu
                              go_upto_region 31 with fail
                              refine wp_region_more (by kernel_rfl) (by kernel_rfl) ?_
                              repeat (go_big_quiet_step (fail))
                              refine wpQuiet_nil ?_
                              rintro w7 ⟨qw7, hww7⟩
                              have hbw7 := below_of_eq hww7
                              clear hww7 qw7
                              go_wp2
                              go_roundw
                              case rel => exact ⟨Y + 1, by omega, by go_num, by rw [hn.out], Below_trans' hb7 hb7.size hbw7⟩
                              case measure => simp [intOf] <;> omega
                            · have hby0 : t / 2 ^ Y % 2 = 0 := by omega
                              by_cases hv : m Y X3 < m X3 Y
                              · have hn := hide (show (rn && rowT m t X3 (Y + 1)) = true by rw [hrs.out, ← Bool.and_assoc, Hqq.out]; simp [hv])
                                have hle : ¬ m X3 Y ≤ m Y X3 := by omega
                                clear hv hby
                                generalize t / 2 ^ Y = v at hsr hby0
                                have hbv : ((v : Int) % 2 == 1) = false := by simp; omega
                                generalize m X3 Y = v1 at hcv hle hd1
                                generalize m Y X3 = v2 at hcu hle hd2
                                go_upto_region 31 with fail
                                refine wp_region_more (by kernel_rfl) (by kernel_rfl) ?_
                                repeat (go_big_quiet_step (fail))
                                refine wpQuiet_nil ?_
                                rintro w7 ⟨qw7, hww7⟩
                                have hbw7 := below_of_eq hww7
                                clear hww7 qw7
                                go_wp2
                                go_roundw
                                case rel => exact ⟨Y + 1, by omega, by go_num, by rw [hn.out, decide_eq_true (show v2 < v1 by omega)], Below_trans' hb7 hb7.size hbw7⟩
                                case measure => simp [intOf] <;> omega
                              · have hn := hide (show (rn && rowT m t X3 (Y + 1)) = false by rw [hrs.out, ← Bool.and_assoc, Hqq.out]; simp [hv, hby])
                                have hle : m X3 Y ≤ m Y X3 := by omega
                                clear hv hby
                                generalize t / 2 ^ Y = v at hsr hby0
                                have hbv : ((v : Int) % 2 == 1) = false := by simp; omega
                                generalize m X3 Y = v1 at hcv hle hd1
                                generalize m Y X3 = v2 at hcu hle hd2
                                go_upto_region 31 with fail
                                refine wp_region_more (by kernel_rfl) (by kernel_rfl) ?_
                                repeat (go_big_quiet_step (fail))
                                refine wpQuiet_nil ?_
                                rintro w7 ⟨qw7, hww7⟩
                                have hbw7 := below_of_eq hww7
                                clear hww7 qw7
                                go_wp2
                                go_roundw
                                case rel => exact ⟨Y + 1, by omega, by go_num, by rw [hn.out, decide_eq_false (show ¬ v2 < v1 by omega)], Below_trans' hb7 hb7.size hbw7⟩
                                case measure => simp [intOf] <;> omega
                        · obtain rfl : Y = C := by omega
                          go_wp2
                          go_roundw
                          case rel => exact ⟨X3 + 1, by omega, by go_num, by rw [hn2.out]; go_num, by rw [hn1.out, Hqq.out], hb7⟩
                          case measure => simp [intOf] <;> omega
                  · obtain rfl : X3 = C := by omega
                    have hfew : rn = true → ¬ mn < nT := fun e => by
                      have := smith_few Hsm.out ht1 (by have := HP.out; omega) (hrn.trans e)
                      have := HnT.out
                      omega
                    clear hmn hrn
                    cases rn with
                    | false =>
                      go_wp2
                      go_roundw
                      case rel => exact ⟨t + 1, by omega, by omega, by go_num, hb6⟩
                      case measure => simp [intOf] <;> omega
                    | true =>
                      have hfew := hfew rfl
                      go_wp2
                      go_roundw
                      case rel => exact ⟨t + 1, by omega, by omega, by go_num, hb6⟩
                      case measure => simp [intOf] <;> omega
              · have hbe := Below_trans' hbw2 hbw2.size hb5
                go_wp2_with fail
                refine (wakes12_any _).mono ?_
                rintro e w9 ⟨rfl, hb9⟩
                go_wp2
                go_ret
                exact ⟨rfl, Below_trans' hbe (hbe).size hb9⟩
end Go.Proofs.YtkhclcdmehjfkaaGreat
