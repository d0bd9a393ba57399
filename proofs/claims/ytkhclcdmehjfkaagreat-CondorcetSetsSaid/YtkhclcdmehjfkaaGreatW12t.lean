/-
  The reference of chapter 12: the Smith set by enumerating all sets.
-/
import Derived.Test.YtkhclcdmehjfkaaGreatW12r
import Derived.Test.YtkhclcdmehjfkaaGreatW15e
namespace Go.Proofs.YtkhclcdmehjfkaaGreat
open Go.RowKit Go.Proofs Go.Shelf
attribute [local go_sem] cell?_more cell?_alloc_some cell?_setCell_far frozen?_alloc_some frozen?_more
/-- One more. -/
theorem Own.app1 {w : World} {B : Nat} {u : Value} {xs : List Int} (h : Own w B u xs) (x : Int) (hx : I64 x) (hn : xs.length + 1 ≤ 1000000) (hB : B ≤ w.heap.size) (ty : TypeId) :
    ∃ u' w', (Builtin.append_ #[25, 25] ty #[u, .slice (some ⟨w.heap.size, 0, none⟩) 1 1]).run Tryz.prog (w.alloc (.cells #[.int .i64 x] 3)) = .ok u' w' ∧ Own w' B u' (xs ++ [x]) ∧ Frame' (fun b => u.ownBlock = some b) w w' := by
  have hb : Below w.heap.size w (w.alloc (.cells #[.int .i64 x] 3)) := below_allocN
  have h1 := h.below hb
  have hL : RInts (w.alloc (.cells #[.int .i64 x] 3)) (some ⟨w.heap.size, 0, none⟩) 1 1 [x] := ints_lit [x] (Has.new _ _ _) (by simp) (fun z hz => by rw [List.mem_singleton.1 hz]; exact hx)
  obtain ⟨u', w', k1, k2, k3, k4⟩ := run_appInts _ ty h1 hL (by simpa using hn) (by simp; omega)
  have hf : Frame' (fun b => u.ownBlock = some b) (w.alloc (.cells #[.int .i64 x] 3)) w' := (Frame'.of_grown k3).mono fun b _ e => e.symm
  exact ⟨u', w', k1, k2, (Frame'.of_below hb).trans hf⟩
theorem bitS_nil (t : Nat) : bitS 0 t = [] := rfl
theorem bitS_yes {X t : Nat} (h : t / 2 ^ X % 2 = 1) : bitS (X + 1) t = bitS X t ++ [(X : Int)] := by
  unfold bitS; rw [rangeI_succ, List.filter_append]; simp [h]
theorem bitS_no {X t : Nat} (h : ¬ t / 2 ^ X % 2 = 1) : bitS (X + 1) t = bitS X t := by
  unfold bitS; rw [rangeI_succ, List.filter_append]; simp [h]

set_option maxRecDepth 100000 in
set_option maxHeartbeats 4000000 in
theorem rsmith_any (Cs : Array Value) (m : M) (hC : Mat Cs m) (c : Int) (w : World) :
    Calls Tryz.prog 48 #[.agg Cs, .int .i64 c] w fun e w' => ∃ v, e = .returned (.tuple #[v, .int .i64 (smithErr m c)]) ∧ Own w' w.heap.size v (smithV m c) ∧ Below w.heap.size w w' := by
  have hs := hC.size
  have hB0 : Has (w.alloc (.cells Cs 24)) w.heap.size 24 Cs := Has.new _ _ _
  have hb0 : Below w.heap.size w (w.alloc (.cells Cs 24)) := (Below.refl _ _).alloc (Nat.le_refl _) _
  go_enter Tryz.func48, Tryz.ntmps48
  go_upto_region 1 with fail
  generalize World.alloc w _ = W0 at hB0 hb0 ⊢
  by_cases h1 : c < 1
  · have hE := hide (smithErr_arg (m := m) (.inl h1))
    go_wp2
    go_ret2
    exact ⟨_, by rw [hE.out]; rfl, by rw [smithV_bad (by rw [hE.out]; decide)]; exact Own.nil_ _ _, hb0⟩
  · by_cases h10 : 10 < c
    · have hE := hide (smithErr_arg (m := m) (.inr h10))
      go_wp2
      go_ret2
      exact ⟨_, by rw [hE.out]; rfl, by rw [smithV_bad (by rw [hE.out]; decide)]; exact Own.nil_ _ _, hb0⟩
    · cases hR : rightS m c with
      | false =>
        have hE := hide (smithErr_bad (by omega) hR)
        have hr := rright_any Cs m hC c
        simp only [hR] at hr
        clear hR
        go_wp2_with (refine ldMat rfl rfl rfl hB0 hs ?_)
        refine (hr _).mono ?_
        rintro e w1 ⟨rfl, hb1⟩
        go_wp2
        go_ret2
        exact ⟨_, by rw [hE.out]; rfl, by rw [smithV_bad (by rw [hE.out]; decide)]; exact Own.nil_ _ _, Below_trans' hb0 hb0.size hb1⟩
      | true =>
        obtain ⟨C, rfl⟩ : ∃ C : Nat, c = C := ⟨c.toNat, by omega⟩
        have hE := hide (smithErr_ok hR)
        have hr := rright_any Cs m hC C
        simp only [hR] at hr
        have HR := hide hR
        clear hR
        have hC10 : C ≤ 10 := by omega
        have hC1 : 1 ≤ C := by omega
        go_wp2_with (refine ldMat rfl rfl rfl hB0 hs ?_)
        refine (hr _).mono ?_
        rintro e w1 ⟨rfl, hb1⟩
        clear hr
        have hb01 := Below_trans' hb0 hb0.size hb1
        have hM1 := hB0.below hb1 hB0.lt
        obtain ⟨P, hP⟩ : ∃ P : Nat, P = 2 ^ C := ⟨_, rfl⟩
        have hP0 : 2 ^ C ≤ 2 ^ 10 := Nat.pow_le_pow_right (by omega) (by omega)
        have hP1 : 0 < 2 ^ C := Nat.pow_pos (by omega)
        have hsh : (2 : Int) ^ C = (P : Int) := by rw [hP]; simp
        have hP2 : 1 ≤ P := by omega
        have hP3 : P ≤ 1024 := by omega
        have HP := hide hP
        clear hP hP0 hP1 hb1 hB0 hb0
        go_upto_region 7 with fail
        go_loopw [6, 7] (fun u i wr => ∃ t : Nat, 1 ≤ t ∧ t ≤ P ∧ i = .int .i64 t ∧ (∃ L, Own wr w1.heap.size u L ∧ SeenS m C t L) ∧ Below w1.heap.size w1 wr) (fun u i _ => P - (intOf i).toNat)
        case atStart => exact ⟨1, by omega, by omega, rfl, ⟨[], Own.nil_ _ _, SeenS.start m C⟩, Below.refl _ _⟩
        case round =>
          obtain ⟨t, ht1, htP, rfl, ⟨L, hLe, hSn⟩, hb⟩ := hrel
          obtain ⟨wo, rfl⟩ : ∃ wo : World, wo = wr := ⟨_, rfl⟩
          obtain ⟨Au, cu, rfl⟩ := hLe.slice
          have hsn := hSn
          by_cases hltt : t < P
          · have ht64 : (t : Int) ≤ 1024 := by omega
            have hlt2 : t < 2 ^ C := by have := HP.out; omega
            obtain ⟨nL, hnL⟩ : ∃ k, k = L.length := ⟨_, rfl⟩
            rw [← hnL] at hLe ⊢
            have HnL := hide hnL
            clear hnL
            go_upto_region 11 with fail
            go_loopw [8, 9] (fun v i wr => ∃ X : Nat, X ≤ C ∧ i = .int .i64 X ∧ Own wr wo.heap.size v (bitS X t) ∧ Below wo.heap.size wo wr) (fun v i _ => C - (intOf i).toNat)
            case atStart => exact ⟨0, Nat.zero_le _, rfl, by rw [bitS_nil]; exact Own.nil_ _ _, Below.refl _ _⟩
            case round =>
              obtain ⟨X, hX, rfl, hSet, hbi⟩ := hrel
              obtain ⟨Av, cv, rfl⟩ := hSet.slice
              have hle := bitS_le X t
              have hbr := Below_trans' hb hb.size hbi
              by_cases hlt : X < C
              · have hsr : (t : Int) / 2 ^ X = ((t / 2 ^ X : Nat) : Int) := by simp
                by_cases hbit : t / 2 ^ X % 2 = 1
                · have hn := hide (bitS_yes hbit)
                  obtain ⟨u', w', h41, hS2, hF⟩ := hSet.app1 (X : Int) (by unfold I64; omega) (by omega) hbi.size 25
                  have hb3 : Below wo.heap.size wo w' := Frame'.below hbi hF (fun b e => (hSet.own_lt e).1) hbi.size
                  generalize (bitS X t).length = nv at h41 hle ⊢
                  generalize t / 2 ^ X = u at hsr hbit
                  have hbu : ((u : Int) % 2 == 1) = true := by simp; omega
                  go_wp2_with (at_builtin; refine list_app rfl rfl rfl rfl h41 ?_)
                  clear h41
                  go_roundw
                  case rel => exact ⟨X + 1, by omega, by go_num, by rw [hn.out]; exact hS2, hb3⟩
                  case measure => simp [intOf] <;> omega
                · have hn := hide (bitS_no hbit)
                  have hbit0 : t / 2 ^ X % 2 = 0 := by omega
                  generalize (bitS X t).length = nv at hSet hle ⊢
                  generalize t / 2 ^ X = u at hsr hbit0
                  have hbu : ((u : Int) % 2 == 1) = false := by simp; omega
                  clear hbit
                  go_wp2
                  go_roundw
                  case rel => exact ⟨X + 1, by omega, by go_num, by rw [hn.out]; exact hSet, hbi⟩
                  case measure => simp [intOf] <;> omega
              · obtain rfl : C = X := by omega
                have hMr := hM1.below hbr hM1.lt
                have hSr := hSet.ints fun x hx => by have := mem_rangeI.1 ((bitS_sub C t).subset hx); omega
                have hzo := hb.size
                obtain ⟨nv, hnv⟩ : ∃ k, k = (bitS C t).length := ⟨_, rfl⟩
                rw [← hnv] at hSr hSet hle ⊢
                have Hnv := hide hnv
                clear hnv
                by_cases hz : nL = 0
                · have fz : ((nL : Int) == 0) = true := by simp [hz]
                  have hLz : L = [] := List.length_eq_zero_iff.1 (HnL.out.symm.trans hz)
                  clear hz
                  go_wp2
                  refine ldMatG rfl rfl hMr hs ?_
                  go_wp2_with fail
                  refine (rrules_any Cs m hC C hC10 Av nv cv (bitS C t) wr hSr).mono ?_
                  rintro e wv ⟨rfl, hbv⟩
                  cases hru : rulesB m C (bitS C t) with
                  | true =>
                    have hnx := hide (hsn.take ht1 hlt2 (.inl hLz) (rulesB_iff.1 hru))
                    clear hru
                    go_wp2
                    go_roundw
                    case rel => exact ⟨t + 1, by omega, by omega, by go_num, ⟨bitS C t, (hSet.below hbv).mono (by omega), hnx.out⟩, Below_trans' hbr hbr.size hbv⟩
                    case measure => simp [intOf] <;> omega
                  | false =>
                    have hnx := hide (hsn.skip (k := t) (.inr fun h => by rw [rulesB_iff.2 h] at hru; cases hru))
                    clear hru
                    go_wp2
                    go_roundw
                    case rel => exact ⟨t + 1, by omega, by omega, by go_num, ⟨L, (hLe.below hbi).below hbv, hnx.out⟩, Below_trans' hbr hbr.size hbv⟩
                    case measure => simp [intOf] <;> omega
                · have fz : ((nL : Int) == 0) = false := by simp; omega
                  by_cases hlv : nv < nL
                  · have hLl : (bitS C t).length < L.length := by rw [← HnL.out, ← Hnv.out]; exact hlv
                    go_wp2
                    refine ldMatG rfl rfl hMr hs ?_
                    go_wp2_with fail
                    refine (rrules_any Cs m hC C hC10 Av nv cv (bitS C t) wr hSr).mono ?_
                    rintro e wv ⟨rfl, hbv⟩
                    cases hru : rulesB m C (bitS C t) with
                    | true =>
                      have hnx := hide (hsn.take ht1 hlt2 (.inr hLl) (rulesB_iff.1 hru))
                      clear hru
                      go_wp2
                      go_roundw
                      case rel => exact ⟨t + 1, by omega, by omega, by go_num, ⟨bitS C t, (hSet.below hbv).mono (by omega), hnx.out⟩, Below_trans' hbr hbr.size hbv⟩
                      case measure => simp [intOf] <;> omega
                    | false =>
                      have hnx := hide (hsn.skip (k := t) (.inr fun h => by rw [rulesB_iff.2 h] at hru; cases hru))
                      clear hru
                      go_wp2
                      go_roundw
                      case rel => exact ⟨t + 1, by omega, by omega, by go_num, ⟨L, (hLe.below hbi).below hbv, hnx.out⟩, Below_trans' hbr hbr.size hbv⟩
                      case measure => simp [intOf] <;> omega
                  · have hnx := hide (hsn.skip (k := t) (.inl ⟨fun e => hz (by rw [HnL.out, e]; rfl), by rw [← HnL.out, ← Hnv.out]; exact hlv⟩))
                    clear hz
                    go_wp2
                    go_roundw
                    case rel => exact ⟨t + 1, by omega, by omega, by go_num, ⟨L, hLe.below hbi, hnx.out⟩, hbr⟩
                    case measure => simp [intOf] <;> omega
          · have hSm := hide (show Smith m C L from SeenS.smith (by rw [show 2 ^ C = t by have := HP.out; omega]; exact hsn) hC1)
            have hsv := hide (smithV_ok HR.out hSm.out)
            generalize L.length = nL at hLe ⊢
            go_wp2
            go_ret2
            exact ⟨_, by rw [hE.out]; rfl, by rw [hsv.out]; exact hLe.mono hb01.size, Below_trans' hb01 hb01.size hb⟩
end Go.Proofs.YtkhclcdmehjfkaaGreat
