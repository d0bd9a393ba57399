/-
  law13.walk: all simple paths on from where one stands.
-/
import Derived.Test.YtkhclcdmehjfkaaW13a
import Derived.Test.YtkhclcdmehjfkaaW11a
import Derived.Test.YtkhclcdmehjfkaaW15e
import Derived.Test.YtkhclcdmehjfkaaApp
import Derived.Test.YtkhclcdmehjfkaaSpecPs
namespace Go.Proofs.Ytkhclcdmehjfkaa
open Go.RowKit Go.Proofs Go.Shelf
attribute [local go_sem] cell?_more cell?_alloc_some cell?_setCell_far frozen?_alloc_some frozen?_more
attribute [local go_sem ↓] ldm_fold
attribute [local go_sem] run_LDM run_LDM_more run_LDM_drew
theorem Own.empty (w : World) (B : Nat) (hB : B ≤ w.heap.size) : Own (w.alloc (.cells #[] 3)) B (.slice (some ⟨w.heap.size, 0, none⟩) 0 0) [] := by
  have := World.ownsRow_lit (base := B) (e := 3) (size := 1) w #[] 0 hB (by unfold maxLen; omega) (by simp)
  unfold Own
  simpa using this
/-- One more. -/
theorem Own.snoc {w : World} {B : Nat} {u : Value} {xs : List Int} (h : Own w B u xs) (x : Int) (hx : I64 x) (hn : xs.length + 1 ≤ 1000000) (hB : B ≤ w.heap.size) (ty : TypeId) :
    ∃ u' w', (Builtin.append_ #[30, 30] ty #[u, .slice (some ⟨w.heap.size, 0, none⟩) 1 1]).run Try.prog (w.alloc (.cells #[.int .i64 x] 3)) = .ok u' w' ∧ Own w' B u' (xs ++ [x]) ∧ Frame' (fun b => u.ownBlock = some b) w w' := by
  have hb : Below w.heap.size w (w.alloc (.cells #[.int .i64 x] 3)) := below_allocN
  have h1 := h.below hb
  have hL : RInts (w.alloc (.cells #[.int .i64 x] 3)) (some ⟨w.heap.size, 0, none⟩) 1 1 [x] := ints_lit [x] (Has.new _ _ _) (by simp) (fun z hz => by rw [List.mem_singleton.1 hz]; exact hx)
  obtain ⟨u', w', k1, k2, k3, k4⟩ := run_appInts _ ty h1 hL (by simpa using hn) (by simp; omega)
  have hf : Frame' (fun b => u.ownBlock = some b) (w.alloc (.cells #[.int .i64 x] 3)) w' := (Frame'.of_grown k3).mono fun b _ e => e.symm
  exact ⟨u', w', k1, k2, (Frame'.of_below hb).trans hf⟩
theorem getD_set {b : List Int} {Y y : Nat} {v : Int} (hY : Y < b.length) : (b.set Y v).getD y 0 = if y = Y then v else b.getD y 0 := by
  by_cases e : y = Y
  · subst e; rw [if_pos rfl]; simp [List.getD, List.getElem?_set_self hY]
  · rw [if_neg e]; simp [List.getD, List.getElem?_set_ne (Ne.symm e)]
theorem margin_x {m : M} {a b : Nat} (ha : a < 10) (hb : b < 10) (h : rightS m 10 = true) : marginS m a b = m a b - m b a := by
  unfold marginS
  rw [if_pos ⟨inR_iff.2 ⟨by omega, by omega⟩, inR_iff.2 ⟨by omega, by omega⟩, h⟩]
  rfl
theorem right_to {m : M} {c : Int} (h : rightS m c = true) : rightS m 10 = true := by
  obtain ⟨h1, h2, h3⟩ := rightS_iff.1 h
  refine rightS_iff.2 ⟨by omega, by omega, fun x y hx hy => ?_⟩
  obtain ⟨a1, a2, a3⟩ := h3 x y hx hy
  exact ⟨a1, a2, fun ho => a3 (by unfold offP at *; omega)⟩
/-- What walk does from where a path stands. -/
def WalkP (D S : Array Value) (m sm : M) (C x0 bb k : Nat) : Prop :=
  ∀ (L : List Nat) (z : Nat) (T : Int) (Ap : Option Addr) (np cpp : Nat) (b : List Int) (B : Nat) (w : World), Way m C x0 L z T → C ≤ L.length + 1 + k → RInts w Ap np cpp (pathL x0 L) → (∀ c, fpS Ap np c → c ≠ bb) →
    Own w B (.slice (some ⟨bb, 0, none⟩) 10 10) b → b.length = 10 → UpT sm x0 b →
    Calls Try.prog 7 #[.agg D, .agg S, .int .i64 C, .slice Ap np cpp, .slice (some ⟨bb, 0, none⟩) 10 10] w fun e w' => e = .returned (.bool true) ∧
      ∃ b', Own w' B (.slice (some ⟨bb, 0, none⟩) 10 10) b' ∧ b'.length = 10 ∧ UpT sm x0 b' ∧ GeT b b' ∧ GoodT m x0 L z T C b' ∧ Frame' (fun c => c = bb) w w'

set_option maxRecDepth 100000 in
set_option maxHeartbeats 4000000 in
theorem walk_step (D S : Array Value) (m sm : M) (hD : Mat D m) (hS : Mat S sm) (C x0 bb : Nat) (hr : rightS m C = true) (hst : Str m sm) (k : Nat) (IH : ∀ k', k' < k → WalkP D S m sm C x0 bb k') : WalkP D S m sm C x0 bb k := by
  intro L z T Ap np cpp b B w hw hk hp hap hO0 hl0 hU0
  have hDs := hD.size
  have hSs := hS.size
  have hC10 : C ≤ 10 := by have := (rightS_iff.1 hr).2.1; omega
  have hr10 := hide (right_to hr)
  have Hr := hide hr
  have hB0 : Has ((w.alloc (.cells D 24)).alloc (.cells S 24)) w.heap.size 24 D := (Has.new _ _ _).alloc _
  have hC0 : Has ((w.alloc (.cells D 24)).alloc (.cells S 24)) (w.heap.size + 1) 24 S := Has.new2 _ _ _ _
  have hb0 : Below w.heap.size w ((w.alloc (.cells D 24)).alloc (.cells S 24)) := ((Below.refl _ _).alloc (Nat.le_refl _) _).alloc (by simp) _
  have hbb : bb < w.heap.size := (hO0.own_lt rfl).2
  obtain ⟨q, hq⟩ : ∃ q, q = L.length := ⟨_, rfl⟩
  obtain rfl : np = q + 1 := by have := hp.len; rw [length_pathL] at this; omega
  have hqC : q + 1 ≤ C := by
    have := hw.nd.length_le_of_subset (l₂ := List.range C) fun x hx => List.mem_range.2 (hw.lt x hx)
    rw [List.length_range, List.length_cons] at this; omega
  have hz := hw.zlt
  have hlast := hide (show (pathL x0 L)[q]? = some (z : Int) by rw [hq]; exact hw.last)
  have hfst : Hid ((pathL x0 L)[0]? = some (x0 : Int)) := rfl
  have hx0 := hw.lt x0 List.mem_cons_self
  have Hq := hide hq
  have Hw := hide hw
  have Hk := hide hk
  clear hr hq hw hk
  go_enter Try.func7, Try.ntmps7
  go_upto_region 1 with fail
  generalize hW0 : World.alloc (World.alloc w _) _ = W0 at hB0 hC0 hb0 ⊢
  have hz0 : w.heap.size + 2 = W0.heap.size := by rw [← hW0]; simp
  clear hW0
  obtain ⟨be, oe, ve, ee, hcx, _, hatx, _⟩ := (hp.below hb0).step (show q < q + 1 by omega)
  obtain rfl : (z : Int) = ve := by have e := hlast.out.symm.trans hatx.out; simpa using e
  obtain ⟨b2, o2, v2, e2, hcy, _, haty, _⟩ := (hp.below hb0).step (show 0 < q + 1 by omega)
  obtain rfl : (x0 : Int) = v2 := by have e := hfst.out.symm.trans haty.out; simpa using e
  subst ee
  cases e2
  simp only [Nat.add_zero] at hcy
  clear hatx haty
  have hbn : be ≠ bb := hap be ⟨by omega, _, rfl⟩
  have hx1 : IntKind.i64.wrap (((q + 1 : Nat) : Int) - 1) = (q : Int) := by rw [IntWalk.i64_in _ (by omega)]; omega
  have hx2 : ((q + 1 : Nat) : Int) - 1 = (q : Int) := by omega
  have hb10 : q < q + 1 := by omega
  go_upto_region 3 with fail
  go_loopw [12] (fun i wr => ∃ (Y : Nat) (b1 : List Int), Y ≤ C ∧ i = .int .i64 Y ∧ Own wr B (.slice (some ⟨bb, 0, none⟩) 10 10) b1 ∧ b1.length = 10 ∧ UpT sm x0 b1 ∧ GeT b b1 ∧ GoodT m x0 L z T Y b1 ∧ Frame' (fun c => c = bb) W0 wr) (fun i _ => C - (intOf i).toNat)
  case atStart => exact ⟨0, b, Nat.zero_le _, rfl, hO0.below hb0, hl0, hU0, GeT.refl b, GoodT.zero _ _ _ _ _ _, Frame'.refl _ _⟩
  case round =>
    obtain ⟨Y, b1, hY, rfl, hO, hL1, hU, hG, hGd, hF⟩ := hrel
    have hWr : W0.heap.size ≤ wr.heap.size := hF.size
    have HL1 := hide hL1
    clear hL1
    have hL1 := HL1.out
    have HU := hide hU
    have HG := hide hG
    have HGd := hide hGd
    clear hU hG hGd
    have hU := HU.out
    have hG := HG.out
    have hGd := HGd.out
    by_cases hYC : Y < C
    · have hpr : RInts wr (some ⟨be, oe, none⟩) (q + 1) cpp (pathL x0 L) := (hp.below hb0).frame hF (fun _ => ⟨be, oe, rfl, hbn⟩)
      have hBr := hF.has hB0 (by omega)
      have hCr := hF.has hC0 (by omega)
      have gd := good_of hBr hDs
      have gc := cells_eq hBr
      have hBe := fun W => beats_any D m hD z Y W
      rw [margin_x (by omega) (by omega) hr10.out] at hBe
      have Hbe := hide hBe
      clear hBe
      clear hU hG hGd hL1
      go_wp2_with fail
      refine (in_any (some ⟨be, oe, none⟩) (q + 1) cpp (pathL x0 L) Y wr hpr).mono ?_
      rintro e w' ⟨rfl, hw'⟩
      cases hw'
      cases hin : inL (pathL x0 L) (Y : Int) with
      | true =>
        have hmem := mem_pathL.1 (inL_iff.1 hin)
        clear hin Hbe gd gc
        have hL1 := HL1.out
        have hU := HU.out
        have hG := HG.out
        have hnx := HGd.out.skip (.inl hmem)
        have Hnx := hide hnx
        clear hnx hL1 hU hG hmem
        go_wp2
        go_roundw
        case rel => exact ⟨Y + 1, b1, by omega, by go_num, hO, HL1.out, HU.out, HG.out, Hnx.out, hF⟩
        case measure => simp [intOf] <;> omega
      | false =>
        have hnm : Hid (Y ∉ x0 :: L) := fun h => by have := inL_iff.2 (mem_pathL.2 h); rw [hin] at this; cases this
        clear hin
        go_wp2_with fail
        refine (Hbe.out _).mono ?_
        rintro e w1 ⟨rfl, hb1⟩
        clear Hbe gd gc
        by_cases hbt : m Y z < m z Y
        · have f1 : decide (0 < m z Y - m Y z) = true := by simp; omega
          rw [f1]
          clear f1
          have hlk : lnkS m z Y = m z Y := by unfold lnkS; rw [if_pos hbt]
          have hm1 := right_bd Hr.out z Y (by omega) (by omega)
          have hm2 := right_bd Hr.out Y z (by omega) (by omega)
          have hw2 := Hw.out.step hC10 (right_bd Hr.out) hYC hnm.out (by rw [hlk]; omega)
          obtain ⟨T', hT'⟩ : ∃ T', min T (lnkS m z Y) = T' := ⟨_, rfl⟩
          rw [hT'] at hw2
          have hstr := hide (hw2.strength hr10.out (by simp))
          have hup := hw2.upper hst hC10 (by simp)
          have ht1 := hw2.one
          have ht2 := hw2.top
          have hlen2 : q + 2 ≤ C := by
            have := hw2.nd.length_le_of_subset (l₂ := List.range C) fun x hx => List.mem_range.2 (hw2.lt x hx)
            rw [List.length_range, List.length_cons, List.length_append, ← Hq.out] at this; simp at this; omega
          have hk1 : 1 ≤ k := by have := Hk.out; have := Hq.out; omega
          have hY10 : Y < 10 := by omega
          have hp1 := hpr.below hb1
          have hF1 := hF.trans (Frame'.of_below hb1)
          have hba : Below w1.heap.size w1 (w1.alloc (.cells #[] 3)) := below_allocN
          have hlp : (pathL x0 L).length = q + 1 := by rw [length_pathL, ← Hq.out]
          obtain ⟨vo, zz, h41, h42, h43, h44⟩ := run_appInts (w1.alloc (.cells #[] 3)) 30 (Own.empty w1 w1.heap.size (Nat.le_refl _)) (hp1.below hba) (by simp; omega) hba.size
          rw [List.nil_append] at h42
          have hb2 : Below w1.heap.size w1 zz := hba.grown h43 hba.size (fun j hj => by cases hj; exact Nat.le_refl _)
          obtain ⟨u', w6, h51, h52, h53⟩ := h42.snoc (Y : Int) (by unfold I64; omega) (by rw [hlp]; omega) hb2.size 30
          have hb6 : Below w1.heap.size w1 w6 := Frame'.below hb2 h53 (fun b e => (h42.own_lt e).1) hb2.size
          rw [← pathL_snoc] at h52
          obtain ⟨A6, c6, rfl⟩ := h52.slice
          obtain ⟨Ao, co, rfl⟩ := h42.slice
          have hln : (pathL x0 (L ++ [Y])).length = q + 2 := by rw [length_pathL, List.length_append, ← Hq.out]; rfl
          rw [hln] at h51 h52
          rw [hlp] at h41 h51
          have hR6 := h52.ints (fun x hx => by obtain ⟨a, ha, rfl⟩ := List.mem_map.1 hx; have := hw2.lt a ha; omega)
          have hap6 := hide (fun c (hc : fpS A6 (q + 2) c) => (h52.own_lt (h52.fps hc)).1)
          have hF6 := hF1.trans (Frame'.of_below hb6)
          have hBs6 := hF6.has hB0 (by omega)
          have hWs1 : W0.heap.size ≤ w1.heap.size := hF1.size
          have Hw2 := hide hw2
          have HT' := hide hT'
          clear hw2 hT' hlk hnm h43 h44 h53 hm1 hm2 hlp hln hba
          go_upto_region 7 with (at_builtin; first | refine list_app rfl rfl rfl rfl h41 ?_ | refine list_app rfl rfl rfl rfl h51 ?_)
          clear h41 h51
          have gd := good_of hBs6 hDs
          have gc := cells_eq hBs6
          go_wp2_with fail
          refine (pstr_any D m hD A6 (q + 2) c6 _ w6 hR6).mono ?_
          rintro e w7 ⟨rfl, hb7⟩
          rw [hstr.out]
          clear gd gc
          have hF7 := hF6.trans (Frame'.of_below hb7)
          have hB7 := hF7.has hB0 (by omega)
          have hC7 := hF7.has hC0 (by omega)
          have hR7 := hR6.below hb7
          have hO7 := ((hO.below hb1).below hb6).below hb7
          have hpr7 : RInts w7 (some ⟨be, oe, none⟩) (q + 1) cpp (pathL x0 L) := (hp.below hb0).frame hF7 (fun _ => ⟨be, oe, rfl, hbn⟩)
          obtain ⟨b3, o3, v3, e3, hcz, _, hatz, _⟩ := hpr7.step (show 0 < q + 1 by omega)
          obtain rfl : (x0 : Int) = v3 := by have e := hfst.out.symm.trans hatz.out; simpa using e
          cases e3
          simp only [Nat.add_zero] at hcz
          clear hatz
          have bx : (x0 : Int) < 10 := by omega
          have by_ : (Y : Int) < 10 := by omega
          have hcs := (hC7.cell (x0 * 10 + Y)).trans (hS.at_ x0 Y (by omega) (by omega))
          have hsb := hst.bd x0 Y (by omega) (by omega)
          obtain ⟨v, hv, hcv, hfv⟩ := hO7.at HL1.out hY10
          have hvu := HU.out Y hY10
          have hvd : b1.getD Y 0 = v := by simp [List.getD, hv.out]
          rw [hvd] at hvu
          have Hvd := hide hvd
          clear hvd hv
          have fT : ¬ T' < 1 := by omega
          have hO8 := hO7.set HL1.out Y (max v T')
          have hF8 : Frame' (fun c => c = bb) w7 (w7.setCell ⟨bb, Y, none⟩ (.int .i64 (max v T'))) := (Frame'.refl (fun c => c = bb) w7).setCell (p := ⟨bb, Y, none⟩) (.inl rfl) _
          have hsv := hide (show sm x0 Y = sm x0 Y from rfl)
          generalize hg : sm x0 Y = sv at hcs hup hsb hvu
          have Hg := hide hg
          clear hg
          go_upto_region 11 with fail
          generalize World.setCell w7 _ _ = w8 at hO8 hF8 ⊢
          clear hcs hcv hfv hcz
          have hF78 := hF7.trans hF8
          have hB8 := hF78.has hB0 (by omega)
          have hC8 := hF78.has hC0 (by omega)
          have hR8 : RInts w8 A6 (q + 2) c6 (pathL x0 (L ++ [Y])) := hR7.frame hF8 (fun _ => by
            obtain ⟨b', off', e', _⟩ := hR7.2.2.2.2 (by omega)
            exact ⟨b', off', e', fun h => by have := hap6.out b' ⟨by omega, off', e'⟩; omega⟩)
          have gd1 := good_of hB8 hDs
          have gc1 := cells_eq hB8
          have gd2 := good_of hC8 hSs
          have gc2 := cells_eq hC8
          have hset := hide (show GeT b1 (b1.set Y (max v T')) from fun y => by
            rw [getD_set (by rw [HL1.out]; omega)]
            split
            · rename_i e; subst e; rw [Hvd.out]; omega
            · exact Int.le_refl _)
          have hU8 := hide (show UpT sm x0 (b1.set Y (max v T')) from fun y hy => by
            rw [getD_set (by rw [HL1.out]; omega)]
            split
            · rename_i e; subst e; rw [Hg.out]; omega
            · exact HU.out y hy)
          have hval := hide (show (b1.set Y (max v T')).getD Y 0 = max v T' by rw [getD_set (by rw [HL1.out]; omega), if_pos rfl])
          have hl8 := hide (show (b1.set Y (max v T')).length = 10 by rw [List.length_set]; exact HL1.out)
          generalize b1.set Y (max v T') = b8 at hO8 hset hU8 hval hl8
          go_wp2_with fail
          refine (IH (k - 1) (by omega) (L ++ [Y]) Y T' A6 (q + 2) c6 b8 B w8 Hw2.out (by have := Hk.out; have := Hq.out; rw [List.length_append]; simp; omega) hR8 (fun c hc e => by have := hap6.out c hc; omega) hO8 hl8.out hU8.out).mono ?_
          rintro e w9 ⟨rfl, b9, hO9, hl9, hU9, hG9, hGd9, hF9⟩
          clear gd1 gc1 gd2 gc2
          have hge := HG.out.trans (hset.out.trans hG9)
          have htk := HGd.out.take (b' := b9) (hset.out.trans hG9) Hr.out (by rw [HT'.out]; have := hG9 Y; rw [hval.out] at this; omega) (by rw [HT'.out]; exact hGd9)
          have hF89 := hF78.trans hF9
          have HH := hide (⟨hl9, hU9, hge, htk⟩ : b9.length = 10 ∧ UpT sm x0 b9 ∧ GeT b b9 ∧ GoodT m x0 L z T (Y + 1) b9)
          clear hl9 hU9 hge htk hG9 hGd9
          go_wp2
          go_roundw
          case rel => exact ⟨Y + 1, b9, by omega, by go_num, hO9, HH.out.1, HH.out.2.1, HH.out.2.2.1, HH.out.2.2.2, hF89⟩
          case measure => simp [intOf] <;> omega
        · have f1 : decide (0 < m z Y - m Y z) = false := by simp; omega
          rw [f1]
          have hnx := HGd.out.skip (Y := Y) (.inr (by unfold lnkS; rw [if_neg hbt]; omega))
          have Hnx := hide hnx
          clear hnx f1 hbt
          go_wp2
          go_roundw
          case rel => exact ⟨Y + 1, b1, by omega, by go_num, hO.below hb1, HL1.out, HU.out, HG.out, Hnx.out, hF.trans (Frame'.of_below hb1)⟩
          case measure => simp [intOf] <;> omega
    · obtain rfl : C = Y := by omega
      have hF2 : Frame' (fun c => c = bb) w wr := (Frame'.of_below hb0).trans hF
      have HR := hide (⟨hL1, hU, hG, hGd⟩ : b1.length = 10 ∧ UpT sm x0 b1 ∧ GeT b b1 ∧ GoodT m x0 L z T C b1)
      clear hU hG hGd hL1
      go_wp2
      go_ret
      exact ⟨rfl, b1, hO, HR.out.1, HR.out.2.1, HR.out.2.2.1, HR.out.2.2.2, hF2⟩
end Go.Proofs.Ytkhclcdmehjfkaa
