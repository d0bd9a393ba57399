/-
  The reference's paths: link, Strength; who comes first in the lot.
  The reference's Strengths.
-/
import Derived.Test.YtkhclcdmehjfkaaGreatW13a
import Derived.Test.YtkhclcdmehjfkaaGreatMat
import Derived.Test.YtkhclcdmehjfkaaGreatW11a
import Derived.Test.YtkhclcdmehjfkaaGreatSpecPa
namespace Go.Proofs.YtkhclcdmehjfkaaGreat
open Go.RowKit Go.Proofs
attribute [local go_sem] cell?_more cell?_alloc_some cell?_setCell_far frozen?_alloc_some frozen?_more
attribute [local go_sem ↓] ldm_fold
attribute [local go_sem] run_LDM run_LDM_more run_LDM_drew
set_option maxRecDepth 100000 in
set_option maxHeartbeats 1000000 in
theorem rlink_any (C : Array Value) (m : M) (hC : Mat C m) (x y : Int) (w : World) :
    Calls Tryz.prog 60 #[.agg C, .int .i64 x, .int .i64 y] w fun e w' => e = .returned (.int .i64 (lnkI m x y)) ∧ Below w.heap.size w w' := by
  have hs := hC.size
  have hA : Has (w.alloc (.cells C 24)) w.heap.size 24 C := Has.new _ _ _
  have hb0 : Below w.heap.size w (w.alloc (.cells C 24)) := (Below.refl _ _).alloc (Nat.le_refl _) _
  by_cases hin : 0 ≤ x ∧ x < 10 ∧ 0 ≤ y ∧ y < 10
  · obtain ⟨X, rfl⟩ : ∃ X : Nat, x = X := ⟨x.toNat, by omega⟩
    obtain ⟨Y, rfl⟩ : ∃ Y : Nat, y = Y := ⟨y.toNat, by omega⟩
    have b1 : (X : Int) < 10 := by omega
    have b2 : (Y : Int) < 10 := by omega
    have hX : X < 10 := by omega
    have hY : Y < 10 := by omega
    have d1 : decide ((X : Int) < 0) = false := by simp
    have d2 : decide ((Y : Int) < 0) = false := by simp
    have d3 : decide (10 ≤ (X : Int)) = false := by simp; omega
    have d4 : decide (10 ≤ (Y : Int)) = false := by simp; omega
    have hlk : Hid (lnkI m X Y = if m Y X < m X Y then m X Y else 0) := by unfold Hid lnkI lnkS; rw [if_pos hin, Int.toNat_natCast, Int.toNat_natCast]
    have hcv := (hA.cell (X * 10 + Y)).trans (hC.at_ X Y hX hY)
    have hcu := (hA.cell (Y * 10 + X)).trans (hC.at_ Y X hY hX)
    generalize m X Y = v at hcv hlk
    generalize m Y X = u at hcu hlk
    clear hin
    by_cases hgt : u < v
    · have hl : Hid (lnkI m X Y = v) := by unfold Hid; rw [hlk.out, if_pos hgt]
      have hle : ¬ v ≤ u := by omega
      have hle2 : decide (v ≤ u) = false := by simp; omega
      clear hlk
      go_enter Tryz.func60, Tryz.ntmps60
      go_upto_region 1 with fail
      generalize World.alloc w _ = W at hA hb0 hcv hcu ⊢
      refine wp_region_more (by kernel_rfl) (by kernel_rfl) ?_
      repeat (go_big_quiet_step (fail))
      refine wpQuiet_nil ?_
      rintro w1 ⟨qw1, hww1⟩
      have hbw1 := below_of_eq hww1
      clear hww1 qw1
      have hcv' := keep_cell hbw1 hcv
      clear hcv hcu
      go_wp2
      go_ret
      exact ⟨ret_i (by rw [hl.out]), Below_trans' hb0 hb0.size hbw1⟩
    · have hl : Hid (lnkI m X Y = 0) := by unfold Hid; rw [hlk.out, if_neg hgt]
      have hle : v ≤ u := by omega
      have hle2 : decide (v ≤ u) = true := by simp; omega
      clear hlk
      go_enter Tryz.func60, Tryz.ntmps60
      go_upto_region 1 with fail
      generalize World.alloc w _ = W at hA hb0 hcv hcu ⊢
      refine wp_region_more (by kernel_rfl) (by kernel_rfl) ?_
      repeat (go_big_quiet_step (fail))
      refine wpQuiet_nil ?_
      rintro w1 ⟨qw1, hww1⟩
      have hbw1 := below_of_eq hww1
      clear hww1 qw1
      have hcv' := keep_cell hbw1 hcv
      clear hcv hcu
      go_wp2
      go_ret
      exact ⟨ret_i (by rw [hl.out]), Below_trans' hb0 hb0.size hbw1⟩
  · have hl : Hid (lnkI m x y = 0) := by unfold Hid lnkI; rw [if_neg hin]
    by_cases c1 : x < 0
    · clear hin
      go_enter Tryz.func60, Tryz.ntmps60
      go_upto_region 1 with fail
      generalize World.alloc w _ = W at hA hb0 ⊢
      refine wp_region_more (by kernel_rfl) (by kernel_rfl) ?_
      repeat (go_big_quiet_step (fail))
      refine wpQuiet_nil ?_
      rintro w1 ⟨qw1, hww1⟩
      have hbw1 := below_of_eq hww1
      clear hww1 qw1
      go_wp2
      go_ret
      exact ⟨ret_i (by rw [hl.out]), Below_trans' hb0 hb0.size hbw1⟩
    by_cases c2 : y < 0
    · clear hin
      go_enter Tryz.func60, Tryz.ntmps60
      go_upto_region 1 with fail
      generalize World.alloc w _ = W at hA hb0 ⊢
      refine wp_region_more (by kernel_rfl) (by kernel_rfl) ?_
      repeat (go_big_quiet_step (fail))
      refine wpQuiet_nil ?_
      rintro w1 ⟨qw1, hww1⟩
      have hbw1 := below_of_eq hww1
      clear hww1 qw1
      go_wp2
      go_ret
      exact ⟨ret_i (by rw [hl.out]), Below_trans' hb0 hb0.size hbw1⟩
    by_cases c3 : 10 ≤ x
    · clear hin
      go_enter Tryz.func60, Tryz.ntmps60
      go_upto_region 1 with fail
      generalize World.alloc w _ = W at hA hb0 ⊢
      refine wp_region_more (by kernel_rfl) (by kernel_rfl) ?_
      repeat (go_big_quiet_step (fail))
      refine wpQuiet_nil ?_
      rintro w1 ⟨qw1, hww1⟩
      have hbw1 := below_of_eq hww1
      clear hww1 qw1
      go_wp2
      go_ret
      exact ⟨ret_i (by rw [hl.out]), Below_trans' hb0 hb0.size hbw1⟩
    have c4 : 10 ≤ y := by omega
    clear hin
    go_enter Tryz.func60, Tryz.ntmps60
    go_upto_region 1 with fail
    generalize World.alloc w _ = W at hA hb0 ⊢
    refine wp_region_more (by kernel_rfl) (by kernel_rfl) ?_
    repeat (go_big_quiet_step (fail))
    refine wpQuiet_nil ?_
    rintro w1 ⟨qw1, hww1⟩
    have hbw1 := below_of_eq hww1
    clear hww1 qw1
    go_wp2
    go_ret
    exact ⟨ret_i (by rw [hl.out]), Below_trans' hb0 hb0.size hbw1⟩

theorem getD_pt {p : List Int} {k : Nat} {v : Int} (h : p[k]? = some v) : p.getD k 0 = v := by simp [List.getD, h]
set_option maxRecDepth 100000 in
set_option maxHeartbeats 2000000 in
theorem rstr_any (C : Array Value) (m : M) (hC : Mat C m) (A : Option Addr) (n c : Nat) (p : List Int) (w : World) (h : RInts w A n c p) :
    Calls Tryz.prog 23 #[.agg C, .slice A n c] w fun e w' => e = .returned (.int .i64 (strP m p)) ∧ Below w.heap.size w w' := by
  have hs := hC.size
  have hn := h.le
  have hlen := hide h.len
  have hA : Has (w.alloc (.cells C 24)) w.heap.size 24 C := Has.new _ _ _
  have hb0 : Below w.heap.size w (w.alloc (.cells C 24)) := (Below.refl _ _).alloc (Nat.le_refl _) _
  cases hr : rightS m 10 with
  | false =>
    have hl : Hid (strP m p = 0) := by unfold Hid strP; rw [if_neg (by rw [hr]; simp)]
    go_enter Tryz.func23, Tryz.ntmps23
    go_upto_region 1 with fail
    generalize World.alloc w _ = W at hA hb0 ⊢
    go_wp2_with (refine ldMat rfl rfl rfl hA hs ?_)
    refine (rright_any C m hC 10 W).mono ?_
    rintro e w1 ⟨rfl, hb1⟩
    have hb01 := Below_trans' hb0 hb0.size hb1
    rw [hr]
    clear hr
    go_wp2
    go_ret
    exact ⟨ret_i (by rw [hl.out]), hb01⟩
  | true =>
    have Hr := hide hr
    have Hb := hide (right_bd hr)
    by_cases h2 : n < 2
    · have hl : Hid (strP m p = 0) := by unfold Hid strP; rw [if_neg (by rw [hlen.out]; omega)]
      go_enter Tryz.func23, Tryz.ntmps23
      go_upto_region 1 with fail
      generalize World.alloc w _ = W at hA hb0 ⊢
      go_wp2_with (refine ldMat rfl rfl rfl hA hs ?_)
      refine (rright_any C m hC 10 W).mono ?_
      rintro e w1 ⟨rfl, hb1⟩
      have hb01 := Below_trans' hb0 hb0.size hb1
      rw [hr]
      clear hr
      go_wp2
      go_ret
      exact ⟨ret_i (by rw [hl.out]), hb01⟩
    · have hl : Hid (strP m p = minT m p n) := by unfold Hid strP; rw [if_pos ⟨hr, by rw [hlen.out]; omega⟩, hlen.out]
      obtain ⟨b0, o0, u0, rfl, hk0, _, hat0, _⟩ := h.step (show 0 < n by omega)
      obtain ⟨b1, o1, u1, e1, hk1, _, hat1, _⟩ := h.step (show 1 < n by omega)
      cases e1
      simp only [Nat.add_zero] at hk0
      have hm1 : 0 < n := by omega
      have hm2 : 1 < n := by omega
      go_enter Tryz.func23, Tryz.ntmps23
      go_upto_region 1 with fail
      generalize World.alloc w _ = W at hA hb0 ⊢
      go_wp2_with (refine ldMat rfl rfl rfl hA hs ?_)
      refine (rright_any C m hC 10 W).mono ?_
      rintro e w1 ⟨rfl, hb1⟩
      have hb01 := Below_trans' hb0 hb0.size hb1
      rw [hr]
      clear hr
      have hk0' := keep_cell hb01 hk0
      have hk1' := keep_cell hb01 hk1
      have hA1 := hA.below hb1 hA.lt
      have gd := good_of hA1 hs
      have gc := cells_eq hA1
      go_upto_region 3 with fail
      refine wp_region_more (by kernel_rfl) (by kernel_rfl) ?_
      repeat (go_big_quiet_step (exact more_of (rlink_any C m hC u0 u1 _)))
      refine wpQuiet_nil ?_
      rintro w2 ⟨qw2, hww2⟩
      have hbw2 := below_of_eq hww2
      clear hww2 qw2
      have hbd := lnkI_bd Hb.out u0 u1
      have hle1 : minT m p n ≤ lnkI m (p.getD 0 0) (p.getD 1 0) := minT_le (k := 1) (by omega) hm2
      rw [getD_pt hat0.out, getD_pt hat1.out] at hle1
      have Hle1 := hide hle1
      clear hk0 hk1 hk0' hk1' gd gc hat0 hat1 hle1
      have hA2 := hA1.below hbw2 hA1.lt
      have hbw := Below_trans' hb01 hb01.size hbw2
      generalize hL : lnkI m u0 u1 = L at *
      clear hL
      go_wp2
      go_loopw [5, 6] (fun v i wr => ∃ k : Nat, 1 ≤ k ∧ k ≤ n ∧ i = .int .i64 k ∧ v = .int .i64 (min L (minT m p k)) ∧ Below w2.heap.size w2 wr) (fun v i _ => n - (intOf i).toNat)
      case atStart => exact ⟨1, by omega, by omega, rfl, congrArg (Value.int .i64) (by rw [minT_one]; omega), Below.refl _ _⟩
      case round =>
        obtain ⟨k, hk1, hk, rfl, rfl, hb⟩ := hrel
        have hbd2 := minT_bd Hb.out p k
        by_cases hlt : k < n
        · obtain ⟨j, rfl⟩ : ∃ j, k = j + 1 := ⟨k - 1, by omega⟩
          have hbwr := Below_trans' hbw hbw.size hb
          obtain ⟨ba, oa, ua, ea, hka, _, hata, _⟩ := (h.below hbwr).step (show j < n by omega)
          obtain ⟨bc, oc, uc, ec, hkc, _, hatc, _⟩ := (h.below hbwr).step hlt
          cases ea
          cases ec
          have hAr := hA2.below hb hA2.lt
          have gd := good_of hAr hs
          have gc := cells_eq hAr
          have hsu := hide (minT_succ m p (show 0 < j + 1 by omega))
          have hlb := lnkI_bd Hb.out ua uc
          have ej : ((j + 1 : Nat) : Int) - 1 = (j : Int) := by omega
          have hga := hide (getD_pt hata.out)
          have hgc := hide (getD_pt hatc.out)
          clear hata hatc
          generalize minT m p (j + 1) = T at *
          go_upto_region 7 with fail
          refine wp_region_more (by kernel_rfl) (by kernel_rfl) ?_
          repeat (go_big_quiet_step (exact more_of (rlink_any C m hC ua uc _)))
          refine wpQuiet_nil ?_
          rintro w3 ⟨qw3, hww3⟩
          have hbw3 := below_of_eq hww3
          clear hww3 qw3
          have hb3 := Below_trans' hb hb.size hbw3
          go_wp2
          go_roundw
          case rel => exact ⟨j + 1 + 1, by omega, by omega, by go_num, congrArg (Value.int .i64) (by rw [hsu.out, Nat.add_sub_cancel, hga.out, hgc.out]; omega), hb3⟩
          case measure => simp [intOf] <;> omega
        · obtain rfl : k = n := by omega
          go_wp2
          go_ret
          exact ⟨ret_i (by rw [hl.out]; have := Hle1.out; omega), Below_trans' hbw hbw.size hb⟩

/-- The first in the lot, by the reference. -/
theorem frst_step {lot among : List Int} {k : Nat} {v : Int} (h : lot[k]? = some v) (hn : lot.take k |>.find? (inL among) |>.isNone) : (lot.take (k + 1)).find? (inL among) = if inL among v = true then some v else none := by
  rw [List.take_add_one, h, List.find?_append]
  rw [Option.isNone_iff_eq_none.1 hn]
  cases hv : inL among v <;> simp [hv]
theorem frst_found {lot among : List Int} {k : Nat} {v : Int} (h : (lot.take k).find? (inL among) = some v) : lot.find? (inL among) = some v := by
  rw [← List.take_append_drop k lot, List.find?_append, h]; rfl
theorem rfirst_any (A : Option Addr) (n c : Nat) (lot : List Int) (A' : Option Addr) (n' c' : Nat) (among : List Int) (w : World) (h : RInts w A n c lot) (h' : RInts w A' n' c' among) :
    Calls Tryz.prog 30 #[.slice A n c, .slice A' n' c'] w fun e w' => e = .returned (.int .i64 (frstS lot among)) ∧ w = w' := by
  have hn := h.le
  have hl := hide h.len
  go_enter Tryz.func30, Tryz.ntmps30
  go_wp2
  go_loop [5] (fun i => ∃ k : Nat, k ≤ n ∧ i = .int .i64 (k : Int) ∧ Hid (((lot.take k).find? (inL among)).isNone = true)) (fun i => n - (intOf i).toNat)
  case atStart => exact ⟨0, Nat.zero_le _, rfl, by unfold Hid; simp⟩
  case round =>
    obtain ⟨k, hk, rfl, hq⟩ := hrel
    by_cases hlt : k < n
    · obtain ⟨b, off, v, rfl, hc, hd, hat, _⟩ := h.step hlt
      have hs := hide (frst_step hat.out hq.out)
      have hcall := in_any A' n' c' among v w h'
      clear hat hd
      cases hv : inL among v with
      | true =>
        rw [hv] at hcall
        have hf : Hid (frstS lot among = v) := by unfold Hid frstS; rw [frst_found (hs.out.trans (if_pos hv))]; rfl
        clear hv
        go_wp2_with fail
        refine hcall.mono ?_
        rintro e w' ⟨rfl, rfl⟩
        go_wp2
        go_ret
        exact ⟨ret_i (by rw [hf.out]), rfl⟩
      | false =>
        rw [hv] at hcall
        have hf : Hid (((lot.take (k + 1)).find? (inL among)).isNone = true) := by unfold Hid; rw [hs.out, if_neg (by rw [hv]; simp)]; rfl
        clear hv
        go_wp2_with fail
        refine hcall.mono ?_
        rintro e w' ⟨rfl, rfl⟩
        go_wp2
        go_round
        case rel => exact ⟨k + 1, by omega, by go_num, hf⟩
        case measure => simp [intOf] <;> omega
    · have e : k = n := by omega
      have hf : Hid (frstS lot among = 0) := by
        have h1 := Option.isNone_iff_eq_none.1 hq.out
        rw [List.take_of_length_le (by rw [hl.out]; omega)] at h1
        unfold Hid frstS; rw [h1]; rfl
      clear e
      go_wp2
      go_ret
      exact ⟨ret_i (by rw [hf.out]), rfl⟩
end Go.Proofs.YtkhclcdmehjfkaaGreat

namespace Go.Proofs.YtkhclcdmehjfkaaGreat
open Go.RowKit Go.Proofs
attribute [local go_sem] cell?_more cell?_alloc_some cell?_setCell_far frozen?_alloc_some frozen?_more
attribute [local go_sem ↓] ldm_fold
attribute [local go_sem] run_LDM run_LDM_more run_LDM_drew
/-- The next matrix as it is being made. -/
def nxT (m s : M) (K X Y : Nat) : M := fun a b => if a < K ∧ b < K ∧ (a < X ∨ (a = X ∧ b < Y)) then refK m s K a b else s a b
def nxZ (m s : M) (K X Y Z : Nat) : M := fun a b => if a = X ∧ b = Y then refK m s Z X Y else nxT m s K X Y a b
theorem nxT_zero (m s : M) (K a b : Nat) : s a b = nxT m s K 0 0 a b := by unfold nxT; rw [if_neg (by omega)]
theorem refK_diag (m s : M) (a : Nat) : ∀ k, refK m s k a a = s a a
  | 0 => by unfold refK; rw [if_pos rfl]
  | k + 1 => by unfold refK; rw [if_pos rfl]
theorem nxT_here (m s : M) (K X Y : Nat) : nxT m s K X Y X Y = s X Y := by unfold nxT; rw [if_neg (by omega)]
theorem nxT_skip {m s : M} {K X Y : Nat} (h : X = Y) (a b : Nat) : nxT m s K X Y a b = nxT m s K X (Y + 1) a b := by
  subst h
  unfold nxT
  by_cases e : a = X ∧ b = X
  · obtain ⟨rfl, rfl⟩ := e
    rw [if_neg (by omega)]
    split
    · rw [refK_diag]
    · rfl
  · by_cases e2 : a < K ∧ b < K ∧ (a < X ∨ (a = X ∧ b < X))
    · rw [if_pos e2, if_pos (by omega)]
    · rw [if_neg e2, if_neg (by omega)]
theorem nxZ_here (m s : M) (K X Y Z : Nat) : nxZ m s K X Y Z X Y = refK m s Z X Y := by unfold nxZ; rw [if_pos ⟨rfl, rfl⟩]
theorem nxZ_put {m s : M} {K X Y Z : Nat} (a b : Nat) : (if a = X ∧ b = Y then refK m s (Z + 1) X Y else nxZ m s K X Y Z a b) = nxZ m s K X Y (Z + 1) a b := by
  unfold nxZ
  by_cases e : a = X ∧ b = Y
  · rw [if_pos e, if_pos e]
  · rw [if_neg e, if_neg e, if_neg e]
theorem nxZ_end {m s : M} {K X Y : Nat} (hX : X < K) (hY : Y < K) (a b : Nat) : nxZ m s K X Y K a b = nxT m s K X (Y + 1) a b := by
  unfold nxZ nxT
  by_cases e : a = X ∧ b = Y
  · obtain ⟨rfl, rfl⟩ := e
    rw [if_pos ⟨rfl, rfl⟩, if_pos (by omega)]
  · rw [if_neg e]
    by_cases e2 : a < K ∧ b < K ∧ (a < X ∨ (a = X ∧ b < Y))
    · rw [if_pos e2, if_pos (by omega)]
    · rw [if_neg e2, if_neg (by omega)]
theorem nxT_row {m s : M} {K X : Nat} (a b : Nat) : nxT m s K X K a b = nxT m s K (X + 1) 0 a b := by
  unfold nxT
  by_cases e2 : a < K ∧ b < K ∧ (a < X ∨ (a = X ∧ b < K))
  · rw [if_pos e2, if_pos (by omega)]
  · rw [if_neg e2, if_neg (by omega)]
theorem nxT_end {m : M} {K k : Nat} (a b : Nat) : nxT m (refM m K k) K K 0 a b = refM m K (k + 1) a b := by
  show _ = (if a < K ∧ b < K then refK m (refM m K k) K a b else refM m K k a b)
  unfold nxT
  by_cases e : a < K ∧ b < K
  · rw [if_pos ⟨e.1, e.2, .inl e.1⟩, if_pos e]
  · rw [if_neg (fun h => e ⟨h.1, h.2.1⟩), if_neg e]
theorem refK_zero_ne {m s : M} {a b : Nat} (h : a ≠ b) : refK m s 0 a b = max (s a b) (lnkS m a b) := by unfold refK; rw [if_neg h]
theorem refK_succ_ne {m s : M} {a b k : Nat} (h : a ≠ b) : refK m s (k + 1) a b = max (refK m s k a b) (min (s a k) (lnkS m k b)) := by
  show (if a = b then _ else _) = _
  rw [if_neg h]
theorem mx_eq (r v : Int) : (if r < v then v else r) = max r v := by split <;> omega
theorem mxn_eq (r p q : Int) : (if r < if q < p then q else p then if q < p then q else p else r) = max r (min p q) := by
  split <;> split <;> omega
theorem lnkI_of (m : M) {x y : Nat} (hx : x < 10) (hy : y < 10) : lnkI m x y = lnkS m x y := by
  unfold lnkI; rw [if_pos ⟨by omega, by omega, by omega, by omega⟩]; rfl
set_option maxRecDepth 100000 in
set_option maxHeartbeats 4000000 in
theorem rstrengths_any (C : Array Value) (m : M) (hC : Mat C m) (c : Int) (w : World) :
    Calls Tryz.prog 18 #[.agg C, .int .i64 c] w fun e w' => ∃ D, e = .returned (.tuple #[.agg D, .int .i64 (strErr m c)]) ∧ Mat D (strV m c) ∧ Below w.heap.size w w' := by
  have hs := hC.size
  have hA0 : Has (((w.alloc (.cells C 24)).alloc (.cells Tryz.zeroCells24 24)).alloc (.cells Tryz.zeroCells24 24)) w.heap.size 24 C := ((Has.new _ _ _).alloc _).alloc _
  have hR0 : Has (((w.alloc (.cells C 24)).alloc (.cells Tryz.zeroCells24 24)).alloc (.cells Tryz.zeroCells24 24)) (w.heap.size + 1) 24 Tryz.zeroCells24 := (Has.new2 _ _ _ _).alloc _
  have hS0 : Has (((w.alloc (.cells C 24)).alloc (.cells Tryz.zeroCells24 24)).alloc (.cells Tryz.zeroCells24 24)) (w.heap.size + 2) 24 Tryz.zeroCells24 := Has.new3 _ _ _ _ _
  have hb0 : Below w.heap.size w (((w.alloc (.cells C 24)).alloc (.cells Tryz.zeroCells24 24)).alloc (.cells Tryz.zeroCells24 24)) := (((Below.refl _ _).alloc (Nat.le_refl _) _).alloc (by simp) _).alloc (by simp; omega) _
  by_cases c1 : c < 1
  · have hr := hide (strErr_arg (m := m) (c := c) (.inl c1))
    go_enter Tryz.func18, Tryz.ntmps18
    go_upto_region 2 with fail
    generalize World.alloc (World.alloc (World.alloc w _) _) _ = W at hA0 hR0 hS0 hb0 ⊢
    go_wp2_with (first | (refine ldMat rfl rfl rfl hS0 zeroMat.size ?_) | (refine stMat rfl rfl rfl rfl hR0 zeroMat.size zeroMat.size zeroMat.one ?_))
    refine retMat2 rfl rfl rfl ((hR0).setRow _) zeroMat.size rfl ⟨_, by rw [hr.out]; rfl, by rw [strV_bad (by rw [hr.out]; omega)]; exact zeroMat, below_setRow hb0 (by omega) _⟩
  by_cases c2 : 10 < c
  · have hr := hide (strErr_arg (m := m) (c := c) (.inr c2))
    go_enter Tryz.func18, Tryz.ntmps18
    go_upto_region 2 with fail
    generalize World.alloc (World.alloc (World.alloc w _) _) _ = W at hA0 hR0 hS0 hb0 ⊢
    go_wp2_with (first | (refine ldMat rfl rfl rfl hS0 zeroMat.size ?_) | (refine stMat rfl rfl rfl rfl hR0 zeroMat.size zeroMat.size zeroMat.one ?_))
    refine retMat2 rfl rfl rfl ((hR0).setRow _) zeroMat.size rfl ⟨_, by rw [hr.out]; rfl, by rw [strV_bad (by rw [hr.out]; omega)]; exact zeroMat, below_setRow hb0 (by omega) _⟩
  cases e1 : rightS m c with
  | false =>
    have hr := hide (strErr_bad (m := m) (c := c) (by omega) e1)
    go_enter Tryz.func18, Tryz.ntmps18
    go_upto_region 2 with fail
    generalize World.alloc (World.alloc (World.alloc w _) _) _ = W at hA0 hR0 hS0 hb0 ⊢
    go_wp2_with (refine ldMat rfl rfl rfl hA0 hs ?_)
    refine (rright_any C m hC c W).mono ?_
    rintro e w1 ⟨rfl, hb1⟩
    have hR1 := hR0.below hb1 hR0.lt
    have hS1 := hS0.below hb1 hS0.lt
    have hb01 := Below_trans' hb0 hb0.size hb1
    rw [e1]
    clear e1
    go_wp2_with (first | (refine ldMat rfl rfl rfl hS1 zeroMat.size ?_) | (refine stMat rfl rfl rfl rfl hR1 zeroMat.size zeroMat.size zeroMat.one ?_))
    refine retMat2 rfl rfl rfl ((hR1).setRow _) zeroMat.size rfl ⟨_, by rw [hr.out]; rfl, by rw [strV_bad (by rw [hr.out]; omega)]; exact zeroMat, below_setRow hb01 (by omega) _⟩
  | true =>
    obtain ⟨K, rfl⟩ : ∃ K : Nat, c = K := ⟨c.toNat, by omega⟩
    have hr := hide (strErr_ok e1)
    have hfin : Hid (strV m K = refM m K (K - 1)) := by unfold Hid strV; rw [if_pos hr.out, Int.toNat_natCast]
    have Hb := hide (right_bd e1)
    have hK1 : 1 ≤ K := by omega
    have hK10 : K ≤ 10 := by omega
    go_enter Tryz.func18, Tryz.ntmps18
    go_upto_region 2 with fail
    generalize World.alloc (World.alloc (World.alloc w _) _) _ = W at hA0 hR0 hS0 hb0 ⊢
    go_wp2_with (refine ldMat rfl rfl rfl hA0 hs ?_)
    refine (rright_any C m hC K W).mono ?_
    rintro e w1 ⟨rfl, hb1⟩
    have hA1 := hA0.below hb1 hA0.lt
    have hR1 := hR0.below hb1 hR0.lt
    have hS1 := hS0.below hb1 hS0.lt
    have hb01 := Below_trans' hb0 hb0.size hb1
    rw [e1]
    clear e1 hA0 hR0 hS0 hb0 hb1
    go_wp2
    go_loopw [7] (fun i wr => ∃ (k : Nat) (S : Array Value), 1 ≤ k ∧ k ≤ K ∧ i = .int .i64 k ∧ Has wr w.heap.size 24 C ∧ Has wr (w.heap.size + 1) 24 Tryz.zeroCells24 ∧ Has wr (w.heap.size + 2) 24 S ∧ Mat S (refM m K (k - 1)) ∧ Below w.heap.size w wr) (fun i _ => K - (intOf i).toNat)
    case atStart => exact ⟨1, _, by omega, hK1, rfl, hA1, hR1, hS1, zeroMat, hb01⟩
    case round =>
      clear hA1 hR1 hS1 hb01
      obtain ⟨k, S, hk1, hk, rfl, hA, hR, hS, hM, hb⟩ := hrel
      obtain ⟨wo, rfl⟩ : ∃ wo : World, wo = wr := ⟨_, rfl⟩
      have hz := hS.lt
      by_cases hlt : k < K
      · obtain ⟨j, rfl⟩ : ∃ j, k = j + 1 := ⟨k - 1, by omega⟩
        rw [Nat.add_sub_cancel] at hM
        have hSs := hM.size
        have hN0 : Has (wo.alloc (.cells Tryz.zeroCells24 24)) wo.heap.size 24 Tryz.zeroCells24 := Has.new _ _ _
        have hA2 : Has ((wo.alloc (.cells Tryz.zeroCells24 24)).setRow wo.heap.size S) w.heap.size 24 C := (hA.alloc _).farRow (by omega) _
        have hR2 : Has ((wo.alloc (.cells Tryz.zeroCells24 24)).setRow wo.heap.size S) (w.heap.size + 1) 24 Tryz.zeroCells24 := (hR.alloc _).farRow (by omega) _
        have hS2 : Has ((wo.alloc (.cells Tryz.zeroCells24 24)).setRow wo.heap.size S) (w.heap.size + 2) 24 S := (hS.alloc _).farRow (by omega) _
        have hN2 : Has ((wo.alloc (.cells Tryz.zeroCells24 24)).setRow wo.heap.size S) wo.heap.size 24 S := hN0.setRow _
        have hb2 : Below w.heap.size w ((wo.alloc (.cells Tryz.zeroCells24 24)).setRow wo.heap.size S) := below_setRow (hb.alloc hb.size _) hb.size _
        have hgn : w.heap.size + 2 < wo.heap.size := hz
        go_upto_region 10 with (first | (refine ldMat rfl rfl rfl hS hSs ?_) | (refine stMat rfl rfl rfl rfl hN0 zeroMat.size hSs hM.one ?_))
        generalize World.setRow (World.alloc wo _) _ _ = W2 at hA2 hR2 hS2 hN2 hb2 ⊢
        generalize wo.heap.size = gn at hN2 hgn ⊢
        clear hA hR hS hb hN0 hz
        go_wp2
        go_loopw [9] (fun i wr => ∃ (X : Nat) (N : Array Value), X ≤ K ∧ i = .int .i64 X ∧ Has wr w.heap.size 24 C ∧ Has wr (w.heap.size + 1) 24 Tryz.zeroCells24 ∧ Has wr (w.heap.size + 2) 24 S ∧ Has wr gn 24 N ∧ Mat N (nxT m (refM m K j) K X 0) ∧ Below w.heap.size w wr) (fun i _ => K - (intOf i).toNat)
        case atStart => exact ⟨0, S, Nat.zero_le _, rfl, hA2, hR2, hS2, hN2, hM.congr (fun a b _ _ => nxT_zero m _ K a b), hb2⟩
        case round =>
          clear hA2 hR2 hS2 hN2 hb2
          obtain ⟨X, N, hX, rfl, hA, hR, hS, hN, hMN, hb⟩ := hrel
          obtain ⟨wx, rfl⟩ : ∃ wx : World, wx = wr := ⟨_, rfl⟩
          by_cases hXK : X < K
          · have hX10 : X < 10 := by omega
            go_wp2
            go_loopw [10] (fun i wr => ∃ (Y : Nat) (N : Array Value), Y ≤ K ∧ i = .int .i64 Y ∧ Has wr w.heap.size 24 C ∧ Has wr (w.heap.size + 1) 24 Tryz.zeroCells24 ∧ Has wr (w.heap.size + 2) 24 S ∧ Has wr gn 24 N ∧ Mat N (nxT m (refM m K j) K X Y) ∧ Below w.heap.size w wr) (fun i _ => K - (intOf i).toNat)
            case atStart => exact ⟨0, N, Nat.zero_le _, rfl, hA, hR, hS, hN, hMN, hb⟩
            case round =>
              clear hA hR hS hN hMN hb
              obtain ⟨Y, N, hY, rfl, hA, hR, hS, hN, hMN, hb⟩ := hrel
              obtain ⟨wy, rfl⟩ : ∃ wy : World, wy = wr := ⟨_, rfl⟩
              by_cases hYK : Y < K
              · have hY10 : Y < 10 := by omega
                by_cases hne : X = Y
                · have f16 : ((X : Int) == (Y : Int)) = true := by simp [hne]
                  have hsk := hide (@nxT_skip m (refM m K j) K X Y hne)
                  clear hne
                  go_wp2
                  go_roundw
                  case rel => exact ⟨Y + 1, N, by omega, by go_num, hA, hR, hS, hN, hMN.congr (fun a b _ _ => hsk.out a b), hb⟩
                  case measure => simp [intOf] <;> omega
                · have f16 : ((X : Int) == (Y : Int)) = false := by simp; omega
                  have b1 : (X : Int) < 10 := by omega
                  have b2 : (Y : Int) < 10 := by omega
                  have hz0 := hide (@refK_zero_ne m (refM m K j) X Y hne)
                  have hzs := hide (fun Z => @refK_succ_ne m (refM m K j) X Y Z hne)
                  clear hne
                  have gd := good_of hA hs
                  have gc := cells_eq hA
                  have hc1 := (hN.cell (X * 10 + Y)).trans (hMN.at_ X Y hX10 hY10)
                  have hbs := (refM_bd Hb.out hK10 j) X Y hX10 hY10
                  have hbl := lnkS_bd Hb.out X Y hX10 hY10
                  rw [nxT_here] at hc1
                  have hli := hide (lnkI_of m hX10 hY10)
                  have hput := hide (fun (v : Int) (hv : I64 v) => hMN.put hX10 hY10 (v := v) hv)
                  rw [← hli.out] at hbl hz0
                  generalize hrv : refM m K j X Y = r at hc1 hbs hz0
                  clear hrv
                  have hlk := fun q => rlink_any C m hC X Y (More wy q)
                  generalize lnkI m X Y = v at hlk hbl hz0
                  go_upto_region 17 with fail
                  refine wp_region_more_tail 13 (by kernel_rfl) (by kernel_rfl) ?_
                  simp only [List.take]
                  repeat (go_big_quiet_step (exact more_of (hlk _)))
                  refine wpQuiet_nil ?_
                  rintro w2 ⟨qq, hw2⟩
                  have hbq := below_of_eq hw2
                  clear hw2 qq
                  clear hc1 gd gc hlk
                  have hA2 := hA.below hbq hA.lt
                  have hR2 := hR.below hbq hR.lt
                  have hS2 := hS.below hbq hS.lt
                  have hN2 := hN.below hbq hN.lt
                  have hb2 := Below_trans' hb hb.size hbq
                  have hfr := hN2.free (X * 10 + Y)
                  have hcx := (hN2.cell (X * 10 + Y)).trans (hMN.at_ X Y hX10 hY10)
                  go_upto_region 18 with fail
                  generalize hu : (if r < v then v else r) = u
                  rw [mx_eq] at hu
                  have hub : I64 u := by unfold I64; omega
                  rw [← hz0.out] at hu
                  have Hu := hide hu
                  clear hu
                  have hN3 := hN2.put (X * 10 + Y) (.int .i64 u)
                  have hM3 : Mat (N.setIfInBounds (X * 10 + Y) (.int .i64 u)) (nxZ m (refM m K j) K X Y 0) := (hput.out u hub).congr (fun a b _ _ => by unfold nxZ; rw [Hu.out])
                  have hA3 : Has (w2.setCell ⟨gn, X * 10 + Y, none⟩ (.int .i64 u)) w.heap.size 24 C := hA2.far (by show w.heap.size ≠ gn; omega) _
                  have hR3 : Has (w2.setCell ⟨gn, X * 10 + Y, none⟩ (.int .i64 u)) (w.heap.size + 1) 24 Tryz.zeroCells24 := hR2.far (by show w.heap.size + 1 ≠ gn; omega) _
                  have hS3 : Has (w2.setCell ⟨gn, X * 10 + Y, none⟩ (.int .i64 u)) (w.heap.size + 2) 24 S := hS2.far (by show w.heap.size + 2 ≠ gn; omega) _
                  have hb3 : Below w.heap.size w (w2.setCell ⟨gn, X * 10 + Y, none⟩ (.int .i64 u)) := hb2.setCell (by show w.heap.size ≤ gn; omega) _
                  generalize World.setCell w2 _ _ = w3 at hN3 hA3 hR3 hS3 hb3 ⊢
                  clear hcx hfr hput hz0 hli
                  go_wp2
                  go_loopw [11] (fun i wr => ∃ (Z : Nat) (N : Array Value), Z ≤ K ∧ i = .int .i64 Z ∧ Has wr w.heap.size 24 C ∧ Has wr (w.heap.size + 1) 24 Tryz.zeroCells24 ∧ Has wr (w.heap.size + 2) 24 S ∧ Has wr gn 24 N ∧ Mat N (nxZ m (refM m K j) K X Y Z) ∧ Below w.heap.size w wr) (fun i _ => K - (intOf i).toNat)
                  case atStart => exact ⟨0, _, Nat.zero_le _, rfl, hA3, hR3, hS3, hN3, hM3, hb3⟩
                  case round =>
                    clear hA3 hR3 hS3 hN3 hM3 hb3 hA2 hR2 hS2 hN2 hb2 hA hR hS hN hMN hb
                    obtain ⟨Z, N, hZ, rfl, hA, hR, hS, hN, hMN, hb⟩ := hrel
                    by_cases hZK : Z < K
                    · have hZ10 : Z < 10 := by omega
                      have b3 : (Z : Int) < 10 := by omega
                      have gd := good_of hA hs
                      have gc := cells_eq hA
                      have hc1 := (hN.cell (X * 10 + Y)).trans (hMN.at_ X Y hX10 hY10)
                      have hc2 := (hS.cell (X * 10 + Z)).trans (hM.at_ X Z hX10 hZ10)
                      have hbs := (refM_bd Hb.out hK10 j) X Z hX10 hZ10
                      have hbr := (refK_bd Hb.out (refM_bd Hb.out hK10 j) (k := Z) (by omega)) X Y hX10 hY10
                      have hbl := lnkS_bd Hb.out Z Y hZ10 hY10
                      rw [nxZ_here] at hc1
                      have hli := hide (lnkI_of m hZ10 hY10)
                      have hput := hide (fun (v : Int) (hv : I64 v) => hMN.put hX10 hY10 (v := v) hv)
                      have hsz := hide (hzs.out Z)
                      have hcg := hide (fun a b => @nxZ_put m (refM m K j) K X Y Z a b)
                      rw [← hli.out] at hbl hsz
                      generalize refM m K j X Z = p at hc2 hbs hsz
                      have hgr : Hid (refK m (refM m K j) Z X Y = refK m (refM m K j) Z X Y) := rfl
                      generalize refK m (refM m K j) Z X Y = r at hc1 hbr hsz
                      clear hgr
                      have hlk := fun q => rlink_any C m hC Z Y (More wr q)
                      generalize lnkI m Z Y = v at hlk hbl hsz
                      go_upto_region 21 with fail
                      refine wp_region_more_tail 19 (by kernel_rfl) (by kernel_rfl) ?_
                      simp only [List.take]
                      repeat (go_big_quiet_step (exact more_of (hlk _)))
                      refine wpQuiet_nil ?_
                      rintro w2 ⟨qq, hw2⟩
                      have hbq := below_of_eq hw2
                      clear hw2 qq
                      clear hc1 hc2 gd gc hlk
                      have hA2 := hA.below hbq hA.lt
                      have hR2 := hR.below hbq hR.lt
                      have hS2 := hS.below hbq hS.lt
                      have hN2 := hN.below hbq hN.lt
                      have hb2 := Below_trans' hb hb.size hbq
                      have hfr := hN2.free (X * 10 + Y)
                      have hcx := (hN2.cell (X * 10 + Y)).trans (hMN.at_ X Y hX10 hY10)
                      go_upto_region 20 with fail
                      generalize hu : (if r < if v < p then v else p then if v < p then v else p else r) = u
                      rw [mxn_eq] at hu
                      have hub : I64 u := by unfold I64; omega
                      rw [← hsz.out] at hu
                      have Hu := hide hu
                      clear hu
                      go_wp2
                      go_roundw
                      case rel => exact ⟨Z + 1, _, by omega, by go_num, hA2.far (by show w.heap.size ≠ gn; omega) _, hR2.far (by show w.heap.size + 1 ≠ gn; omega) _, hS2.far (by show w.heap.size + 2 ≠ gn; omega) _, hN2.put _ _, (hput.out u hub).congr (fun a b _ _ => by rw [← hcg.out a b, Hu.out]), hb2.setCell (by show w.heap.size ≤ gn; omega) _⟩
                      case measure => simp [intOf] <;> omega
                    · obtain rfl : K = Z := by omega
                      have hen := hide (@nxZ_end m (refM m K j) K X Y hXK hYK)
                      go_wp2
                      go_roundw
                      case rel => exact ⟨Y + 1, N, by omega, by go_num, hA, hR, hS, hN, hMN.congr (fun a b _ _ => hen.out a b), hb⟩
                      case measure => simp [intOf] <;> omega
              · obtain rfl : K = Y := by omega
                go_wp2
                go_roundw
                case rel => exact ⟨X + 1, N, by omega, by go_num, hA, hR, hS, hN, hMN.congr (fun a b _ _ => nxT_row a b), hb⟩
                case measure => simp [intOf] <;> omega
          · obtain rfl : K = X := by omega
            have hMe : Mat N (refM m K (j + 1)) := hMN.congr (fun a b _ _ => nxT_end a b)
            have hNs := hMe.size
            go_wp2_with (first | (refine ldMat rfl rfl rfl hN hNs ?_) | (refine stMat rfl rfl rfl rfl hS hSs hNs hMe.one ?_))
            have hA4 : Has (wx.setRow (w.heap.size + 2) N) w.heap.size 24 C := hA.farRow (by omega) _
            have hR4 : Has (wx.setRow (w.heap.size + 2) N) (w.heap.size + 1) 24 Tryz.zeroCells24 := hR.farRow (by omega) _
            go_roundw
            case rel => exact ⟨j + 1 + 1, N, by omega, by omega, by go_num, hA4, hR4, hS.setRow _, hMe, below_setRow hb (by omega) _⟩
            case measure => simp [intOf] <;> omega
      · obtain rfl : K = k := by omega
        go_wp2_with (first | (refine ldMat rfl rfl rfl hS hM.size ?_) | (refine stMat rfl rfl rfl rfl hR zeroMat.size hM.size hM.one ?_))
        refine retMat2 rfl rfl rfl (hR.setRow _) hM.size rfl ⟨_, by rw [hr.out]; rfl, by rw [hfin.out]; exact hM, below_setRow hb (by omega) _⟩
end Go.Proofs.YtkhclcdmehjfkaaGreat
