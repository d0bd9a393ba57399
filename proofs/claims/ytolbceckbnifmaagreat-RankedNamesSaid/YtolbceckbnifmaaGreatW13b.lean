/-
  The reference's paths: link, Strength; who comes first in the lot.
  The reference's Strengths.
-/
import Derived.Test.YtolbceckbnifmaaGreatW13a
import Derived.Test.YtolbceckbnifmaaGreatMat
import Derived.Test.YtolbceckbnifmaaGreatW11a
import Derived.Test.YtolbceckbnifmaaGreatSpecPa
namespace Go.Proofs.YtolbceckbnifmaaGreat
open Go.RowKit Go.Proofs
attribute [local go_sem] cell?_more cell?_alloc_some cell?_setCell_far frozen?_alloc_some frozen?_more
attribute [local go_sem ↓] ldm_fold
attribute [local go_sem] run_LDM run_LDM_more run_LDM_drew
theorem getD_pt {p : List Int} {k : Nat} {v : Int} (h : p[k]? = some v) : p.getD k 0 = v := by simp [List.getD, h]
/-- The first in the lot, by the reference. -/
theorem frst_step {lot among : List Int} {k : Nat} {v : Int} (h : lot[k]? = some v) (hn : lot.take k |>.find? (inL among) |>.isNone) : (lot.take (k + 1)).find? (inL among) = if inL among v = true then some v else none := by
  rw [List.take_add_one, h, List.find?_append]
  rw [Option.isNone_iff_eq_none.1 hn]
  cases hv : inL among v <;> simp [hv]
theorem frst_found {lot among : List Int} {k : Nat} {v : Int} (h : (lot.take k).find? (inL among) = some v) : lot.find? (inL among) = some v := by
  rw [← List.take_append_drop k lot, List.find?_append, h]; rfl
theorem rfirst_any (A : Option Addr) (n c : Nat) (lot : List Int) (A' : Option Addr) (n' c' : Nat) (among : List Int) (w : World) (h : RInts w A n c lot) (h' : RInts w A' n' c' among) :
    Calls Tryz.prog 26 #[.slice A n c, .slice A' n' c'] w fun e w' => e = .returned (.int .i64 (frstS lot among)) ∧ w = w' := by
  have hn := h.le
  have hl := hide h.len
  go_enter Tryz.func26, Tryz.ntmps26
  go_wp2
  go_loop [5] (fun i => ∃ k : Nat, k ≤ n ∧ i = .int .i64 (k : Int) ∧ Hid (((lot.take k).find? (inL among)).isNone = true)) (fun i => n - (intOf i).toNat)
  case atStart => exact ⟨0, Nat.zero_le _, rfl, by unfold Hid; simp⟩
  case round =>
    obtain ⟨k, hk, rfl, hq⟩ := hrel
    by_cases hlt : k < n
    · obtain ⟨b, off, v, rfl, hc, hd, hat, _⟩ := h.step hlt
      have hs := hide (frst_step hat.out hq.out)
      have hcall := in_any A' n' c' among v w h'
      clear hat hd
      cases hv : inL among v with
      | true =>
        rw [hv] at hcall
        have hf : Hid (frstS lot among = v) := by unfold Hid frstS; rw [frst_found (hs.out.trans (if_pos hv))]; rfl
        clear hv
        go_wp2_with fail
        refine hcall.mono ?_
        rintro e w' ⟨rfl, rfl⟩
        go_wp2
        go_ret
        exact ⟨ret_i (by rw [hf.out]), rfl⟩
      | false =>
        rw [hv] at hcall
        have hf : Hid (((lot.take (k + 1)).find? (inL among)).isNone = true) := by unfold Hid; rw [hs.out, if_neg (by rw [hv]; simp)]; rfl
        clear hv
        go_wp2_with fail
        refine hcall.mono ?_
        rintro e w' ⟨rfl, rfl⟩
        go_wp2
        go_round
        case rel => exact ⟨k + 1, by omega, by go_num, hf⟩
        case measure => simp [intOf] <;> omega
    · have e : k = n := by omega
      have hf : Hid (frstS lot among = 0) := by
        have h1 := Option.isNone_iff_eq_none.1 hq.out
        rw [List.take_of_length_le (by rw [hl.out]; omega)] at h1
        unfold Hid frstS; rw [h1]; rfl
      clear e
      go_wp2
      go_ret
      exact ⟨ret_i (by rw [hf.out]), rfl⟩
end Go.Proofs.YtolbceckbnifmaaGreat

namespace Go.Proofs.YtolbceckbnifmaaGreat
open Go.RowKit Go.Proofs
attribute [local go_sem] cell?_more cell?_alloc_some cell?_setCell_far frozen?_alloc_some frozen?_more
attribute [local go_sem ↓] ldm_fold
attribute [local go_sem] run_LDM run_LDM_more run_LDM_drew
/-- The next matrix as it is being made. -/
def nxT (m s : M) (K X Y : Nat) : M := fun a b => if a < K ∧ b < K ∧ (a < X ∨ (a = X ∧ b < Y)) then refK m s K a b else s a b
def nxZ (m s : M) (K X Y Z : Nat) : M := fun a b => if a = X ∧ b = Y then refK m s Z X Y else nxT m s K X Y a b
theorem nxT_zero (m s : M) (K a b : Nat) : s a b = nxT m s K 0 0 a b := by unfold nxT; rw [if_neg (by omega)]
theorem refK_diag (m s : M) (a : Nat) : ∀ k, refK m s k a a = s a a
  | 0 => by unfold refK; rw [if_pos rfl]
  | k + 1 => by unfold refK; rw [if_pos rfl]
theorem nxT_here (m s : M) (K X Y : Nat) : nxT m s K X Y X Y = s X Y := by unfold nxT; rw [if_neg (by omega)]
theorem nxT_skip {m s : M} {K X Y : Nat} (h : X = Y) (a b : Nat) : nxT m s K X Y a b = nxT m s K X (Y + 1) a b := by
  subst h
  unfold nxT
  by_cases e : a = X ∧ b = X
  · obtain ⟨rfl, rfl⟩ := e
    rw [if_neg (by omega)]
    split
    · rw [refK_diag]
    · rfl
  · by_cases e2 : a < K ∧ b < K ∧ (a < X ∨ (a = X ∧ b < X))
    · rw [if_pos e2, if_pos (by omega)]
    · rw [if_neg e2, if_neg (by omega)]
theorem nxZ_here (m s : M) (K X Y Z : Nat) : nxZ m s K X Y Z X Y = refK m s Z X Y := by unfold nxZ; rw [if_pos ⟨rfl, rfl⟩]
theorem nxZ_put {m s : M} {K X Y Z : Nat} (a b : Nat) : (if a = X ∧ b = Y then refK m s (Z + 1) X Y else nxZ m s K X Y Z a b) = nxZ m s K X Y (Z + 1) a b := by
  unfold nxZ
  by_cases e : a = X ∧ b = Y
  · rw [if_pos e, if_pos e]
  · rw [if_neg e, if_neg e, if_neg e]
theorem nxZ_end {m s : M} {K X Y : Nat} (hX : X < K) (hY : Y < K) (a b : Nat) : nxZ m s K X Y K a b = nxT m s K X (Y + 1) a b := by
  unfold nxZ nxT
  by_cases e : a = X ∧ b = Y
  · obtain ⟨rfl, rfl⟩ := e
    rw [if_pos ⟨rfl, rfl⟩, if_pos (by omega)]
  · rw [if_neg e]
    by_cases e2 : a < K ∧ b < K ∧ (a < X ∨ (a = X ∧ b < Y))
    · rw [if_pos e2, if_pos (by omega)]
    · rw [if_neg e2, if_neg (by omega)]
theorem nxT_row {m s : M} {K X : Nat} (a b : Nat) : nxT m s K X K a b = nxT m s K (X + 1) 0 a b := by
  unfold nxT
  by_cases e2 : a < K ∧ b < K ∧ (a < X ∨ (a = X ∧ b < K))
  · rw [if_pos e2, if_pos (by omega)]
  · rw [if_neg e2, if_neg (by omega)]
theorem nxT_end {m : M} {K k : Nat} (a b : Nat) : nxT m (refM m K k) K K 0 a b = refM m K (k + 1) a b := by
  show _ = (if a < K ∧ b < K then refK m (refM m K k) K a b else refM m K k a b)
  unfold nxT
  by_cases e : a < K ∧ b < K
  · rw [if_pos ⟨e.1, e.2, .inl e.1⟩, if_pos e]
  · rw [if_neg (fun h => e ⟨h.1, h.2.1⟩), if_neg e]
theorem refK_zero_ne {m s : M} {a b : Nat} (h : a ≠ b) : refK m s 0 a b = max (s a b) (lnkS m a b) := by unfold refK; rw [if_neg h]
theorem refK_succ_ne {m s : M} {a b k : Nat} (h : a ≠ b) : refK m s (k + 1) a b = max (refK m s k a b) (min (s a k) (lnkS m k b)) := by
  show (if a = b then _ else _) = _
  rw [if_neg h]
theorem mx_eq (r v : Int) : (if r < v then v else r) = max r v := by split <;> omega
theorem mxn_eq (r p q : Int) : (if r < if q < p then q else p then if q < p then q else p else r) = max r (min p q) := by
  split <;> split <;> omega
theorem lnkI_of (m : M) {x y : Nat} (hx : x < 10) (hy : y < 10) : lnkI m x y = lnkS m x y := by
  unfold lnkI; rw [if_pos ⟨by omega, by omega, by omega, by omega⟩]; rfl
end Go.Proofs.YtolbceckbnifmaaGreat
