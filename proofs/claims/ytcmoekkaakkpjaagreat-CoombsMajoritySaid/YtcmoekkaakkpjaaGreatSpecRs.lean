/-
  The rounds of a runoff, one by one: who has not gone out before.
  What the laws of sums of ratios have in common.
-/
import Derived.Test.YtcmoekkaakkpjaaGreatL15f
import Derived.Test.YtcmoekkaakkpjaaGreatW3e
import Derived.Test.YtcmoekkaakkpjaaGreatAgg
namespace Go.Proofs.YtcmoekkaakkpjaaGreat

/-- Who has gone out before round i. -/
def outsOf (rs : List Rnd) (i : Nat) : List Int := (rs.take i).flatMap fun r => r.2.2.2
/-- Who has not gone out. -/
def stayB (C : Nat) (out : List Int) (x : Int) : Bool := inL (rangeI C) x && !inL out x
def RsOK (l : List Row) (C : Nat) (rs : List Rnd) : Prop := ∀ (i : Nat) (r : Rnd), rs[i]? = some r → ∃ el out, r = rndS (hadL (stayB C (outsOf rs i)) l C) (lostS (stayB C (outsOf rs i)) l) el out ∧ out.length ≤ 1 ∧ ∀ x ∈ out, 0 ≤ x ∧ x < C
theorem outsOf_zero (rs : List Rnd) : outsOf rs 0 = [] := rfl
theorem outsOf_succ {rs : List Rnd} {i : Nat} {r : Rnd} (h : rs[i]? = some r) : outsOf rs (i + 1) = outsOf rs i ++ r.2.2.2 := by
  unfold outsOf
  rw [List.take_add_one, h]
  simp
theorem outsOf_app {rs rs' : List Rnd} {i : Nat} (h : i ≤ rs.length) : outsOf (rs ++ rs') i = outsOf rs i := by
  unfold outsOf
  rw [List.take_append_of_le_length h]
theorem stay_app (C : Nat) (o p : List Int) (x : Int) : stayB C (o ++ p) x = (stayB C o x && !inL p x) := by
  unfold stayB inL
  simp only [List.mem_append, Bool.decide_or, Bool.not_or, Bool.and_assoc]
theorem RsOK.nil_ (l : List Row) (C : Nat) : RsOK l C [] := fun i r h => by simp at h
theorem RsOK.snoc {l : List Row} {C : Nat} {rs : List Rnd} (h : RsOK l C rs) {el out : List Int} {φ : Int → Bool} (hφ : ∀ x, φ x = stayB C (outsOf rs rs.length) x) (ho : out.length ≤ 1) (hx : ∀ x ∈ out, 0 ≤ x ∧ x < C) : RsOK l C (rs ++ [rndS (hadL φ l C) (lostS φ l) el out]) := fun i r hr => by
  obtain rfl : φ = stayB C (outsOf rs rs.length) := funext hφ
  by_cases hi : i < rs.length
  · rw [List.getElem?_append_left hi] at hr
    rw [outsOf_app (Nat.le_of_lt hi)]
    exact h i r hr
  · rw [List.getElem?_append_right (Nat.le_of_not_lt hi)] at hr
    have h0 : i - rs.length < 1 := (List.getElem?_eq_some_iff.1 hr).1
    obtain rfl : i = rs.length := by omega
    rw [outsOf_app (Nat.le_refl _)]
    simp at hr
    exact ⟨el, out, hr.symm, ho, hx⟩
theorem count_rs {l : List Row} {C : Nat} {lot : List Int} (hlot : lotS lot C = true) : ∀ (f : Nat) (left : List Int) (rs : List Rnd) (ts : List Row), left.Sublist (rangeI C) → left ≠ [] → (∀ x, inL left x = stayB C (outsOf rs rs.length) x) → RsOK l C rs → RsOK l C (countS l C lot f left rs ts).2.1 ∧ (countS l C lot f left rs ts).2.1.length ≤ rs.length + f
  | 0, left, rs, ts, _, _, _, h => ⟨h, Nat.le_refl _⟩
  | f + 1, left, rs, ts, hsub, hne, hl, h => by
    cases hw : winS left (hadL (inL left) l C) with
    | some x =>
      rw [countS_some hw]
      exact ⟨h.snoc hl (by simp) (by simp), by simp⟩
    | none =>
      rw [countS_none hw]
      have hsl : (leastS (hadL (inL left) l C) left).Sublist left := bestS_sub _ _
      have hm := hsl.subset (lastS_mem (lot := lot) (bestS_ne (f := fun c => - getI (hadL (inL left) l C) c) hne) fun x hx => lot_in hlot (hsub.subset (hsl.subset hx)))
      have hm : lastS lot (leastS (hadL (inL left) l C) left) ∈ left := hm
      have hr := mem_rangeI.1 (hsub.subset hm)
      have hln := length_outS ((nodup_rangeI C).sublist hsub) hm
      have hn1 : left.length ≠ 1 := fun e => win_of_one e hw
      have hp := List.length_pos_iff.2 hne
      generalize lastS lot (leastS (hadL (inL left) l C) left) = x at *
      have ih := count_rs (l := l) hlot f (outS left x) (rs ++ [rndS (hadL (inL left) l C) (lostS (inL left) l) [] [x]]) (tiedS ts (leastS (hadL (inL left) l C) left) x) ((outS_sub _ _).trans hsub) (List.length_pos_iff.1 (by omega)) (fun y => by
        rw [List.length_append, List.length_singleton, outsOf_succ (r := rndS (hadL (inL left) l C) (lostS (inL left) l) [] [x]) (by simp), outsOf_app (Nat.le_refl _), stay_app, ← hl y]
        unfold inL outS rndS
        simp [List.mem_filter]) (h.snoc hl (by simp) (by simpa using hr))
      refine ⟨ih.1, ?_⟩
      have := ih.2
      rw [List.length_append, List.length_singleton] at this
      omega
theorem stay_start (C : Nat) (x : Int) : inL (rangeI C) x = stayB C (outsOf [] 0) x := by unfold stayB outsOf; simp [inL_nil]
theorem stay_sub {C : Nat} {o p : List Int} {x : Int} (h : stayB C (o ++ p) x = true) : stayB C o x = true := by
  rw [stay_app, Bool.and_eq_true] at h; exact h.1
theorem stay_in {C : Nat} {o : List Int} {x : Nat} (hx : x < C) : stayB C o (x : Int) = !inL o x := by
  unfold stayB
  rw [inL_iff.2 (mem_rangeI.2 ⟨by omega, by omega⟩), Bool.true_and]
theorem length_outsOf {l : List Row} {C : Nat} {rs : List Rnd} (h : RsOK l C rs) : ∀ i, (outsOf rs i).length ≤ i ∧ ∀ x ∈ outsOf rs i, 0 ≤ x ∧ x < C
  | 0 => by simp [outsOf]
  | i + 1 => by
    have ih := length_outsOf h i
    cases hr : rs[i]? with
    | none =>
      have : outsOf rs (i + 1) = outsOf rs i := by unfold outsOf; rw [List.take_add_one, hr]; simp
      rw [this]; exact ⟨by omega, ih.2⟩
    | some r =>
      obtain ⟨el, out, rfl, h1, h2⟩ := h i r hr
      rw [outsOf_succ hr]
      refine ⟨by rw [List.length_append]; show (outsOf rs i).length + out.length ≤ i + 1; omega, fun x hx => ?_⟩
      rcases List.mem_append.1 hx with hx | hx
      · exact ih.2 x hx
      · exact h2 x hx
end Go.Proofs.YtcmoekkaakkpjaaGreat

namespace Go.Proofs.YtcmoekkaakkpjaaGreat
open Go.RowKit Go.Proofs Go.Shelf

/-- The blocks of words are not the box of a ratio. -/
theorem wrds_apart {w : World} {g : Nat} {t : TypeId} {x : Bool} {B B' : Option Addr} {m d m' d' : Nat} (hg : Has w g t #[.bool x, .slice B m d, .slice B' m' d']) {A : Option Addr} {n c : Nat} {xs : List Int} (h : RWrds w A n c xs) : ∀ b, fpS A n b → ¬ b = g := by
  rintro b ⟨hn, off, e⟩ rfl
  obtain ⟨b', off', v, e', hc, _⟩ := h.step (k := 0) hn
  rw [e] at e'
  cases e'
  rw [hg.cell] at hc
  match off, hc with
  | 0, hc => simp at hc
  | 1, hc => simp at hc
  | 2, hc => simp at hc
  | (k + 3), hc => simp at hc
theorem stay_gone {C : Nat} {o : List Int} {x : Int} (h : inL o x = true) : stayB C o x = false := by unfold stayB; rw [h]; simp
end Go.Proofs.YtcmoekkaakkpjaaGreat
