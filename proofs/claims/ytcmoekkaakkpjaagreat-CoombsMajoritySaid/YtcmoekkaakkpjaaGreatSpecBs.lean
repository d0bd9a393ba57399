/-
  The rounds of a Coombs count, one by one.
-/
import Derived.Test.YtcmoekkaakkpjaaGreatSpecRs
import Derived.Test.YtcmoekkaakkpjaaGreatSpecCb
namespace Go.Proofs.YtcmoekkaakkpjaaGreat

/-- Each round but the last takes one out, who was still there; the last elects one. -/
def RsB (rs : List Rnd) : Prop := ∀ (i : Nat) (r : Rnd), rs[i]? = some r → r.2.2.2.length + r.2.2.1.length = 1 ∧ (outsOf rs i).length = i ∧ ∀ x ∈ r.2.2.2, inL (outsOf rs i) x = false
theorem RsB.snoc {rs : List Rnd} (h : RsB rs) (hl : (outsOf rs rs.length).length = rs.length) {r : Rnd} (h1 : r.2.2.2.length + r.2.2.1.length = 1) (h2 : ∀ x ∈ r.2.2.2, inL (outsOf rs rs.length) x = false) : RsB (rs ++ [r]) := fun i q hq => by
  by_cases hi : i < rs.length
  · rw [List.getElem?_append_left hi] at hq
    rw [outsOf_app (Nat.le_of_lt hi)]
    exact h i q hq
  · rw [List.getElem?_append_right (Nat.le_of_not_lt hi)] at hq
    have h0 : i - rs.length < 1 := (List.getElem?_eq_some_iff.1 hq).1
    obtain rfl : i = rs.length := by omega
    rw [outsOf_app (Nat.le_refl _)]
    simp at hq
    subst hq
    exact ⟨h1, hl, h2⟩
/-- Who is elected in the end, and what the rounds are. -/
structure BOK (l : List Row) (C n : Nat) (o : Outc) : Prop where
  ok : RsOK l C o.2.1
  len : o.2.1.length ≤ n
  b : RsB o.2.1
  el : ∃ x, o.1 = [x] ∧ 0 ≤ x ∧ x < C ∧ inL (outsOf o.2.1 o.2.1.length) x = false
theorem countB_rs {l : List Row} {C : Nat} {lot : List Int} (hlot : lotS lot C = true) : ∀ (f : Nat) (left : List Int) (rs : List Rnd) (ts : List Row), left.Sublist (rangeI C) → left ≠ [] → left.length ≤ f → (∀ x, inL left x = stayB C (outsOf rs rs.length) x) → RsOK l C rs → RsB rs → (outsOf rs rs.length).length = rs.length → BOK l C (rs.length + f) (countB l C lot f left rs ts)
  | 0, left, rs, ts, _, hne, hl, _, _, _, _ => by have := List.length_pos_iff.2 hne; omega
  | f + 1, left, rs, ts, hsub, hne, hlf, hl, h, hb, ho => by
    have hstay : ∀ x, x ∈ left → inL (outsOf rs rs.length) x = false := fun x hx => by
      have h1 := hl x
      rw [inL_iff.2 hx] at h1
      unfold stayB at h1
      cases h2 : inL (outsOf rs rs.length) x with
      | false => rfl
      | true => rw [h2] at h1; simp at h1
    cases hw : winS left (hadL (inL left) l C) with
    | some x =>
      rw [countB_some hw]
      have hx := List.mem_of_find?_eq_some hw
      have hxr := mem_rangeI.1 (hsub.subset hx)
      refine ⟨h.snoc hl (by simp) (by simp), by simp, hb.snoc ho (by simp [rndS]) (fun y hy => by simp [rndS] at hy), x, rfl, hxr.1, hxr.2, ?_⟩
      rw [List.length_append, List.length_singleton, outsOf_succ (r := rndS (hadL (inL left) l C) (lostS (inL left) l) [x] []) (by simp), outsOf_app (Nat.le_refl _)]
      have := hstay x hx
      simpa [rndS] using this
    | none =>
      rw [countB_none hw]
      have hm := (most_sub l C left).subset (most_last (l := l) hsub hne hlot)
      have hr := mem_rangeI.1 (hsub.subset hm)
      have hln := length_outS ((nodup_rangeI C).sublist hsub) hm
      have hn1 : left.length ≠ 1 := fun e => win_of_one e hw
      have hp := List.length_pos_iff.2 hne
      have hsx := hstay _ hm
      generalize lastS lot (mostS l C left) = x at *
      have he : outsOf (rs ++ [rndS (hadL (inL left) l C) (lostS (inL left) l) [] [x]]) (rs ++ [rndS (hadL (inL left) l C) (lostS (inL left) l) [] [x]]).length = outsOf rs rs.length ++ [x] := by
        rw [List.length_append, List.length_singleton, outsOf_succ (r := rndS (hadL (inL left) l C) (lostS (inL left) l) [] [x]) (by simp), outsOf_app (Nat.le_refl _)]
        rfl
      have ih := countB_rs (l := l) hlot f (outS left x) (rs ++ [rndS (hadL (inL left) l C) (lostS (inL left) l) [] [x]]) (tiedS ts (mostS l C left) x) ((outS_sub _ _).trans hsub) (List.length_pos_iff.1 (by omega)) (by omega) (fun y => by
        rw [he, stay_app, ← hl y]
        unfold inL outS
        simp [List.mem_filter]) (h.snoc hl (by simp) (by simpa using hr)) (hb.snoc ho (by simp [rndS]) (fun y hy => by
          have : y = x := by simpa [rndS] using hy
          rw [this]; exact hsx)) (by rw [he, List.length_append, List.length_append, ho]; simp)
      refine ⟨ih.ok, ?_, ih.b, ih.el⟩
      have := ih.len
      rw [List.length_append, List.length_singleton] at this
      omega
theorem countB_ok {l : List Row} {C : Nat} {lot : List Int} (hlot : lotS lot C = true) (hC : 1 ≤ C) : BOK l C C (countB l C lot C (rangeI C) [] []) := by
  have := countB_rs (l := l) hlot C (rangeI C) [] [] (List.Sublist.refl _) (fun e => by have := congrArg List.length e; rw [length_rangeI] at this; simp at this; omega) (by rw [length_rangeI]; exact Nat.le_refl _) (stay_start C) (RsOK.nil_ l C) (fun i r h => by simp at h) rfl
  simpa using this
end Go.Proofs.YtcmoekkaakkpjaaGreat
