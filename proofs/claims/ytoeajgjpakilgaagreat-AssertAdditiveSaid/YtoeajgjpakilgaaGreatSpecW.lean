/-
  The reference's way with rows, in plain terms.
-/
import Derived.Test.YtoeajgjpakilgaaGreatW9t
import Derived.Test.YtoeajgjpakilgaaGreatSpecT
namespace Go.Proofs.YtoeajgjpakilgaaGreat

theorem cntR_at {l : List Row} (h : Asc l) {m : List Int} {z : Int} (hz : l[plS l m]? = some (m, z)) : cntR l m = z := by
  induction l with
  | nil => simp at hz
  | cons a r ih =>
    unfold plS at hz
    rw [cntR]
    split at hz
    · rename_i hlt
      rw [if_neg (fun e => by rw [e, cmpL_self] at hlt; omega)]
      exact ih (List.pairwise_cons.1 h).2 (by simpa using hz)
    · simp at hz; subst hz; rw [if_pos rfl]
theorem cntR_out {l : List Row} (h : Asc l) {m : List Int} (hz : foundS l m = false) : cntR l m = 0 := by
  induction l with
  | nil => rfl
  | cons a r ih =>
    obtain ⟨h1, h2⟩ := List.pairwise_cons.1 h
    rw [cntR]
    unfold foundS plS at hz
    by_cases hlt : cmpL a.1 m < 0
    · rw [if_pos hlt] at hz
      rw [if_neg (fun e => by rw [e, cmpL_self] at hlt; omega)]
      refine ih h2 ?_
      unfold foundS
      simpa using hz
    · rw [if_neg hlt] at hz
      simp at hz
      rw [if_neg hz]
      have hma : cmpL m a.1 < 0 := by
        have e1 := cmpL_neg a.1 m
        have e2 := mt (cmpL_zero (a := a.1) (b := m)).1 hz
        omega
      exact cntR_lt h2 fun x hx => cmpL_trans hma (h1 x hx)
/-- The reference's With, where ballots come to those that are there. -/
theorem with_put {l : List Row} (h : Asc l) (hp : Pos l) {m : List Int} {y : Int} (hy : 0 < y) : withS l m (cntR l m + y) = putS l m y := by
  unfold withS
  cases hf : foundS l m with
  | true =>
    obtain ⟨z, hz⟩ := foundS_true hf
    have hc := cntR_at h hz
    have h0 := hp _ (List.mem_of_getElem? hz)
    simp only at h0
    have hlt := (List.getElem?_eq_some_iff.1 hz).1
    rw [putS_is hz, hc, if_pos (by omega), if_pos rfl, List.set_eq_take_append_cons_drop, if_pos hlt]
    rfl
  | false =>
    have hc := cntR_out h hf
    rw [putS_new (foundS_false hf), hc, if_pos (by omega), if_neg (by simp)]
    simp
/-- The reference's With, where ballots are taken from those that are there. -/
theorem with_drop {l : List Row} (h : Asc l) {m : List Int} {y : Int} (hy : 0 < y) (hle : y ≤ cntR l m) : dropS l m y = some (withS l m (cntR l m - y)) := by
  cases hf : foundS l m with
  | true =>
    obtain ⟨z, hz⟩ := foundS_true hf
    have hc := cntR_at h hz
    have hlt := (List.getElem?_eq_some_iff.1 hz).1
    rw [dropS_is hz, hc, if_neg (by omega)]
    unfold withS
    rw [hf, if_pos rfl]
    by_cases e : z = y
    · rw [if_pos e, if_neg (by omega), List.eraseIdx_eq_take_drop_succ]; rfl
    · rw [if_neg e, if_pos (by omega), List.set_eq_take_append_cons_drop, if_pos hlt]; rfl
  | false =>
    have hc := cntR_out h hf
    omega
theorem dropS_few {l : List Row} (h : Asc l) {m : List Int} {y : Int} (hy : 0 < y) (hle : cntR l m < y) : dropS l m y = none := by
  have := dropS_some h (m := m) hy
  cases hd : dropS l m y with
  | none => rfl
  | some l' => rw [hd] at this; simp at this; omega
end Go.Proofs.YtoeajgjpakilgaaGreat
