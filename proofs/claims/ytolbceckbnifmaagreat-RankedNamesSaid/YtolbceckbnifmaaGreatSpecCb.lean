/-
  Whom a ballot is against. No program is named here.
  The count by the Coombs rule, in plain terms.
-/
import Derived.Test.YtolbceckbnifmaaGreatW15e
import Derived.Lib.Slices
namespace Go.Proofs.YtolbceckbnifmaaGreat
open Go.RowKit Go.Proofs

theorem nodup_ix {xs : List Int} (hn : xs.Nodup) {i j : Nat} {v : Int} (h1 : xs[i]? = some v) (h2 : xs[j]? = some v) : i = j := by
  have a1 := placeS_at hn h1
  have a2 := placeS_at hn h2
  rw [a1] at a2
  omega
/-- Is a ballot against x, one of left? -/
def agB (left ms : List Int) (x : Int) : Bool := if left.all (inL ms) = true then decide (ms.reverse.find? (inL left) = some x) else inL left x && !inL ms x
/-- The ballots that are against x. -/
def badS (left : List Int) (l : List Row) (x : Int) : Int := wsum (fun ms => agB left ms x) l
def badL (left : List Int) (l : List Row) (n : Nat) : List Int := (List.range n).map fun x : Nat => badS left l (x : Int)
theorem length_badL (left : List Int) (l : List Row) (n : Nat) : (badL left l n).length = n := by simp [badL]
theorem get_badL (left : List Int) (l : List Row) {n x : Nat} (h : x < n) : (badL left l n)[x]? = some (badS left l (x : Int)) := by
  unfold badL; rw [List.getElem?_map, List.getElem?_range h]; rfl
theorem badL_zero (left : List Int) (n : Nat) : badL left [] n = List.replicate n 0 := by
  unfold badL badS
  refine List.ext_getElem (by simp) fun i h1 h2 => ?_
  simp [wsum]
theorem badS_bd {left : List Int} {l : List Row} (h : Pos l) (x : Int) : 0 ≤ badS left l x ∧ badS left l x ≤ totS l := ⟨wsum_nn h, wsum_le_tot h⟩
/-- What has been counted of a ballot when the first k of left have been looked at. -/
def outK (n : Nat) (base : List Int) (left ms : List Int) (y : Int) (k : Nat) : List Int := (List.range n).map fun x : Nat => base.getD x 0 + if (inL (left.take k) (x : Int) && !inL ms (x : Int)) = true then y else 0
theorem length_outK (n : Nat) (base left ms : List Int) (y : Int) (k : Nat) : (outK n base left ms y k).length = n := by simp [outK]
theorem get_outK {n : Nat} (base left ms : List Int) (y : Int) (k : Nat) {x : Nat} (h : x < n) : (outK n base left ms y k)[x]? = some (base.getD x 0 + if (inL (left.take k) (x : Int) && !inL ms (x : Int)) = true then y else 0) := by
  unfold outK; rw [List.getElem?_map, List.getElem?_range h]; rfl
theorem outK_zero {n : Nat} {base : List Int} (left ms : List Int) (y : Int) (hl : base.length = n) : outK n base left ms y 0 = base := by
  refine List.ext_getElem? fun i => ?_
  by_cases hi : i < n
  · rw [get_outK _ _ _ _ _ hi, List.take_zero, inL_nil]
    simp [List.getD, show i < base.length by omega]
  · rw [List.getElem?_eq_none (by rw [length_outK]; omega), List.getElem?_eq_none (by omega)]
theorem inL_take_succ {left : List Int} {k : Nat} {c : Int} (h : left[k]? = some c) (x : Int) : inL (left.take (k + 1)) x = (inL (left.take k) x || decide (x = c)) := by
  rw [List.take_add_one, h]
  unfold inL
  rw [Bool.eq_iff_iff]
  simp
theorem not_in_take {left : List Int} (hn : left.Nodup) {k : Nat} {c : Int} (h : left[k]? = some c) : inL (left.take k) c = false := by
  rw [← Bool.not_eq_true, inL_iff]
  intro hm
  obtain ⟨j, hj⟩ := List.getElem?_of_mem hm
  have hjk : j < k := by have := (List.getElem?_eq_some_iff.1 hj).1; rw [List.length_take] at this; omega
  rw [List.getElem?_take_of_lt hjk] at hj
  have := nodup_ix hn hj h
  omega
theorem outK_hit {n : Nat} {base left ms : List Int} {y : Int} {k c : Nat} (hn : left.Nodup) (h : left[k]? = some (c : Int)) (hc : c < n) (hm : inL ms (c : Int) = false) :
    (outK n base left ms y k)[c]? = some (base.getD c 0) ∧ outK n base left ms y (k + 1) = (outK n base left ms y k).set c (base.getD c 0 + y) := by
  have h0 := not_in_take hn h
  refine ⟨by rw [get_outK _ _ _ _ _ hc, h0]; simp, ?_⟩
  refine List.ext_getElem? fun i => ?_
  by_cases hi : i < n
  · rw [get_outK _ _ _ _ _ hi, inL_take_succ h, List.getElem?_set]
    by_cases e : c = i
    · subst e
      simp [hm, length_outK, hi]
    · rw [if_neg e, get_outK _ _ _ _ _ hi]
      have : decide ((i : Int) = (c : Int)) = false := decide_eq_false (by omega)
      rw [this, Bool.or_false]
  · rw [List.getElem?_eq_none (by rw [length_outK]; omega), List.getElem?_eq_none (by rw [List.length_set, length_outK]; omega)]
theorem outK_miss {n : Nat} {base left ms : List Int} {y : Int} {k : Nat} {c : Int} (h : left[k]? = some c) (hm : inL ms c = true) : outK n base left ms y (k + 1) = outK n base left ms y k := by
  refine List.ext_getElem? fun i => ?_
  by_cases hi : i < n
  · rw [get_outK _ _ _ _ _ hi, get_outK _ _ _ _ _ hi, inL_take_succ h]
    by_cases e : (i : Int) = c
    · rw [e, hm]; simp
    · rw [decide_eq_false e, Bool.or_false]
  · rw [List.getElem?_eq_none (by rw [length_outK]; omega), List.getElem?_eq_none (by rw [length_outK]; omega)]
/-- Is one of the first k missing? -/
def someK (left ms : List Int) (k : Nat) : Bool := (left.take k).any fun c => !inL ms c
theorem someK_zero (left ms : List Int) : someK left ms 0 = false := by unfold someK; simp
theorem someK_succ {left ms : List Int} {k : Nat} {c : Int} (h : left[k]? = some c) : someK left ms (k + 1) = (someK left ms k || !inL ms c) := by
  unfold someK; rw [List.take_add_one, h, List.any_append]; simp
theorem someK_all (left ms : List Int) {k : Nat} (hk : left.length ≤ k) : someK left ms k = !left.all (inL ms) := by
  unfold someK
  rw [List.take_of_length_le hk, List.not_all_eq_any_not]
/-- Where the last of the first k stands. -/
def lastK (left ms : List Int) : Nat → Int
  | 0 => -1
  | k + 1 => match left[k]? with
    | some c => if lastK left ms k < Lib.idxOf ms c then Lib.idxOf ms c else lastK left ms k
    | none => lastK left ms k
theorem lastK_succ {left ms : List Int} {k : Nat} {c : Int} (h : left[k]? = some c) : lastK left ms (k + 1) = if lastK left ms k < Lib.idxOf ms c then Lib.idxOf ms c else lastK left ms k := by
  show (match left[k]? with | some c => _ | none => _) = _
  rw [h]
theorem idx_get {xs : List Int} {x : Int} : (Lib.idxOf xs x = -1 ∧ x ∉ xs) ∨ ∃ i : Nat, Lib.idxOf xs x = i ∧ xs[i]? = some x ∧ ∀ j, j < i → xs[j]? ≠ some x := by
  have : ∀ (xs : List Int) (k : Nat), (Lib.idxFrom xs x k = -1 ∧ x ∉ xs) ∨ ∃ i : Nat, Lib.idxFrom xs x k = ((k + i : Nat) : Int) ∧ xs[i]? = some x ∧ ∀ j, j < i → xs[j]? ≠ some x := by
    intro xs
    induction xs with
    | nil => intro k; exact .inl ⟨rfl, by simp⟩
    | cons a r ih =>
      intro k
      by_cases e : a = x
      · subst e; right; exact ⟨0, by simp [Lib.idxFrom], by simp, fun j hj => absurd hj (Nat.not_lt_zero _)⟩
      · rcases ih (k + 1) with ⟨h1, h2⟩ | ⟨i, h1, h2, h3⟩
        · left; exact ⟨by simpa [Lib.idxFrom, e] using h1, by simp [h2, Ne.symm e]⟩
        · right
          refine ⟨i + 1, ?_, by simpa using h2, fun j hj => ?_⟩
          · simp only [Lib.idxFrom, if_neg e, h1]; omega
          · cases j with
            | zero => simpa using e
            | succ j => simpa using h3 j (by omega)
  rcases this xs 0 with h | ⟨i, h1, h2, h3⟩
  · exact .inl h
  · exact .inr ⟨i, by unfold Lib.idxOf; rw [h1]; simp, h2, h3⟩
theorem lastK_bd (left ms : List Int) : ∀ k, -1 ≤ lastK left ms k ∧ lastK left ms k ≤ ms.length
  | 0 => ⟨Int.le_refl _, by show (-1 : Int) ≤ _; omega⟩
  | k + 1 => by
    have ih := lastK_bd left ms k
    cases h : left[k]? with
    | none => show -1 ≤ (match left[k]? with | some c => _ | none => _) ∧ (match left[k]? with | some c => _ | none => _) ≤ _; rw [h]; exact ih
    | some c =>
      rw [lastK_succ h]
      have := idx_bd ms c
      split <;> omega
/-- The place is that of one of the first k, and none of them stands behind it. -/
theorem lastK_of (left ms : List Int) : ∀ k, (lastK left ms k = -1 ∨ ∃ c ∈ left.take k, Lib.idxOf ms c = lastK left ms k) ∧ ∀ c ∈ left.take k, Lib.idxOf ms c ≤ lastK left ms k
  | 0 => ⟨.inl rfl, by simp⟩
  | k + 1 => by
    have ih := lastK_of left ms k
    cases h : left[k]? with
    | none =>
      have e : left.take (k + 1) = left.take k := by rw [List.take_add_one, h]; simp
      have e2 : lastK left ms (k + 1) = lastK left ms k := by show (match left[k]? with | some c => _ | none => _) = _; rw [h]
      rw [e, e2]; exact ih
    | some c =>
      have e : left.take (k + 1) = left.take k ++ [c] := by rw [List.take_add_one, h]; simp
      rw [lastK_succ h, e]
      by_cases hlt : lastK left ms k < Lib.idxOf ms c
      · rw [if_pos hlt]
        refine ⟨.inr ⟨c, by simp, rfl⟩, fun d hd => ?_⟩
        rcases List.mem_append.1 hd with hd | hd
        · have := ih.2 d hd; omega
        · rw [List.mem_singleton.1 hd]; exact Int.le_refl _
      · rw [if_neg hlt]
        refine ⟨ih.1.imp id fun ⟨d, hd, hd2⟩ => ⟨d, List.mem_append_left _ hd, hd2⟩, fun d hd => ?_⟩
        rcases List.mem_append.1 hd with hd | hd
        · exact ih.2 d hd
        · rw [List.mem_singleton.1 hd]; omega
theorem find_rev {φ : Int → Bool} : ∀ {ms : List Int} {i : Nat} {v : Int}, ms[i]? = some v → φ v = true → (∀ j u, i < j → ms[j]? = some u → φ u = false) → ms.reverse.find? φ = some v
  | [], i, v, h, _, _ => by simp at h
  | a :: r, i, v, h, hv, hn => by
    rw [List.reverse_cons, List.find?_append]
    cases i with
    | zero =>
      simp at h; subst h
      have : r.reverse.find? φ = none := List.find?_eq_none.2 fun x hx => by
        obtain ⟨j, hj⟩ := List.getElem?_of_mem (List.mem_reverse.1 hx)
        rw [hn (j + 1) x (by omega) (by simpa using hj)]; simp
      rw [this]; simp [hv]
    | succ i =>
      rw [find_rev (ms := r) (i := i) (by simpa using h) hv (fun j u hj hu => hn (j + 1) u (by omega) (by simpa using hu))]; rfl
/-- Nobody is missing: the last of left on the ballot. -/
theorem last_found {left ms : List Int} (hnd : ms.Nodup) (hall : left.all (inL ms) = true) {k : Nat} (hk : left.length ≤ k) : (lastK left ms k = -1 ∧ ms.reverse.find? (inL left) = none) ∨ ∃ (i : Nat) (v : Int), lastK left ms k = i ∧ ms[i]? = some v ∧ ms.reverse.find? (inL left) = some v := by
  have hall := List.all_eq_true.1 hall
  obtain ⟨h1, h2⟩ := lastK_of left ms k
  rw [List.take_of_length_le hk] at h1 h2
  cases left with
  | nil =>
    left
    rcases h1 with h1 | ⟨c, hc, _⟩
    · exact ⟨h1, List.find?_eq_none.2 fun x _ => by rw [inL_nil]; simp⟩
    · simp at hc
  | cons a r =>
    right
    have hpos : ∀ c ∈ a :: r, ∃ i : Nat, Lib.idxOf ms c = i ∧ ms[i]? = some c := fun c hc => by
      rcases idx_get (xs := ms) (x := c) with ⟨_, h⟩ | ⟨i, h1, h2, _⟩
      · exact absurd (inL_iff.1 (hall c hc)) h
      · exact ⟨i, h1, h2⟩
    have ha := h2 a (List.mem_cons_self ..)
    obtain ⟨i0, hi0, _⟩ := hpos a (List.mem_cons_self ..)
    rcases h1 with h1 | ⟨c, hc, hcl⟩
    · omega
    · obtain ⟨i, hi, hv⟩ := hpos c hc
      refine ⟨i, c, by omega, hv, find_rev hv (inL_iff.2 hc) fun j u hj hu => ?_⟩
      rw [← Bool.not_eq_true, inL_iff]
      intro hul
      obtain ⟨j', hj', hv'⟩ := hpos u hul
      have hle := h2 u hul
      have := nodup_ix hnd hu hv'
      omega
theorem badS_succ (left : List Int) {l : List Row} {t : Nat} {ms : List Int} {y : Int} (hat : l[t]? = some (ms, y)) (x : Int) : badS left (l.take (t + 1)) x = badS left (l.take t) x + if agB left ms x = true then y else 0 := wsum_take_succ _ hat
theorem bad_some {left : List Int} {l : List Row} {n t k : Nat} {ms : List Int} {y : Int} (hat : l[t]? = some (ms, y)) (hk : left.length ≤ k) (hs : someK left ms k = true) : outK n (badL left (l.take t) n) left ms y k = badL left (l.take (t + 1)) n := by
  rw [someK_all left ms hk] at hs
  refine List.ext_getElem? fun i => ?_
  by_cases hi : i < n
  · rw [get_outK _ _ _ _ _ hi, get_badL _ _ hi, badS_succ left hat, List.take_of_length_le hk]
    have ha : agB left ms (i : Int) = (inL left (i : Int) && !inL ms (i : Int)) := by
      unfold agB
      have hs' : ¬ left.all (inL ms) = true := by rw [Bool.not_eq_true', ← Bool.not_eq_true] at hs; exact hs
      rw [if_neg hs']
    rw [ha]
    simp [List.getD, get_badL left (l.take t) hi]
  · rw [List.getElem?_eq_none (by rw [length_outK]; omega), List.getElem?_eq_none (by rw [length_badL]; omega)]
theorem bad_base {left : List Int} {l : List Row} {n t k : Nat} {ms : List Int} {y : Int} (hk : left.length ≤ k) (hs : someK left ms k = false) : outK n (badL left (l.take t) n) left ms y k = badL left (l.take t) n := by
  rw [someK_all left ms hk] at hs
  simp only [Bool.not_eq_false', List.all_eq_true] at hs
  refine List.ext_getElem? fun i => ?_
  by_cases hi : i < n
  · rw [get_outK _ _ _ _ _ hi, get_badL _ _ hi, List.take_of_length_le hk]
    have : (inL left (i : Int) && !inL ms (i : Int)) = false := by
      cases h : inL left (i : Int) with
      | false => rfl
      | true => rw [hs _ (inL_iff.1 h)]; rfl
    rw [this]
    simp [List.getD, get_badL left (l.take t) hi]
  · rw [List.getElem?_eq_none (by rw [length_outK]; omega), List.getElem?_eq_none (by rw [length_badL]; omega)]
theorem bad_none {left : List Int} {l : List Row} {n t k : Nat} {ms : List Int} {y : Int} (hat : l[t]? = some (ms, y)) (hk : left.length ≤ k) (hs : someK left ms k = false) (hf : ms.reverse.find? (inL left) = none) : badL left (l.take (t + 1)) n = badL left (l.take t) n := by
  rw [someK_all left ms hk] at hs
  simp only [Bool.not_eq_false'] at hs
  unfold badL
  refine List.map_congr_left fun x _ => ?_
  rw [badS_succ left hat]
  unfold agB
  rw [if_pos hs, hf]
  simp
theorem bad_last {left : List Int} {l : List Row} {n t k v : Nat} {ms : List Int} {y : Int} (hat : l[t]? = some (ms, y)) (hk : left.length ≤ k) (hs : someK left ms k = false) (hf : ms.reverse.find? (inL left) = some (v : Int)) : badL left (l.take (t + 1)) n = (badL left (l.take t) n).set v (badS left (l.take t) (v : Int) + y) := by
  rw [someK_all left ms hk] at hs
  simp only [Bool.not_eq_false'] at hs
  refine List.ext_getElem? fun i => ?_
  by_cases hi : i < n
  · rw [get_badL _ _ hi, badS_succ left hat, List.getElem?_set]
    unfold agB
    rw [if_pos hs, hf]
    by_cases e : v = i
    · subst e
      simp [length_badL, hi]
    · rw [if_neg e, get_badL _ _ hi]
      have : ¬ (v : Int) = (i : Int) := by omega
      simp [this]
  · rw [List.getElem?_eq_none (by rw [length_badL]; omega), List.getElem?_eq_none (by rw [List.length_set, length_badL]; omega)]
theorem marks_once {c k : Int} {l : List Row} (h : checkS c k l = 0) (hk : k = 1) : ∀ r ∈ l, r.1.Nodup := fun r hr => by
  obtain ⟨h1, h2, h3, _, _, h4, _, h5, h6⟩ := check_iff.1 h
  have hb := h6 r hr
  subst hk
  unfold bcheckS at hb
  split at hb
  · cases hb
  split at hb
  · rename_i hf
    rw [fineS_1] at hf
    simp only [Bool.and_eq_true] at hf
    exact of_decide_eq_true hf.2
  · cases hb
end Go.Proofs.YtolbceckbnifmaaGreat

namespace Go.Proofs.YtolbceckbnifmaaGreat
open Go.RowKit Go.Proofs

/-- Whom most ballots are against. -/
def mostS (l : List Row) (n : Nat) (left : List Int) : List Int := bestS (getI (badL left l n)) left
/-- The count from a state on. -/
def countB (l : List Row) (n : Nat) (lot : List Int) : Nat → List Int → List Rnd → List Row → Outc
  | 0, _, rs, ts => ([], rs, ts)
  | f + 1, left, rs, ts =>
    match winS left (hadL (inL left) l n) with
    | some x => ([x], rs ++ [rndS (hadL (inL left) l n) (lostS (inL left) l) [x] []], ts)
    | none => countB l n lot f (outS left (lastS lot (mostS l n left)))
        (rs ++ [rndS (hadL (inL left) l n) (lostS (inL left) l) [] [lastS lot (mostS l n left)]])
        (tiedS ts (mostS l n left) (lastS lot (mostS l n left)))
theorem countB_some {l : List Row} {n : Nat} {lot : List Int} {f : Nat} {left : List Int} {rs : List Rnd} {ts : List Row} {x : Int} (h : winS left (hadL (inL left) l n) = some x) :
    countB l n lot (f + 1) left rs ts = ([x], rs ++ [rndS (hadL (inL left) l n) (lostS (inL left) l) [x] []], ts) := by simp only [countB, h]
theorem countB_none {l : List Row} {n : Nat} {lot : List Int} {f : Nat} {left : List Int} {rs : List Rnd} {ts : List Row} (h : winS left (hadL (inL left) l n) = none) :
    countB l n lot (f + 1) left rs ts = countB l n lot f (outS left (lastS lot (mostS l n left)))
        (rs ++ [rndS (hadL (inL left) l n) (lostS (inL left) l) [] [lastS lot (mostS l n left)]])
        (tiedS ts (mostS l n left) (lastS lot (mostS l n left))) := by simp only [countB, h]
/-- A state of the rounds: who is left, what has been. -/
structure CbInv (l : List Row) (C : Nat) (lot left : List Int) (rs : List Rnd) (ts : List Row) : Prop where
  sub : left.Sublist (rangeI C)
  ne : left ≠ []
  nrs : rs.length + left.length ≤ C
  nts : ts.length + left.length ≤ C
  out : countB l C lot left.length left rs ts = countB l C lot C (rangeI C) [] []
theorem CbInv.start (l : List Row) {C : Nat} (lot : List Int) (h : 1 ≤ C) : CbInv l C lot (rangeI C) [] [] :=
  ⟨List.Sublist.refl _, fun e => by have := congrArg List.length e; rw [length_rangeI] at this; simp at this; omega, by simp [length_rangeI], by simp [length_rangeI], by rw [length_rangeI]⟩
theorem CbInv.won {l : List Row} {C : Nat} {lot left : List Int} {rs : List Rnd} {ts : List Row} (h : CbInv l C lot left rs ts) {x : Int} (hw : winS left (hadL (inL left) l C) = some x) : countB l C lot C (rangeI C) [] [] = ([x], rs ++ [rndS (hadL (inL left) l C) (lostS (inL left) l) [x] []], ts) := by
  rw [← h.out]
  obtain ⟨f, e⟩ : ∃ f, left.length = f + 1 := ⟨left.length - 1, by have := List.length_pos_iff.2 h.ne; omega⟩
  rw [e, countB_some hw]
theorem most_sub (l : List Row) (C : Nat) (left : List Int) : (mostS l C left).Sublist left := bestS_sub _ _
theorem most_ne {l : List Row} {C : Nat} {left : List Int} (h : left ≠ []) : mostS l C left ≠ [] := bestS_ne h
theorem most_last {l : List Row} {C : Nat} {lot left : List Int} (hsub : left.Sublist (rangeI C)) (hne : left ≠ []) (hlot : lotS lot C = true) : lastS lot (mostS l C left) ∈ mostS l C left :=
  lastS_mem (most_ne hne) fun _ hx => lot_in hlot (hsub.subset ((most_sub l C left).subset hx))
theorem CbInv.next {l : List Row} {C : Nat} {lot left : List Int} {rs : List Rnd} {ts : List Row} (h : CbInv l C lot left rs ts) (hlot : lotS lot C = true) (hw : winS left (hadL (inL left) l C) = none) :
    CbInv l C lot (outS left (lastS lot (mostS l C left)))
        (rs ++ [rndS (hadL (inL left) l C) (lostS (inL left) l) [] [lastS lot (mostS l C left)]])
        (tiedS ts (mostS l C left) (lastS lot (mostS l C left))) ∧ (outS left (lastS lot (mostS l C left))).length < left.length := by
  have hm := (most_sub l C left).subset (most_last (l := l) h.sub h.ne hlot)
  have hl := length_outS ((nodup_rangeI C).sublist h.sub) hm
  have hn1 : left.length ≠ 1 := fun e => win_of_one e hw
  have hp := List.length_pos_iff.2 h.ne
  have ht := length_tiedS ts (mostS l C left) (lastS lot (mostS l C left))
  have h1 := h.nrs
  have h2 := h.nts
  refine ⟨⟨(outS_sub _ _).trans h.sub, List.length_pos_iff.1 (by omega), by rw [List.length_append]; simp; omega, by omega, ?_⟩, by omega⟩
  rw [← h.out, show left.length = (outS left (lastS lot (mostS l C left))).length + 1 by omega, countB_none hw]
def runB (c k : Int) (l : List Row) (seats : Int) (lot : List Int) : Outc := if mayS c k l 1 seats 1 lot = 0 then countB l c.toNat lot c.toNat (rangeI c.toNat) [] [] else ([], [], [])
theorem runB_ok {c k : Int} {l : List Row} {seats : Int} {lot : List Int} (h : mayS c k l 1 seats 1 lot = 0) : runB c k l seats lot = countB l c.toNat lot c.toNat (rangeI c.toNat) [] [] := if_pos h
theorem runB_bad {c k : Int} {l : List Row} {seats : Int} {lot : List Int} (h : mayS c k l 1 seats 1 lot ≠ 0) : runB c k l seats lot = ([], [], []) := if_neg h
/-- The truth values of who is left. -/
def StayOK (C : Nat) (bs : List Bool) (left : List Int) : Prop := bs.length = C ∧ ∀ x, isS bs x = inL left x
theorem StayOK.start (C : Nat) : StayOK C (List.replicate C true) (rangeI C) := by
  refine ⟨by simp, fun x => ?_⟩
  rw [Bool.eq_iff_iff, inL_iff, mem_rangeI]
  unfold isS
  rw [Bool.and_eq_true, inR_iff]
  simp only [List.length_replicate]
  constructor
  · exact fun h => h.1
  · intro h
    refine ⟨h, ?_⟩
    have : x.toNat < C := by omega
    simp [List.getD, this]
theorem StayOK.out {C : Nat} {bs : List Bool} {left : List Int} (h : StayOK C bs left) {X : Nat} (hX : X < C) : StayOK C (bs.set X false) (outS left (X : Int)) := by
  refine ⟨by rw [List.length_set]; exact h.1, fun x => ?_⟩
  have h2 := h.2 x
  by_cases hx : 0 ≤ x
  · obtain ⟨Y, rfl⟩ : ∃ Y : Nat, x = Y := ⟨x.toNat, by omega⟩
    rw [isS_getD] at h2 ⊢
    have e : inL (outS left (X : Int)) (Y : Int) = (inL left (Y : Int) && !decide ((Y : Int) = (X : Int))) := by
      rw [Bool.eq_iff_iff, Bool.and_eq_true, inL_iff, inL_iff]
      unfold outS
      rw [List.mem_filter]
    rw [e, ← h2]
    by_cases hY : Y = X
    · subst hY; simp [List.getD, h.1, hX]
    · have : ¬ ((Y : Int) = (X : Int)) := by omega
      simp [List.getD, this, Ne.symm hY]
  · have h3 : ∀ bs : List Bool, isS bs x = false := fun bs => by
      cases hb : isS bs x with
      | false => rfl
      | true => unfold isS at hb; rw [Bool.and_eq_true] at hb; have := (inR_iff.1 hb.1).1; omega
    rw [h3] at h2 ⊢
    symm
    rw [← Bool.not_eq_true, inL_iff]
    intro hm
    rw [inL_iff.2 ((outS_sub _ _).subset hm)] at h2
    cases h2
end Go.Proofs.YtolbceckbnifmaaGreat
