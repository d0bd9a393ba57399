/-
  Assertions in plain terms: validity, the value of a ballot. No program is named here.
  The assertions of an outcome, in plain terms. No program is named here.
-/
import Derived.Test.YtoeajgjpakilgaaGreatSpecA
import Derived.Test.YtoeajgjpakilgaaGreatSpecC
namespace Go.Proofs.YtoeajgjpakilgaaGreat

/-- An assertion: its kind, the winner, the loser, who is left. -/
abbrev Asn := Int × Int × Int × List Int

/-- The i-th of l is a candidate, and greater than the one before. -/
def riseAt (c : Int) (l : List Int) (i : Nat) : Bool := inR 0 c (l.getD i 0) && (decide (i = 0) || decide (l.getD (i - 1) 0 < l.getD i 0))
/-- Candidates in increasing order. -/
def riseB (c : Int) (l : List Int) : Bool := allN l.length (riseAt c l)
theorem allN_succ {n : Nat} {p : Nat → Bool} (h : allN n p = true) (hp : p n = true) : allN (n + 1) p = true :=
  allN_true.2 fun i hi => by
    rcases Nat.lt_or_ge i n with h1 | h1
    · exact allN_true.1 h i h1
    · obtain rfl : i = n := by omega
      exact hp
theorem allN_zero (p : Nat → Bool) : allN 0 p = true := allN_true.2 fun i hi => by omega

/-- The value of a ballot that supports the winner, an opponent, or neither. -/
def sideS (a b : Bool) : Int := if (a && !b) = true then 2 else if (b && !a) = true then 0 else 1
theorem sideS_bd (a b : Bool) : 0 ≤ sideS a b ∧ sideS a b ≤ 2 := by cases a <;> cases b <;> decide
/-- What an assertion of kind k says beside. -/
def tailA (k x y : Int) (L : List Int) : Bool :=
  if k = 1 ∨ k = 2 ∨ k = 3 then decide (x ≠ y) && decide (L.length = 0)
  else if k = 4 then decide (x ≠ y) && inL L x && inL L y
  else if k = 5 then decide (y = 0) && inL L x && decide (1 < L.length)
  else false
def fineA (k x y : Int) (L : List Int) (c : Int) : Bool := inR 0 c x && inR 0 c y && riseB c L && tailA k x y L
/-- The error of an assertion among c candidates. -/
def checkA (k x y : Int) (L : List Int) (c : Int) : Int := if c < 1 ∨ 10 < c then 2 else if fineA k x y L c = true then 0 else 8
/-- The kind of its ballots. -/
def kindA (k : Int) : Int := if k = 1 ∨ k = 2 then 2 else 1
/-- The first on a ballot who is left. -/
def firstL (ms L : List Int) : Option Int := ms.find? (inL L)
def onlyB (ms : List Int) (x : Int) : Bool := decide (ms.length = 1) && decide (ms.getD 0 0 = x)
/-- Who the ballot supports, by kind. -/
def winA (k x y : Int) (L ms : List Int) : Bool :=
  if k = 1 then onlyB ms x else if k = 2 then inL ms x else if k = 3 then prefersS 1 ms x y else decide (firstL ms L = some x)
def loseA (k x y : Int) (L ms : List Int) : Bool :=
  if k = 1 then onlyB ms y else if k = 2 then inL ms y else if k = 3 then prefersS 1 ms y x else if k = 4 then decide (firstL ms L = some y)
  else (firstL ms L).isSome && decide (firstL ms L ≠ some x)
/-- The value of a ballot. -/
def worthA (k x y : Int) (L ms : List Int) : Int := sideS (winA k x y L ms) (loseA k x y L ms)
theorem worthA_bd (k x y : Int) (L ms : List Int) : 0 ≤ worthA k x y L ms ∧ worthA k x y L ms ≤ 2 := sideS_bd _ _
def valErr (k x y : Int) (L : List Int) (bk : Int) (ms : List Int) (c : Int) : Int :=
  if checkA k x y L c ≠ 0 then checkA k x y L c else if bcheckS bk ms c ≠ 0 ∨ bk ≠ kindA k then 8 else 0
def valueA (k x y : Int) (L : List Int) (bk : Int) (ms : List Int) (c : Int) : Int := if valErr k x y L bk ms c = 0 then worthA k x y L ms else 0

theorem check_zero {k x y : Int} {L : List Int} {c : Int} (h : checkA k x y L c = 0) : (1 ≤ c ∧ c ≤ 10) ∧ fineA k x y L c = true := by
  unfold checkA at h
  split at h
  · cases h
  · split at h
    · rename_i h1 h2; exact ⟨by omega, h2⟩
    · cases h
structure FineA (k x y : Int) (L : List Int) (c : Int) : Prop where
  x0 : 0 ≤ x
  xc : x < c
  y0 : 0 ≤ y
  yc : y < c
  rise : riseB c L = true
  tail : tailA k x y L = true
  k5 : k = 1 ∨ k = 2 ∨ k = 3 ∨ k = 4 ∨ k = 5
  ne : k ≠ 5 → x ≠ y
theorem fine_of {k x y : Int} {L : List Int} {c : Int} (h : fineA k x y L c = true) : FineA k x y L c := by
  unfold fineA at h
  simp only [Bool.and_eq_true, inR_iff] at h
  obtain ⟨⟨⟨h1, h2⟩, h3⟩, h4⟩ := h
  have h5 := h4
  unfold tailA at h5
  refine ⟨h1.1, h1.2, h2.1, h2.2, h3, h4, ?_, ?_⟩
  · split at h5
    · omega
    · split at h5
      · omega
      · split at h5
        · omega
        · cases h5
  · intro hk
    split at h5
    · simp at h5; exact h5.1
    · split at h5
      · simp at h5; exact h5.1.1
      · cases h5
end Go.Proofs.YtoeajgjpakilgaaGreat

namespace Go.Proofs.YtoeajgjpakilgaaGreat
/-- The kind of assertions of a rule; 0 if it has none. -/
def by41 (rule : Nat) : Int := if rule = 1 then 1 else if rule = 2 then 2 else if rule = 5 ∨ rule = 6 ∨ rule = 7 ∨ rule = 8 then 3 else if rule = 9 then 4 else 0
/-- Distinct candidates. -/
def electB (el : List Int) (C : Nat) : Bool := el.all (inR 0 C) && decide el.Nodup
theorem rise_sorted {ys el : List Int} {C : Nat} (hp : ys.Perm el) (hs : ys.Pairwise (· ≤ ·)) : riseB C ys = electB el C := by
  unfold riseB electB
  rw [Bool.eq_iff_iff, allN_true, Bool.and_eq_true, List.all_eq_true, decide_eq_true_eq]
  have hget : ∀ i (h : i < ys.length), ys.getD i 0 = ys[i] := fun i h => by simp [List.getD, h]
  constructor
  · intro h
    refine ⟨fun x hx => ?_, hp.nodup_iff.1 ?_⟩
    · obtain ⟨i, hi, rfl⟩ := List.getElem_of_mem (hp.symm.subset hx)
      have := h i hi
      unfold riseAt at this
      rw [hget i hi, Bool.and_eq_true] at this
      exact this.1
    · rw [List.nodup_iff_pairwise_ne]
      have key : ∀ i j (hi : i < ys.length) (hj : j < ys.length), i < j → ys[i] < ys[j] := by
        intro i j hi hj hij
        induction j with
        | zero => omega
        | succ j ih =>
          have h1 := h (j + 1) hj
          unfold riseAt at h1
          rw [Bool.and_eq_true, Bool.or_eq_true] at h1
          have h2 : ys.getD (j + 1 - 1) 0 < ys.getD (j + 1) 0 := by
            rcases h1.2 with h2 | h2
            · simp at h2
            · simpa using h2
          rw [hget (j + 1) hj, show j + 1 - 1 = j from rfl, hget j (by omega)] at h2
          rcases Nat.lt_or_ge i j with h3 | h3
          · have := ih (by omega) h3; omega
          · obtain rfl : i = j := by omega
            exact h2
      rw [List.pairwise_iff_getElem]
      intro i j hi hj hij e
      have := key i j hi hj hij
      omega
  · rintro ⟨h1, h2⟩ i hi
    have hnd : ys.Nodup := hp.nodup_iff.2 h2
    unfold riseAt
    rw [hget i hi, Bool.and_eq_true]
    refine ⟨h1 _ (hp.subset (List.getElem_mem hi)), ?_⟩
    rcases Nat.eq_zero_or_pos i with h0 | h0
    · simp [h0]
    · rw [hget (i - 1) (by omega), Bool.or_eq_true]
      right
      have hle := List.pairwise_iff_getElem.1 hs (i - 1) i (by omega) hi (by omega)
      have hne := List.pairwise_iff_getElem.1 (List.nodup_iff_pairwise_ne.1 hnd) (i - 1) i (by omega) hi (by omega)
      simp; omega
end Go.Proofs.YtoeajgjpakilgaaGreat
