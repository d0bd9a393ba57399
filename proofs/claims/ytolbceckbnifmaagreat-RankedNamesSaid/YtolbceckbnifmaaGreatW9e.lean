/-
  The number of ballots, and of those with marks: the program's count, Many, Marked; the reference's Many, Marked.
-/
import Derived.Test.YtolbceckbnifmaaGreatW9a
import Derived.Test.YtolbceckbnifmaaGreatSpecA
namespace Go.Proofs.YtolbceckbnifmaaGreat
open Go.RowKit Go.Proofs
attribute [local go_sem] cell?_more cell?_alloc_some cell?_setCell_far frozen?_alloc_some frozen?_more

/-- The counts of the rows that satisfy p. -/
def cntP (p : Row → Bool) (l : List Row) : Int := (l.map fun r => if p r then r.2 else 0).sum
def cntV (c k : Int) (l : List Row) (p : Row → Bool) : Int := if checkS c k l = 0 then cntP p l else 0
def anyRow (_ : Row) : Bool := true
def someRow (r : Row) : Bool := decide (0 < r.1.length)

theorem cntP_take_succ {p : Row → Bool} {l : List Row} {i : Nat} {r : Row} (h : l[i]? = some r) : cntP p (l.take (i + 1)) = cntP p (l.take i) + if p r then r.2 else 0 := by
  unfold cntP
  rw [List.take_add_one, h]
  simp
theorem cntP_bd {p : Row → Bool} {c k : Int} {l : List Row} (h : checkS c k l = 0) : ∀ i, i ≤ l.length → 0 ≤ cntP p (l.take i) ∧ cntP p (l.take i) ≤ totS (l.take i)
  | 0, _ => by simp [cntP, totS]
  | i + 1, hi => by
    obtain ⟨_, _, _, _, _, _, h7⟩ := check_ok h
    have hl : i < l.length := by omega
    have he := List.getElem?_eq_getElem hl
    have h1 := cntP_bd (p := p) h i (by omega)
    have h2 := rowOK_many (h7 i hl)
    rw [getD_of he] at h2
    rw [cntP_take_succ he, totS_take_succ he]
    split <;> omega
theorem cntP_any (l : List Row) : cntP anyRow l = totS l := by simp [cntP, anyRow, totS]
theorem cntP_room {p : Row → Bool} {c k : Int} {l : List Row} (h : checkS c k l = 0) {i : Nat} {ms : List Int} {y : Int} (hat : l[i]? = some (ms, y)) :
    0 < y ∧ 0 ≤ cntP p (l.take i) ∧ cntP p (l.take i) + y ≤ 1000000 := by
  obtain ⟨_, _, _, _, _, h6, h7⟩ := check_ok h
  have hl := (List.getElem?_eq_some_iff.1 hat).1
  have h1 := cntP_bd (p := p) h i (by omega)
  have h2 := rowOK_many (h7 i hl)
  have h3 := totS_mono (l := l) (fun i hi => rowOK_many (h7 i hi)) (a := i + 1) (b := l.length) (by omega) (Nat.le_refl _)
  rw [getD_of hat] at h2
  rw [totS_take_succ hat, List.take_length] at h3
  simp only at h2 h3
  omega

theorem ret_ii {a b a' b' : Int} (h1 : a = a') (h2 : b = b') : Ending.returned (.tuple #[.int .i64 a, .int .i64 b]) = .returned (.tuple #[.int .i64 a', .int .i64 b']) := by rw [h1, h2]

theorem cap_tot {c k : Int} {l : List Row} (h : checkS c k l = 0) : capS l l.length = totS l := by
  obtain ⟨_, _, _, _, _, h6, _⟩ := check_ok h
  unfold capS
  rw [List.take_length, if_neg (by omega)]

end Go.Proofs.YtolbceckbnifmaaGreat
