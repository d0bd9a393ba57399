/-
  Who has the most: the outcome that elects the one; Copeland and minimax, in plain terms. No program is named here.
-/
import Derived.Test.YtkhclcdmehjfkaaGreatSpecPa
import Derived.Test.YtkhclcdmehjfkaaGreatW3c
import Derived.Test.YtkhclcdmehjfkaaGreatW11g
namespace Go.Proofs.YtkhclcdmehjfkaaGreat

/-- The outcome that elects the candidate with the most of f; g says how a number is shown. -/
def mostO (f : Int → Int) (g : Int → Rat3) (C : Nat) (lot : List Int) : Outc :=
  ([frstS lot (bestS f (rangeI C))], [((rangeI C).map fun y => g (f y), wholeS 0, [frstS lot (bestS f (rangeI C))], [])], tiedS [] (bestS f (rangeI C)) (frstS lot (bestS f (rangeI C))))
/-- Twice the Copeland score against the first Y. -/
def copP (m : M) (x : Nat) : Nat → Int
  | 0 => 0
  | Y + 1 => copP m x Y + if m Y x < m x Y then 2 else if m x Y = m Y x ∧ x ≠ Y then 1 else 0
theorem copP_succ (m : M) (x Y : Nat) : copP m x (Y + 1) = copP m x Y + if m Y x < m x Y then 2 else if m x Y = m Y x ∧ x ≠ Y then 1 else 0 := rfl
theorem copP_bd (m : M) (x : Nat) : ∀ Y, 0 ≤ copP m x Y ∧ copP m x Y ≤ 2 * Y
  | 0 => by simp [copP]
  | Y + 1 => by
    have := copP_bd m x Y
    rw [copP_succ]
    split
    · omega
    · split <;> omega
def copF (m : M) (C : Nat) (x : Int) : Int := copP m x.toNat C
/-- The worst margin against the first Y, or 0. -/
def worP (m : M) (x : Nat) : Nat → Int
  | 0 => 0
  | Y + 1 => min (worP m x Y) (m x Y - m Y x)
theorem worP_succ (m : M) (x Y : Nat) : worP m x (Y + 1) = min (worP m x Y) (m x Y - m Y x) := rfl
theorem worP_bd {m : M} (h : Bd m) {x : Nat} (hx : x < 10) : ∀ {Y : Nat}, Y ≤ 10 → -1000000 ≤ worP m x Y ∧ worP m x Y ≤ 0
  | 0, _ => by simp [worP]
  | Y + 1, hY => by
    have h1 := worP_bd h hx (Y := Y) (by omega)
    have h2 := h x Y hx (by omega)
    have h3 := h Y x (by omega) hx
    rw [worP_succ]
    omega
def worF (m : M) (C : Nat) (x : Int) : Int := worP m x.toNat C
/-- Half of n. -/
def halfS (n : Int) : Rat3 := (false, (lowS n.toNat 2).1, (lowS n.toNat 2).2)
def copO (m : M) (C : Nat) (lot : List Int) : Outc := mostO (copF m C) halfS C lot
def minO (m : M) (C : Nat) (lot : List Int) : Outc := mostO (worF m C) (fun n => wholeS (-n)) C lot
/-- What count hands back. -/
def cmostR (f : Int → Int) (g : Int → Rat3) (c k : Int) (l : List Row) (seats : Int) (lot : List Int) : Outc := if mayS c k l 1 seats 1 lot = 0 then mostO f g c.toNat lot else ([], [], [])
theorem cmostR_ok {f : Int → Int} {g : Int → Rat3} {c k : Int} {l : List Row} {seats : Int} {lot : List Int} (h : mayS c k l 1 seats 1 lot = 0) : cmostR f g c k l seats lot = mostO f g c.toNat lot := if_pos h
theorem cmostR_bad {f : Int → Int} {g : Int → Rat3} {c k : Int} {l : List Row} {seats : Int} {lot : List Int} (h : mayS c k l 1 seats 1 lot ≠ 0) : cmostR f g c k l seats lot = ([], [], []) := if_neg h
def copR (c k : Int) (l : List Row) (seats : Int) (lot : List Int) : Outc := cmostR (copF (ofR c k l) c.toNat) halfS c k l seats lot
def minR (c k : Int) (l : List Row) (seats : Int) (lot : List Int) : Outc := cmostR (worF (ofR c k l) c.toNat) (fun n => wholeS (-n)) c k l seats lot
theorem copR_ok {c k : Int} {l : List Row} {seats : Int} {lot : List Int} (h : mayS c k l 1 seats 1 lot = 0) : copR c k l seats lot = copO (ofR c k l) c.toNat lot := cmostR_ok h
theorem minR_ok {c k : Int} {l : List Row} {seats : Int} {lot : List Int} (h : mayS c k l 1 seats 1 lot = 0) : minR c k l seats lot = minO (ofR c k l) c.toNat lot := cmostR_ok h
end Go.Proofs.YtkhclcdmehjfkaaGreat
