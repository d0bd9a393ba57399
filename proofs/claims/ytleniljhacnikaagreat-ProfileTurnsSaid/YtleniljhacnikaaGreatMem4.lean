/-
  Several facts about memory at once.
-/
import Derived.Test.YtleniljhacnikaaGreatW9x
namespace Go.Proofs.YtleniljhacnikaaGreat
open Go.RowKit Go.Proofs

/-- A fact about memory that new memory does not touch. -/
structure Fact where
  p : World → Prop
  st : ∀ {w w' : World}, p w → Below w.heap.size w w' → p w'
/-- All of them hold. -/
def Fs (w : World) : List Fact → Prop
  | [] => True
  | f :: r => f.p w ∧ Fs w r
def fHas (g : Nat) (t : TypeId) (C : Array Value) : Fact := ⟨fun w => Has w g t C, fun h hb => h.below hb h.lt⟩
def fInts (A : Option Addr) (n c : Nat) (xs : List Int) : Fact := ⟨fun w => RInts w A n c xs, fun h hb => h.below hb⟩
def fBools (A : Option Addr) (n c : Nat) (bs : List Bool) : Fact := ⟨fun w => RBools w A n c bs, fun h hb => h.below hb⟩
def fRows (A : Option Addr) (n c : Nat) (l : List Row) : Fact := ⟨fun w => RRows w A n c l, fun h hb => h.below hb⟩
def fBals (A : Option Addr) (n c : Nat) (l : List Bal) : Fact := ⟨fun w => RBals w A n c l, fun h hb => h.below hb⟩
def fOwn (B : Nat) (v : Value) (l : List Row) : Fact := ⟨fun w => ORows w B v l, fun h hb => h.below hb⟩
theorem Fs.below {w w' : World} : ∀ {S : List Fact}, Fs w S → Below w.heap.size w w' → Fs w' S
  | [], _, _ => trivial
  | f :: _, h, hb => ⟨f.st h.1 hb, Fs.below h.2 hb⟩
theorem Fs.nil (w : World) : Fs w [] := trivial
theorem Fs.has {w : World} {S : List Fact} (h : Fs w S) {g : Nat} {t : TypeId} {C : Array Value} (k : Has w g t C) : Fs w (fHas g t C :: S) := ⟨k, h⟩
theorem Fs.ints {w : World} {S : List Fact} (h : Fs w S) {A : Option Addr} {n c : Nat} {xs : List Int} (k : RInts w A n c xs) : Fs w (fInts A n c xs :: S) := ⟨k, h⟩
theorem Fs.bools {w : World} {S : List Fact} (h : Fs w S) {A : Option Addr} {n c : Nat} {xs : List Bool} (k : RBools w A n c xs) : Fs w (fBools A n c xs :: S) := ⟨k, h⟩
theorem Fs.rows {w : World} {S : List Fact} (h : Fs w S) {A : Option Addr} {n c : Nat} {xs : List Row} (k : RRows w A n c xs) : Fs w (fRows A n c xs :: S) := ⟨k, h⟩
theorem Fs.bals {w : World} {S : List Fact} (h : Fs w S) {A : Option Addr} {n c : Nat} {xs : List Bal} (k : RBals w A n c xs) : Fs w (fBals A n c xs :: S) := ⟨k, h⟩
theorem Fs.own {w : World} {S : List Fact} (h : Fs w S) {B : Nat} {v : Value} {xs : List Row} (k : ORows w B v xs) : Fs w (fOwn B v xs :: S) := ⟨k, h⟩

/-- A block of numbers is a slice of them. -/
theorem ints_of' {w : World} {g t : Nat} (xs : List Int) (h : Has w g t (icells xs)) (hn : xs.length ≤ 9223372036854775807) (hx : ∀ x ∈ xs, -9223372036854775808 ≤ x ∧ x ≤ 9223372036854775807) : RInts w (some ⟨g, 0, none⟩) xs.length xs.length xs := by
  refine ⟨rfl, Nat.le_refl _, hn, hx, fun _ => ⟨g, 0, rfl, fun i hi => ?_⟩⟩
  rw [Nat.zero_add, h.cell]
  simp [icells, List.getD, hi]
end Go.Proofs.YtleniljhacnikaaGreat
