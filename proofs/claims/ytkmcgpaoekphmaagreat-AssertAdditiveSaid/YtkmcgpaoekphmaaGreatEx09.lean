/-
  Several facts about memory at once.
-/
import Derived.Test.YtkmcgpaoekphmaaGreatW9x
import Derived.Test.YtkmcgpaoekphmaaGreatW9u
import Derived.Test.YtkmcgpaoekphmaaGreatW9p
import Derived.Test.YtkmcgpaoekphmaaGreatW9e
namespace Go.Proofs.YtkmcgpaoekphmaaGreat
open Go.RowKit Go.Proofs

/-- A fact about memory that new memory does not touch. -/
structure Fact where
  p : World → Prop
  st : ∀ {w w' : World}, p w → Below w.heap.size w w' → p w'
/-- All of them hold. -/
def Fs (w : World) : List Fact → Prop
  | [] => True
  | f :: r => f.p w ∧ Fs w r
def fHas (g : Nat) (t : TypeId) (C : Array Value) : Fact := ⟨fun w => Has w g t C, fun h hb => h.below hb h.lt⟩
def fInts (A : Option Addr) (n c : Nat) (xs : List Int) : Fact := ⟨fun w => RInts w A n c xs, fun h hb => h.below hb⟩
def fRows (A : Option Addr) (n c : Nat) (l : List Row) : Fact := ⟨fun w => RRows w A n c l, fun h hb => h.below hb⟩
def fOwn (B : Nat) (v : Value) (l : List Row) : Fact := ⟨fun w => ORows w B v l, fun h hb => h.below hb⟩
theorem Fs.below {w w' : World} : ∀ {S : List Fact}, Fs w S → Below w.heap.size w w' → Fs w' S
  | [], _, _ => trivial
  | f :: _, h, hb => ⟨f.st h.1 hb, Fs.below h.2 hb⟩
theorem Fs.nil (w : World) : Fs w [] := trivial
theorem Fs.has {w : World} {S : List Fact} (h : Fs w S) {g : Nat} {t : TypeId} {C : Array Value} (k : Has w g t C) : Fs w (fHas g t C :: S) := ⟨k, h⟩
theorem Fs.ints {w : World} {S : List Fact} (h : Fs w S) {A : Option Addr} {n c : Nat} {xs : List Int} (k : RInts w A n c xs) : Fs w (fInts A n c xs :: S) := ⟨k, h⟩
theorem Fs.rows {w : World} {S : List Fact} (h : Fs w S) {A : Option Addr} {n c : Nat} {xs : List Row} (k : RRows w A n c xs) : Fs w (fRows A n c xs :: S) := ⟨k, h⟩
theorem Fs.own {w : World} {S : List Fact} (h : Fs w S) {B : Nat} {v : Value} {xs : List Row} (k : ORows w B v xs) : Fs w (fOwn B v xs :: S) := ⟨k, h⟩

end Go.Proofs.YtkmcgpaoekphmaaGreat

/-
  The chapter's examples, in plain terms.
-/
namespace Go.Proofs.YtkmcgpaoekphmaaGreat
open Go.RowKit Go.Proofs

def e1 : List Row := [([0, 1], 3)]
def e2 : List Row := [([0, 1], 3), ([1], 2)]
def e3 : List Row := [([0, 1], 4), ([1], 2)]
end Go.Proofs.YtkmcgpaoekphmaaGreat
