/-
  Several facts about memory at once.
-/
import Derived.Test.YtoeajgjpakilgaaGreatW9x
import Derived.Test.YtoeajgjpakilgaaGreatW9p
namespace Go.Proofs.YtoeajgjpakilgaaGreat
open Go.RowKit Go.Proofs

/-- A fact about memory that new memory does not touch. -/
structure Fact where
  p : World → Prop
  st : ∀ {w w' : World}, p w → Below w.heap.size w w' → p w'
/-- All of them hold. -/
def Fs (w : World) : List Fact → Prop
  | [] => True
  | f :: r => f.p w ∧ Fs w r
def fHas (g : Nat) (t : TypeId) (C : Array Value) : Fact := ⟨fun w => Has w g t C, fun h hb => h.below hb h.lt⟩
def fInts (A : Option Addr) (n c : Nat) (xs : List Int) : Fact := ⟨fun w => RInts w A n c xs, fun h hb => h.below hb⟩
def fBools (A : Option Addr) (n c : Nat) (bs : List Bool) : Fact := ⟨fun w => RBools w A n c bs, fun h hb => h.below hb⟩
def fRows (A : Option Addr) (n c : Nat) (l : List Row) : Fact := ⟨fun w => RRows w A n c l, fun h hb => h.below hb⟩
def fBals (A : Option Addr) (n c : Nat) (l : List Bal) : Fact := ⟨fun w => RBals w A n c l, fun h hb => h.below hb⟩
def fOwn (B : Nat) (v : Value) (l : List Row) : Fact := ⟨fun w => ORows w B v l, fun h hb => h.below hb⟩
theorem Fs.below {w w' : World} : ∀ {S : List Fact}, Fs w S → Below w.heap.size w w' → Fs w' S
  | [], _, _ => trivial
  | f :: _, h, hb => ⟨f.st h.1 hb, Fs.below h.2 hb⟩
theorem Fs.nil (w : World) : Fs w [] := trivial
theorem Fs.has {w : World} {S : List Fact} (h : Fs w S) {g : Nat} {t : TypeId} {C : Array Value} (k : Has w g t C) : Fs w (fHas g t C :: S) := ⟨k, h⟩
theorem Fs.ints {w : World} {S : List Fact} (h : Fs w S) {A : Option Addr} {n c : Nat} {xs : List Int} (k : RInts w A n c xs) : Fs w (fInts A n c xs :: S) := ⟨k, h⟩
theorem Fs.bools {w : World} {S : List Fact} (h : Fs w S) {A : Option Addr} {n c : Nat} {xs : List Bool} (k : RBools w A n c xs) : Fs w (fBools A n c xs :: S) := ⟨k, h⟩
theorem Fs.rows {w : World} {S : List Fact} (h : Fs w S) {A : Option Addr} {n c : Nat} {xs : List Row} (k : RRows w A n c xs) : Fs w (fRows A n c xs :: S) := ⟨k, h⟩
theorem Fs.bals {w : World} {S : List Fact} (h : Fs w S) {A : Option Addr} {n c : Nat} {xs : List Bal} (k : RBals w A n c xs) : Fs w (fBals A n c xs :: S) := ⟨k, h⟩
theorem Fs.own {w : World} {S : List Fact} (h : Fs w S) {B : Nat} {v : Value} {xs : List Row} (k : ORows w B v xs) : Fs w (fOwn B v xs :: S) := ⟨k, h⟩

/-- A block of numbers is a slice of them. -/
theorem ints_of' {w : World} {g t : Nat} (xs : List Int) (h : Has w g t (icells xs)) (hn : xs.length ≤ 9223372036854775807) (hx : ∀ x ∈ xs, -9223372036854775808 ≤ x ∧ x ≤ 9223372036854775807) : RInts w (some ⟨g, 0, none⟩) xs.length xs.length xs := by
  refine ⟨rfl, Nat.le_refl _, hn, hx, fun _ => ⟨g, 0, rfl, fun i hi => ?_⟩⟩
  rw [Nat.zero_add, h.cell]
  simp [icells, List.getD, hi]
end Go.Proofs.YtoeajgjpakilgaaGreat

/-
  The library's Delete of one row; the program's drop and Take.
-/
namespace Go.Proofs.YtoeajgjpakilgaaGreat
open Go.RowKit Go.Proofs
attribute [local go_sem] cell?_more cell?_alloc_some cell?_setCell_far frozen?_alloc_some frozen?_more
/-- Cells stored one by one are the row stored anew. -/
theorem setCells_row {w : World} {g off : Nat} {t : TypeId} {cur : Array Value} (vs : List Value) (hg : Has w g t cur) (hfit : off + vs.length ≤ cur.size) (h1 : ∀ v ∈ vs, v.oneCell' = true) :
    w.setCells g off vs = w.setRow g (splice cur.toList off vs).toArray := by
  have ha := run_storeCells_cells (P := Tryz.prog) g off vs 0 w (fun j hj => by
    rw [Nat.add_zero, hg.cell, Array.getElem?_eq_getElem (by omega)]; rfl) (fun j hj => by rw [Nat.add_zero]; exact hg.free _) h1
  have hb := run_storeCells_at Tryz.prog g off t vs 0 cur w hg (by simpa using hfit) h1
  simp only [Nat.add_zero] at ha hb
  rw [ha] at hb
  have := (Result.ok.inj hb).2
  rw [this]
  unfold splice
  simp [List.append_assoc]
theorem one_zeroCells (n : Nat) : ∀ x ∈ (Builtin.zeroCells #[.slice none 0 0, .int .i64 0] n).toList, x.oneCell' = true := by
  intro x hx
  unfold Builtin.zeroCells at hx
  simp only [Array.toList_map, List.mem_map] at hx
  obtain ⟨i, _, rfl⟩ := hx
  have : i % 2 = 0 ∨ i % 2 = 1 := by omega
  rcases this with e | e <;> simp [e] <;> rfl
/-- clear at elements of two cells. -/
theorem run_clear2 (w : World) (ty : TypeId) (g off n c : Nat) (cur : Array Value) (t : TypeId) (hg : Has w g t cur) (hn : 0 < n) (hfit : off + n * 2 ≤ cur.size) :
    (Builtin.clear_ #[25] ty #[.slice (some ⟨g, off, none⟩) n c]).run Tryz.prog w = .ok (.tuple #[]) (w.setRow g (splice cur.toList off (Builtin.zeroCells #[.slice none 0 0, .int .i64 0] n).toList).toArray) := by
  have hl : (Builtin.zeroCells #[.slice none 0 0, .int .i64 0] n).toList.length = n * 2 := by simp [size_zeroCells]
  have hst := run_storeCells_at Tryz.prog g off t (Builtin.zeroCells #[.slice none 0 0, .int .i64 0] n).toList 0 cur w hg (by rw [hl]; simpa using hfit) (one_zeroCells n)
  obtain ⟨i0, hi, hz0, _, _⟩ := info_parts infoR
  obtain ⟨m, rfl⟩ : ∃ m, n = m + 1 := ⟨n - 1, by omega⟩
  unfold splice
  simp only [Nat.add_zero] at hst
  simp [Builtin.clear_, run_underlying Tryz.underlying25, zeroValue, typeInfo, hi, hz0, Value.cells, hst, List.append_assoc]

/-- What Delete of one row leaves. -/
def DelR (w : World) (B g n cap i : Nat) (xs : List Value) (e : Ending) (w' : World) : Prop :=
  e = .returned (.slice (some ⟨g, 0, none⟩) (i + (n - (i + 1))) cap) ∧ w'.ownsRow B 55 2 (.slice (some ⟨g, 0, none⟩) (i + (n - (i + 1))) cap) (i + (n - (i + 1))) (xs.take (i * 2) ++ xs.drop ((i + 1) * 2)) ∧ Frame' (fun b => b = g) w w'

theorem splice_del (cur : List Value) (zs : List Value) (n i C : Nat) (hi : i < n) (hC : cur.length = C * 2) (hn : n ≤ C) (_hz : zs.length = 2) :
    (splice (splice cur (i * 2) ((cur.take (n * 2)).drop ((i + 1) * 2))) ((i + (n - (i + 1))) * 2) zs).take ((i + (n - (i + 1))) * 2) = (cur.take (n * 2)).take (i * 2) ++ (cur.take (n * 2)).drop ((i + 1) * 2) := by
  have hd : ((cur.take (n * 2)).drop ((i + 1) * 2)).length = (n - (i + 1)) * 2 := by simp [hC]; omega
  unfold splice
  rw [List.take_append_of_le_length (by simp [hC]; omega), List.take_take, Nat.min_self, ← List.append_assoc, List.take_append_of_le_length (by simp [hC]; omega), List.take_of_length_le (by simp [hC]; omega), List.take_take, Nat.min_eq_left (by omega)]

end Go.Proofs.YtoeajgjpakilgaaGreat
