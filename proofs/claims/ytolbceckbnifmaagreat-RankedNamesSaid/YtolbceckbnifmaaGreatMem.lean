/-
  What a slice of numbers, of truth values, of rows, and what an array variable is in memory; how such facts are kept. No program is named here.
-/
import Derived.WalkKit
import Derived.BigQuiet
import Derived.Lib.Hide
import Derived.Outline
namespace Go.Proofs.YtolbceckbnifmaaGreat
open Go.RowKit

/-- Any proposition, kept out of the walk's sight. -/
theorem hide {p : Prop} (h : p) : Hid p := h

/-- The slice value (A, n, c) reads as the numbers xs in the world w. -/
def RInts (w : World) (A : Option Addr) (n c : Nat) (xs : List Int) : Prop :=
  xs.length = n ∧ n ≤ c ∧ c ≤ 9223372036854775807 ∧ (∀ x ∈ xs, -9223372036854775808 ≤ x ∧ x ≤ 9223372036854775807) ∧
    (0 < n → ∃ b off, A = some ⟨b, off, none⟩ ∧ ∀ i, i < n → w.cell? ⟨b, off + i, none⟩ = some (.int .i64 (xs.getD i 0)))

theorem drop_step {α : Type} {xs : List α} {k : Nat} (h : k < xs.length) (d : α) : xs.drop k = xs.getD k d :: xs.drop (k + 1) := by
  rw [List.drop_eq_getElem_cons h]
  simp [List.getD, h]

theorem keep_cell {w w' : World} (h : Below w.heap.size w w') {a : Addr} {v : Value} (hc : w.cell? a = some v) : w'.cell? a = some v := by
  rw [h.cell (World.block_lt_of_cell? w a hc)]; exact hc

namespace RInts
variable {w w' : World} {A : Option Addr} {n c k : Nat} {xs : List Int}
theorem nil_ (w : World) : RInts w none 0 0 [] := ⟨rfl, Nat.le_refl _, by omega, by simp, fun h => absurd h (by omega)⟩
theorem len (h : RInts w A n c xs) : xs.length = n := h.1
theorem le (h : RInts w A n c xs) : n ≤ 9223372036854775807 := Nat.le_trans h.2.1 h.2.2.1
theorem bd (h : RInts w A n c xs) {x : Int} (hx : x ∈ xs) : -9223372036854775808 ≤ x ∧ x ≤ 9223372036854775807 := h.2.2.2.1 x hx
theorem step (h : RInts w A n c xs) (hk : k < n) : ∃ b off v, A = some ⟨b, off, none⟩ ∧ w.cell? ⟨b, off + k, none⟩ = some (.int .i64 v) ∧
    Hid (xs.drop k = v :: xs.drop (k + 1)) ∧ Hid (xs[k]? = some v) ∧ -9223372036854775808 ≤ v ∧ v ≤ 9223372036854775807 := by
  have hl : k < xs.length := by have := h.1; omega
  obtain ⟨b, off, e, hc⟩ := h.2.2.2.2 (by omega)
  have hg : xs.getD k 0 = xs[k] := by simp [List.getD, hl]
  have hb := h.bd (x := xs.getD k 0) (by rw [hg]; exact List.getElem_mem hl)
  exact ⟨b, off, xs.getD k 0, e, hc k hk, drop_step hl 0, by rw [hg]; exact List.getElem?_eq_getElem hl, hb.1, hb.2⟩
theorem done (h : RInts w A n c xs) (hk : ¬ k < n) : xs.drop k = [] := List.drop_eq_nil_of_le (by have := h.1; omega)
theorem below (h : RInts w A n c xs) (hb : Below w.heap.size w w') : RInts w' A n c xs :=
  ⟨h.1, h.2.1, h.2.2.1, h.2.2.2.1, fun hn => let ⟨b, off, e, hc⟩ := h.2.2.2.2 hn; ⟨b, off, e, fun i hi => keep_cell hb (hc i hi)⟩⟩
theorem take (h : RInts w A n c xs) (hk : k ≤ n) : RInts w A k c (xs.take k) := by
  refine ⟨by have := h.1; simp; omega, by have := h.2.1; omega, h.2.2.1, fun x hx => h.bd (List.mem_of_mem_take hx), fun hn => ?_⟩
  obtain ⟨b, off, e, hc⟩ := h.2.2.2.2 (by omega)
  refine ⟨b, off, e, fun i hi => ?_⟩
  rw [hc i (by omega)]
  simp [List.getD, hi]
end RInts

/-- A row of a profile: its marks, and how many ballots. -/
abbrev Row := List Int × Int

/-- The slice value (A, n, c) reads as the rows l in the world w (an element takes two cells). -/
def RRows (w : World) (A : Option Addr) (n c : Nat) (l : List Row) : Prop :=
  l.length = n ∧ n ≤ c ∧ c ≤ 9223372036854775807 ∧
    (0 < n → ∃ b off, A = some ⟨b, off, none⟩ ∧ ∀ i, i < n → ∃ Am nm cm, w.cell? ⟨b, off + i * 2, none⟩ = some (.slice Am nm cm) ∧ RInts w Am nm cm (l.getD i ([], 0)).1 ∧
      w.cell? ⟨b, off + i * 2 + 1, none⟩ = some (.int .i64 (l.getD i ([], 0)).2) ∧ -9223372036854775808 ≤ (l.getD i ([], 0)).2 ∧ (l.getD i ([], 0)).2 ≤ 9223372036854775807)

namespace RRows
variable {w w' : World} {A : Option Addr} {n c k : Nat} {l : List Row}
theorem nil_ (w : World) : RRows w none 0 0 [] := ⟨rfl, Nat.le_refl _, by omega, fun h => absurd h (by omega)⟩
theorem len (h : RRows w A n c l) : l.length = n := h.1
theorem le (h : RRows w A n c l) : n ≤ 9223372036854775807 := Nat.le_trans h.2.1 h.2.2.1
theorem step (h : RRows w A n c l) (hk : k < n) : ∃ b off Am nm cm ms y, A = some ⟨b, off, none⟩ ∧ w.cell? ⟨b, off + k * 2, none⟩ = some (.slice Am nm cm) ∧ RInts w Am nm cm ms ∧
    w.cell? ⟨b, off + k * 2 + 1, none⟩ = some (.int .i64 y) ∧ Hid (l.drop k = (ms, y) :: l.drop (k + 1)) ∧ Hid (l[k]? = some (ms, y)) ∧ -9223372036854775808 ≤ y ∧ y ≤ 9223372036854775807 := by
  have hl : k < l.length := by have := h.1; omega
  obtain ⟨b, off, e, hc⟩ := h.2.2.2 (by omega)
  obtain ⟨Am, nm, cm, h1, h2, h3, h4, h5⟩ := hc k hk
  have hg : l.getD k ([], 0) = l[k] := by simp [List.getD, hl]
  refine ⟨b, off, Am, nm, cm, (l.getD k ([], 0)).1, (l.getD k ([], 0)).2, e, h1, h2, h3, ?_, ?_, h4, h5⟩
  · exact drop_step hl ([], 0)
  · rw [hg]; exact List.getElem?_eq_getElem hl
theorem done (h : RRows w A n c l) (hk : ¬ k < n) : l.drop k = [] := List.drop_eq_nil_of_le (by have := h.1; omega)
theorem below (h : RRows w A n c l) (hb : Below w.heap.size w w') : RRows w' A n c l :=
  ⟨h.1, h.2.1, h.2.2.1, fun hn => let ⟨b, off, e, hc⟩ := h.2.2.2 hn; ⟨b, off, e, fun i hi => let ⟨Am, nm, cm, h1, h2, h3, h4⟩ := hc i hi; ⟨Am, nm, cm, keep_cell hb h1, h2.below hb, keep_cell hb h3, h4⟩⟩⟩
end RRows

/-- Block g of the world w is a variable of the cells C, none of them frozen. -/
def Has (w : World) (g : Nat) (t : TypeId) (C : Array Value) : Prop := w.heap[g]? = some (.cells C t (0, 0))

namespace Has
variable {w w' : World} {g : Nat} {t : TypeId} {C : Array Value}
theorem lt (h : Has w g t C) : g < w.heap.size := by
  rcases Nat.lt_or_ge g w.heap.size with hlt | hge
  · exact hlt
  · unfold Has at h; rw [Array.getElem?_eq_none hge] at h; cases h
theorem cell (h : Has w g t C) (i : Nat) : w.cell? ⟨g, i, none⟩ = C[i]? := cell_of_row w g i C t (0, 0) h
theorem free (h : Has w g t C) (i : Nat) : w.frozen? ⟨g, i, none⟩ = false := frozen_of_row w g i C t h
theorem new (w : World) (t : TypeId) (C : Array Value) : Has (w.alloc (.cells C t)) w.heap.size t C := heap_alloc_new w _
theorem new2 (w : World) (o : Obj) (t : TypeId) (C : Array Value) : Has ((w.alloc o).alloc (.cells C t)) (w.heap.size + 1) t C := heap_alloc2_new w o _
theorem drew (h : Has w g t C) : Has w.drew g t C := h
theorem drewN (h : Has w g t C) (n : Nat) : Has (w.drewN n) g t C := h
theorem alloc (h : Has w g t C) (o : Obj) : Has (w.alloc o) g t C := (Below.heap_alloc w o g h.lt).trans h
theorem put (h : Has w g t C) (i : Nat) (u : Value) : Has (w.setCell ⟨g, i, none⟩ u) g t (C.setIfInBounds i u) := heap_setCell_same w g i C t u h
theorem far (h : Has w g t C) {p : Addr} (hp : g ≠ p.block) (u : Value) : Has (w.setCell p u) g t C := (heap_setCell_other w p g u hp).trans h
theorem setRow (h : Has w g t C) (D : Array Value) : Has (w.setRow g D) g t D := setRow_heap w g C D t _ h
theorem farRow (h : Has w g t C) {k : Nat} (hk : g ≠ k) (D : Array Value) : Has (w.setRow k D) g t C := (setRow_other w k g D hk).trans h
theorem below {B : Nat} (h : Has w g t C) (hb : Below B w w') (hg : g < B) : Has w' g t C := (hb.block g hg).trans h
end Has

theorem below_setRow {B : Nat} {a w : World} (h : Below B a w) {g : Nat} (hg : B ≤ g) (D : Array Value) : Below B a (w.setRow g D) :=
  h.trans ⟨rfl, rfl, rfl, by simp, fun k hk => setRow_other w g k D (by omega)⟩
theorem below_drewN {B : Nat} {a w : World} (h : Below B a w) (n : Nat) : Below B a (w.drewN n) := ⟨h.os, h.tape, h.output, h.size, h.block⟩

/-- What came of it below its own size, after what came below a smaller number. -/
theorem Below_trans' {B : Nat} {a w w' : World} (h : Below B a w) (hB : B ≤ w.heap.size) (h' : Below w.heap.size w w') : Below B a w' := h.trans (h'.mono hB)

/-- Blocks, and a number of draws. -/
structure Ext where
  blocks : List Obj
  draws : Nat

instance : Inhabited Ext := ⟨⟨[], 0⟩⟩

/-- The world w with the blocks of q more, and q's draws in all. -/
def More (w : World) (q : Ext) : World := { w with heap := w.heap ++ q.blocks.toArray, drawn := q.draws }

theorem more_below (w : World) (q : Ext) : Below w.heap.size w (More w q) :=
  ⟨rfl, rfl, rfl, by simp [More], fun k hk => by simp [More, Array.getElem?_append, hk]⟩
theorem below_more {w w' : World} (h : Below w.heap.size w w') : ∃ q, w' = More w q := by
  refine ⟨⟨w'.heap.toList.drop w.heap.size, w'.drawn⟩, ?_⟩
  obtain ⟨h1, h2, h3, h4, h5⟩ := h
  have hh : w'.heap = w.heap ++ (w'.heap.toList.drop w.heap.size).toArray := by
    apply Array.ext_getElem?
    intro k
    by_cases hk : k < w.heap.size
    · rw [h5 k hk]; simp [Array.getElem?_append, hk]
    · simp only [Array.getElem?_append, if_neg hk, List.getElem?_toArray, List.getElem?_drop]
      rw [show w.heap.size + (k - w.heap.size) = k by omega]
      simp
  obtain ⟨heap', tape', drawn', os', output'⟩ := w'
  obtain ⟨heap, tape, drawn, os, output⟩ := w
  simp only [More] at *
  subst h1 h2 h3
  simp only [World.mk.injEq, and_true]
  exact hh
theorem cell?_more {w : World} {q : Ext} {a : Addr} (h : (w.cell? a).isSome = true) : (More w q).cell? a = w.cell? a := by
  obtain ⟨v, hv⟩ := Option.isSome_iff_exists.1 h
  rw [keep_cell (more_below w q) hv, hv]
theorem cell?_alloc_some {w : World} {o : Obj} {a : Addr} (h : (w.cell? a).isSome = true) : (w.alloc o).cell? a = w.cell? a := by
  obtain ⟨v, hv⟩ := Option.isSome_iff_exists.1 h
  rw [keep_cell ((Below.refl _ _).alloc (Nat.le_refl _) o) hv, hv]
theorem cell?_setCell_far {w : World} {p a : Addr} {u : Value} (h : a.block ≠ p.block) : (w.setCell p u).cell? a = w.cell? a :=
  World.cell?_setCell_other w p a u (fun e => h (by rw [e]))
theorem frozen?_alloc_some {w : World} {o : Obj} {a : Addr} (h : (w.cell? a).isSome = true) : (w.alloc o).frozen? a = w.frozen? a := by
  obtain ⟨v, hv⟩ := Option.isSome_iff_exists.1 h
  exact ((Below.refl _ _).alloc (Nat.le_refl _) o).frozen (World.block_lt_of_cell? w a hv)
theorem frozen?_more {w : World} {q : Ext} {a : Addr} (h : (w.cell? a).isSome = true) : (More w q).frozen? a = w.frozen? a := by
  obtain ⟨v, hv⟩ := Option.isSome_iff_exists.1 h
  exact (more_below w q).frozen (World.block_lt_of_cell? w a hv)

/-- What stood reads as it did: two rules for the walk. -/
theorem keepc {w w' : World} (h : Below w.heap.size w w') : ∀ a : Addr, (w.cell? a).isSome = true → w'.cell? a = w.cell? a := fun a ha => by
  obtain ⟨v, hv⟩ := Option.isSome_iff_exists.1 ha
  rw [keep_cell h hv, hv]
theorem keepf {w w' : World} (h : Below w.heap.size w w') : ∀ a : Addr, (w.cell? a).isSome = true → w'.frozen? a = w.frozen? a := fun a ha => by
  obtain ⟨v, hv⟩ := Option.isSome_iff_exists.1 ha
  exact h.frozen (World.block_lt_of_cell? w a hv)
theorem toMore {w w' : World} {q : Ext} (h : Below (More w q).heap.size (More w q) w') : ∃ q', w' = More w q' :=
  below_more ((more_below w q).trans (h.mono (more_below w q).size))
theorem below_of_eq {w w' : World} {q : Ext} (h : w' = More w q) : Below w.heap.size w w' := by rw [h]; exact more_below w q

/-- A callee's contract, met in a region that draws its order. -/
theorem more_of {P : Program} {f : FuncId} {args : Array Value} {w : World} {q : Ext} {v : Value}
    (h : Calls P f args (More w q) fun e w' => e = .returned v ∧ Below (More w q).heap.size (More w q) w') :
    Calls P f args (More w q) fun e w'' => e = .returned v ∧ ∃ q', w'' = More w q' :=
  h.mono fun _ _ ⟨he, hm⟩ => ⟨he, toMore hm⟩
theorem more_same {P : Program} {f : FuncId} {args : Array Value} {w : World} {q : Ext} {v : Value}
    (h : Calls P f args (More w q) fun e w' => e = .returned v ∧ More w q = w') :
    Calls P f args (More w q) fun e w'' => e = .returned v ∧ ∃ q', w'' = More w q' :=
  h.mono fun _ _ ⟨he, hm⟩ => ⟨he, q, hm.symm⟩

/-- A region that draws its order, whose operations only read old memory and whose callees only make new memory: one walk in the order of the text. -/
theorem wp_region_more {P : Program} {id : Nat} {Q : Exit → Act → World → Prop} {a : Act} {w : World} {l : List Oper} (hm : P.follows .mixedOrders = true) (hB : Region.lexB .any l.toArray = true)
    (h : wpQuiet P l.toArray (fun w' => ∃ q, w' = More w q) (fun a' => ∀ w', (∃ q, w' = More w q) → Q .normal a' w') l a) : (Code.region id l.toArray true).wp P Q a w := by
  refine wp_region_quiet (C := fun w' => ∃ q, w' = More w q) hm hB ⟨⟨[], w.drawn + 1⟩, by simp [More]⟩ ?_
  simpa using h

theorem RInts.more {w : World} {A : Option Addr} {n c : Nat} {xs : List Int} (h : RInts w A n c xs) (q : Ext) : RInts (More w q) A n c xs := h.below (more_below w q)
theorem RRows.more {w : World} {A : Option Addr} {n c : Nat} {l : List Row} (h : RRows w A n c l) (q : Ext) : RRows (More w q) A n c l := h.below (more_below w q)

/-- The cells of a list of ints. -/
def icells (xs : List Int) : Array Value := (xs.map (Value.int .i64)).toArray

end Go.Proofs.YtolbceckbnifmaaGreat
