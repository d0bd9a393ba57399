/-
  Slices that a call owns: of numbers, of rows; copy and append at elements of two cells.
-/
import Derived.Test.YtolbceckbnifmaaGreatW9a
import Derived.Test.YtolbceckbnifmaaGreatOwn
import Derived.WalkSpells
import Derived.Deep.RegionLaw
import Derived.Lib.Overlaps
import Derived.Lib.AppendZeros
namespace Go.Proofs.YtolbceckbnifmaaGreat
open Go.RowKit Go.Proofs

theorem infoR : (Tryz.prog.info? 80).map (fun i => (i.zero, i.size, i.bytes)) = some (some (.agg #[.slice none 0 0, .int .i64 0]), 2, 32) := by kernel_rfl
theorem sizeR : (Tryz.prog.info? 80).map (·.size) = some 2 := by kernel_rfl

/-- The marks that a call owns: numbers in a block from B on, other than g, not frozen. -/
def OMarks (w : World) (B : Nat) (g : Option Nat) (u : Value) (xs : List Int) : Prop :=
  ∃ A n c, u = .slice A n c ∧ RInts w A n c xs ∧ (0 < n → ∃ b off, A = some ⟨b, off, none⟩ ∧ B ≤ b ∧ some b ≠ g ∧ ∀ i, i < n → w.frozen? ⟨b, off + i, none⟩ = false)

/-- Marks that are read alone: numbers in a block below B0. -/
def RMarks (w : World) (B0 : Nat) (u : Value) (xs : List Int) : Prop :=
  ∃ A n c, u = .slice A n c ∧ RInts w A n c xs ∧ (0 < n → ∃ b off, A = some ⟨b, off, none⟩ ∧ b < B0)

/-- Only the blocks that S names may have changed; the streams are as they were. -/
structure Frame' (S : Nat → Prop) (w w' : World) : Prop where
  os : w'.os = w.os
  tape : w'.tape = w.tape
  output : w'.output = w.output
  size : w.heap.size ≤ w'.heap.size
  block : ∀ k, k < w.heap.size → ¬ S k → w'.heap[k]? = w.heap[k]?

theorem Frame'.of_below {S : Nat → Prop} {w w' : World} (h : Below w.heap.size w w') : Frame' S w w' := ⟨h.os, h.tape, h.output, h.size, fun k hk _ => h.block k hk⟩
theorem Frame'.of_grown {row : Option Nat} {w w' : World} (h : w.grownBy w' row) : Frame' (fun k => some k = row) w w' := ⟨h.os, h.tape, h.output, h.size, fun k hk hn => h.block k hk hn⟩
theorem Frame'.refl (S : Nat → Prop) (w : World) : Frame' S w w := ⟨rfl, rfl, rfl, Nat.le_refl _, fun _ _ _ => rfl⟩
theorem Frame'.trans {S : Nat → Prop} {a b c : World} (h : Frame' S a b) (k : Frame' S b c) : Frame' S a c :=
  ⟨k.os.trans h.os, k.tape.trans h.tape, k.output.trans h.output, Nat.le_trans h.size k.size, fun i hi hn => (k.block i (Nat.lt_of_lt_of_le hi h.size) hn).trans (h.block i hi hn)⟩
theorem Frame'.mono {S S' : Nat → Prop} {a b : World} (h : Frame' S a b) (hS : ∀ k, k < a.heap.size → S k → S' k) : Frame' S' a b :=
  ⟨h.os, h.tape, h.output, h.size, fun k hk hn => h.block k hk (fun hs => hn (hS k hk hs))⟩
theorem Frame'.below {S : Nat → Prop} {B : Nat} {a b c : World} (h : Below B a b) (k : Frame' S b c) (hS : ∀ k, S k → B ≤ k) (hB : B ≤ b.heap.size) : Below B a c :=
  h.trans ⟨k.os, k.tape, k.output, k.size, fun i hi => k.block i (by omega) (fun hs => by have := hS i hs; omega)⟩
theorem Frame'.has {S : Nat → Prop} {w w' : World} (k : Frame' S w w') {g : Nat} {t : TypeId} {C : Array Value} (h : Has w g t C) (hn : ¬ S g) : Has w' g t C := (k.block g h.lt hn).trans h
theorem Frame'.setCell {S : Nat → Prop} {w w' : World} (h : Frame' S w w') {p : Addr} (hp : S p.block ∨ w.heap.size ≤ p.block) (u : Value) : Frame' S w (w'.setCell p u) :=
  ⟨h.os, h.tape, h.output, by simpa [World.setCell] using h.size, fun k hk hn => (Below.heap_setCell w' p u k (fun e => by rcases hp with hp | hp; exact hn (e ▸ hp); omega)).trans (h.block k hk hn)⟩
theorem Frame'.alloc {S : Nat → Prop} {w w' : World} (h : Frame' S w w') (o : Obj) : Frame' S w (w'.alloc o) :=
  h.trans (Frame'.of_below ((Below.refl _ _).alloc (Nat.le_refl _) o))

/-- A draw counts for nothing. -/
theorem undrew {w w' : World} (h : Below w.drew.heap.size w.drew w') : Below w.heap.size w w' := ⟨h.os, h.tape, h.output, h.size, h.block⟩

theorem RInts.frame {S : Nat → Prop} {w w' : World} {A : Option Addr} {n c : Nat} {xs : List Int} (h : RInts w A n c xs) (k : Frame' S w w') (hA : 0 < n → ∃ b off, A = some ⟨b, off, none⟩ ∧ ¬ S b) : RInts w' A n c xs := by
  refine ⟨h.1, h.2.1, h.2.2.1, h.2.2.2.1, fun hn => ?_⟩
  obtain ⟨b, off, e, hc⟩ := h.2.2.2.2 hn
  obtain ⟨b', off', e', hS⟩ := hA hn
  have : b' = b := by rw [e] at e'; cases e'; rfl
  subst this
  refine ⟨b', off, e, fun i hi => ?_⟩
  rw [World.cell?_of_block (w := w) (k.block b' (World.block_lt_of_cell? w _ (hc i hi)) hS)]
  exact hc i hi
theorem OMarks.frame {S : Nat → Prop} {w w' : World} {B : Nat} {g : Option Nat} {u : Value} {xs : List Int} (h : OMarks w B g u xs) (k : Frame' S w w') (hS : ∀ b, B ≤ b → some b ≠ g → ¬ S b) : OMarks w' B g u xs := by
  obtain ⟨A, n, c, e, h1, h2⟩ := h
  refine ⟨A, n, c, e, h1.frame k (fun hn => let ⟨b, off, e1, e2, e3, _⟩ := h2 hn; ⟨b, off, e1, hS b e2 e3⟩), fun hn => ?_⟩
  obtain ⟨b, off, e1, e2, e3, e4⟩ := h2 hn
  refine ⟨b, off, e1, e2, e3, fun i hi => ?_⟩
  obtain ⟨b', off', e', hc⟩ := h1.2.2.2.2 hn
  have hlt : b < w.heap.size := by rw [e1] at e'; cases e'; exact World.block_lt_of_cell? w _ (hc 0 hn)
  rw [World.frozen?_of_block (w := w) (k.block b hlt (hS b e2 e3))]
  exact e4 i hi
/-- Marks in blocks that are there are not in a new block. -/
theorem OMarks.other {w : World} {B : Nat} {g g' : Option Nat} {u : Value} {xs : List Int} (h : OMarks w B g u xs) (hg : ∀ b, b < w.heap.size → some b = g' → some b = g) : OMarks w B g' u xs := by
  obtain ⟨A, n, c, e, h1, h2⟩ := h
  refine ⟨A, n, c, e, h1, fun hn => ?_⟩
  obtain ⟨b, off, e1, e2, e3, e4⟩ := h2 hn
  obtain ⟨b', off', e', hc⟩ := h1.2.2.2.2 hn
  have hlt : b < w.heap.size := by rw [e1] at e'; cases e'; exact World.block_lt_of_cell? w _ (hc 0 hn)
  exact ⟨b, off, e1, e2, fun e5 => e3 (hg b hlt e5), e4⟩

/-- A row's two cells. -/
def cell2 (c : Value × Row) : List Value := [c.1, .int .i64 c.2.2]
/-- A slice of rows that a call owns, its marks too, in blocks from B on. -/
def ORows (w : World) (B : Nat) (v : Value) (l : List Row) : Prop :=
  ∃ cs : List (Value × Row), cs.map (·.2) = l ∧ w.ownsRow B 80 2 v l.length (cs.flatMap cell2) ∧ ∀ c ∈ cs, OMarks w B v.ownBlock c.1 c.2.1 ∧ I64 c.2.2

theorem length_cell2 (cs : List (Value × Row)) : (cs.flatMap cell2).length = cs.length * 2 := by
  induction cs with
  | nil => rfl
  | cons a r ih => simp [List.flatMap_cons, cell2, ih]; omega
theorem get_cell2 : ∀ (cs : List (Value × Row)) (i : Nat), (cs.flatMap cell2)[i * 2]? = (cs[i]?).map (·.1) ∧ (cs.flatMap cell2)[i * 2 + 1]? = (cs[i]?).map fun c => .int .i64 c.2.2
  | [], i => by simp
  | a :: r, 0 => by simp [List.flatMap_cons, cell2]
  | a :: r, i + 1 => by
    have := get_cell2 r i
    rw [List.flatMap_cons, show (i + 1) * 2 = i * 2 + 2 by omega, show i * 2 + 2 + 1 = i * 2 + 1 + 2 by omega]
    simpa [cell2] using this
theorem take_cell2 : ∀ (cs : List (Value × Row)) (i : Nat), (cs.flatMap cell2).take (i * 2) = (cs.take i).flatMap cell2
  | [], i => by simp
  | a :: r, 0 => by simp
  | a :: r, i + 1 => by
    rw [List.flatMap_cons, List.take_succ_cons, List.flatMap_cons, ← take_cell2 r i, show (i + 1) * 2 = i * 2 + 1 + 1 by omega]
    simp [cell2]
theorem drop_cell2 : ∀ (cs : List (Value × Row)) (i : Nat), (cs.flatMap cell2).drop (i * 2) = (cs.drop i).flatMap cell2
  | [], i => by simp
  | a :: r, 0 => by simp
  | a :: r, i + 1 => by
    rw [List.flatMap_cons, List.drop_succ_cons, ← drop_cell2 r i, show (i + 1) * 2 = i * 2 + 1 + 1 by omega]
    simp [cell2]

theorem ORows.nil_ (w : World) (B : Nat) : ORows w B (.slice none 0 0) [] := ⟨[], rfl, World.ownsRow_nil _ _ _ _, by simp⟩
theorem ORows.slice {w : World} {B : Nat} {v : Value} {l : List Row} (h : ORows w B v l) : (v = .slice none 0 0 ∧ l = []) ∨ ∃ g cap cur, v = .slice (some ⟨g, 0, none⟩) l.length cap ∧ B ≤ g ∧ Has w g 80 cur ∧ l.length ≤ cap ∧ cap ≤ maxLen ∧ cur.size = cap * 2 := by
  obtain ⟨cs, e, h1, h2⟩ := h
  rcases h1.2 with ⟨e1, e2⟩ | ⟨g, cap, cur, e1, hB, hg, hn, hc, hs, _⟩
  · exact .inl ⟨e1, List.eq_nil_of_length_eq_zero e2⟩
  · exact .inr ⟨g, cap, cur, e1, hB, hg, hn, hc, hs⟩
theorem ORows.own_lt {w : World} {B : Nat} {v : Value} {l : List Row} (h : ORows w B v l) {k : Nat} (hk : v.ownBlock = some k) : B ≤ k ∧ k < w.heap.size := by
  obtain ⟨cs, e, h1, h2⟩ := h
  exact h1.lt k hk

theorem owns_frame {S : Nat → Prop} {w w' : World} {B n : Nat} {v : Value} {t : TypeId} {s : Nat} {xs : List Value} (h : w.ownsRow B t s v n xs) (k : Frame' S w w') (hS : ∀ b, v.ownBlock = some b → ¬ S b) : w'.ownsRow B t s v n xs := by
  refine ⟨h.1, ?_⟩
  rcases h.2 with hn | ⟨g, cap, cur, rfl, hb, hg, r⟩
  · exact .inl hn
  · refine .inr ⟨g, cap, cur, rfl, hb, ?_, r⟩
    have hlt : g < w.heap.size := (h.lt g rfl).2
    rw [k.block g hlt (hS g rfl)]; exact hg
/-- What is owned stays, whatever else is written below B or in other blocks. -/
theorem ORows.frame {S : Nat → Prop} {w w' : World} {B : Nat} {v : Value} {l : List Row} (h : ORows w B v l) (k : Frame' S w w') (hS : ∀ b, B ≤ b → b < w.heap.size → ¬ S b) : ORows w' B v l := by
  obtain ⟨cs, e, h1, h2⟩ := h
  refine ⟨cs, e, owns_frame h1 k (fun b hb => hS b (h1.lt b hb).1 (h1.lt b hb).2), fun c hc => ⟨?_, (h2 c hc).2⟩⟩
  have k' : Frame' (fun b => S b ∧ b < w.heap.size) w w' := ⟨k.os, k.tape, k.output, k.size, fun b hb hn => k.block b hb (fun hs => hn ⟨hs, hb⟩)⟩
  exact (h2 c hc).1.frame k' (fun b hb _ hs => hS b hb hs.2 hs.1)
theorem ORows.below {w w' : World} {B : Nat} {v : Value} {l : List Row} (h : ORows w B v l) (hb : Below w.heap.size w w') : ORows w' B v l :=
  h.frame (Frame'.of_below (S := fun _ => False) hb) (fun _ _ _ h => h)
theorem ORows.mono {w : World} {B B' : Nat} {v : Value} {l : List Row} (h : ORows w B v l) (hB : B' ≤ B) : ORows w B' v l := by
  obtain ⟨cs, e, h1, h2⟩ := h
  refine ⟨cs, e, ⟨h1.1, ?_⟩, fun c hc => ⟨?_, (h2 c hc).2⟩⟩
  · rcases h1.2 with hn | ⟨g, cap, cur, e1, hb, r⟩
    · exact .inl hn
    · exact .inr ⟨g, cap, cur, e1, by omega, r⟩
  · obtain ⟨A, n, c', e1, e2, e3⟩ := (h2 c hc).1
    exact ⟨A, n, c', e1, e2, fun hn => let ⟨b, off, f1, f2, f3⟩ := e3 hn; ⟨b, off, f1, by omega, f3⟩⟩
/-- What is owned can be read. -/
theorem ORows.rows {w : World} {B : Nat} {A : Option Addr} {n c : Nat} {l : List Row} (h : ORows w B (.slice A n c) l) : RRows w A n c l := by
  obtain ⟨cs, e, h1, h2⟩ := h
  rcases h1.2 with ⟨e1, e2⟩ | ⟨g, cap, cur, e1, hB, hg, hn, hc, hs, ht⟩
  · cases e1
    have : l = [] := List.eq_nil_of_length_eq_zero e2
    subst this
    exact RRows.nil_ w
  · cases e1
    refine ⟨rfl, hn, by unfold maxLen at hc; omega, fun _ => ⟨g, 0, rfl, fun i hi => ?_⟩⟩
    have hlc : cs.length = l.length := by rw [← e]; simp
    have hi' : i < cs.length := by omega
    obtain ⟨h3, h4⟩ := h2 cs[i] (List.getElem_mem hi')
    obtain ⟨Am, nm, cm, e5, h5, _⟩ := h3
    have hl : l.getD i ([], 0) = cs[i].2 := by subst e; simp [List.getD, hi']
    have hcell : ∀ j, j < l.length * 2 → w.cell? ⟨g, j, none⟩ = (cs.flatMap cell2)[j]? := fun j hj => by
      rw [cell_of_row w g j cur _ (0, 0) hg, ← Array.getElem?_toList, ← ht, List.getElem?_take_of_lt hj]
    have hg2 := get_cell2 cs i
    rw [List.getElem?_eq_getElem hi'] at hg2
    rw [hl, Nat.zero_add]
    refine ⟨Am, nm, cm, ?_, h5, ?_, h4⟩
    · rw [hcell _ (by omega), hg2.1, ← e5]; rfl
    · rw [hcell _ (by omega), hg2.2]; rfl

section
variable {ops : Array Oper} {rest : List Oper} {o : Oper} {a : Act} {w : World} {Q : Exit → Act → World → Prop}
/-- A slice of numbers is appended to one that is owned. -/
theorem appInts (hgd : o.guard = none) {s x : Operand} (ho : o.op = .call { callee := .builtin .append, args := #[s, x], argTypes := #[28, 28] }) {base : Nat} {v : Value} {xs : List Int} (hs : a.eval s = v) (hown : Own w base v xs)
    {ad : Addr} {n c : Nat} {ys : List Int} (hx : a.eval x = .slice (some ad) n c) (hr : RInts w (some ad) n c ys) (hn : xs.length + n ≤ 1000000) (hbase : base ≤ w.heap.size)
    (h : ∀ v' w', Own w' base v' (xs ++ ys) → w.grownBy w' v.ownBlock → (v' = .slice none 0 0 → v = .slice none 0 0) → wpList Tryz.prog ops Q rest (a.put o.dst v') w') : wpList Tryz.prog ops Q (o :: rest) a w := by
  obtain ⟨i0, hi, hz0, hz1, hz2⟩ := info_parts info3
  refine wpList_append_own w hgd s x 28 ho base 3 i0 (.int .i64 0) 1 8 Tryz.underlying28 hi hz0 hz1 hz2 rfl (by decide) v xs.length _ hs hown ad n c (ys.map (Value.int .i64)) hx (by simp [hr.len]) ?_ ?_ (by unfold maxLen; omega) (by omega) hbase fun v' w' h1 h2 h3 => h v' w' ?_ h2 (fun e => (h3.1 e).1)
  · intro j u hj
    have hjn : j < n := by
      have := (List.getElem?_eq_some_iff.1 hj).1
      rw [List.length_map, hr.len] at this; exact this
    obtain ⟨b, off, e, hc⟩ := hr.2.2.2.2 (by omega)
    cases e
    have hadd : (⟨b, off, none⟩ : Addr).add j = ⟨b, off + j, none⟩ := by unfold Addr.add; split <;> simp_all
    rw [hadd, hc j hjn]
    rw [List.getElem?_map] at hj
    have hjl : j < ys.length := by rw [hr.len]; exact hjn
    rw [List.getElem?_eq_getElem hjl] at hj
    simp at hj
    simp [List.getD, hjl, hj]
  · intro u hu
    obtain ⟨y, _, rfl⟩ := List.mem_map.1 hu
    rfl
  · unfold Own
    simpa [hr.len] using h1
end

theorem infoProf : (Tryz.prog.info? 27).map (·.size) = some 3 := by kernel_rfl
/-- A function hands back a profile that lies in its result's variable; with something beside it. -/
theorem retProf {fn : Func} {R : Ending → World → Prop} {a : Act} {w : World} {p g : Nat} {C : Array Value} (hr : fn.results = #[.cell p 27]) (hp : a.tmps.getD p undef = .pointer (some ⟨g, 0, none⟩))
    (hg : Has w g 27 C) (hs : C.size = 3) (hd : a.defers = []) (hR : R (.returned (.agg C)) w) : bodyPost Tryz.prog fn R .ret a w :=
  bodyPost_ret (results_cell_row hr _ _ g _ C _ _ hp hg Tryz.underlying27 rfl (infoProf.trans (by rw [hs]))) hd hR
theorem retProf2 {fn : Func} {R : Ending → World → Prop} {a : Act} {w : World} {p q g : Nat} {C : Array Value} {v : Value} (hr : fn.results = #[.cell p 27, .tmp q]) (hp : a.tmps.getD p undef = .pointer (some ⟨g, 0, none⟩))
    (hq : a.tmps.getD q undef = v) (hg : Has w g 27 C) (hs : C.size = 3) (hd : a.defers = []) (hR : R (.returned (.tuple #[.agg C, v])) w) : bodyPost Tryz.prog fn R .ret a w := by
  have hl := run_loadVar_row (P := Tryz.prog) w g _ 27 C (0, 0) _ hg Tryz.underlying27 rfl (infoProf.trans (by rw [hs]))
  refine bodyPost_ret (v := .tuple #[.agg C, v]) ?_ hd hR
  have hp' : a.tmps[p]?.getD undef = .pointer (some ⟨g, 0, none⟩) := by simpa using hp
  have hq' : a.tmps[q]?.getD undef = v := by simpa using hq
  simp [results, hr, hp', hq', asAddr, hl]
/-- A variable of three cells is stored into whole. -/
theorem put3 {w : World} {g : Nat} {t : TypeId} {x y z x' y' z' : Value} (h : Has w g t #[x, y, z]) : Has (((w.setCell ⟨g, 0, none⟩ x').setCell ⟨g, 1, none⟩ y').setCell ⟨g, 2, none⟩ z') g t #[x', y', z'] := ((h.put 0 x').put 1 y').put 2 z'
theorem frame3 (w : World) (g : Nat) (x y z : Value) : Frame' (fun b => b = g) w (((w.setCell ⟨g, 0, none⟩ x).setCell ⟨g, 1, none⟩ y).setCell ⟨g, 2, none⟩ z) :=
  (((Frame'.refl (fun b => b = g) w).setCell (p := ⟨g, 0, none⟩) (.inl rfl) x).setCell (p := ⟨g, 1, none⟩) (.inl rfl) y).setCell (p := ⟨g, 2, none⟩) (.inl rfl) z
theorem below3 {B : Nat} {a w : World} (h : Below B a w) {g : Nat} (hg : B ≤ g) (x y z : Value) : Below B a (((w.setCell ⟨g, 0, none⟩ x).setCell ⟨g, 1, none⟩ y).setCell ⟨g, 2, none⟩ z) :=
  ((h.setCell (p := ⟨g, 0, none⟩) hg x).setCell (p := ⟨g, 1, none⟩) hg y).setCell (p := ⟨g, 2, none⟩) hg z
end Go.Proofs.YtolbceckbnifmaaGreat
