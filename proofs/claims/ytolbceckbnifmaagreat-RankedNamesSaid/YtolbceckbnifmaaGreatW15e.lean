/-
  Count, of the program's runoff.
  Literals of the chapters' examples: rounds, ties, rows.
-/
import Derived.Test.YtolbceckbnifmaaGreatW15c
import Derived.Deep.LoopGhost
import Derived.Test.YtolbceckbnifmaaGreatW11g
namespace Go.Proofs.YtolbceckbnifmaaGreat
open Go.RowKit Go.Proofs Go.Shelf
attribute [local go_sem] cell?_alt cell?_more cell?_alloc_some cell?_setCell_far frozen?_alloc_some frozen?_more
/-- What a count hands back. -/
def OutPost (w : World) (o : Outc) (err : Int) (e : Ending) (w' : World) : Prop :=
  ∃ Ae ne ce Ar nr cr Av nv cv, e = .returned (.tuple #[.agg #[.slice Ae ne ce, .slice Ar nr cr, .slice Av nv cv], .int .i64 err]) ∧ ROut w' Ae ne ce Ar nr cr Av nv cv o ∧ Below w.heap.size w w'
def runO (c k : Int) (l : List Row) (seats : Int) (lot : List Int) : Outc := if mayS c k l 1 seats 1 lot = 0 then countS l c.toNat lot c.toNat (rangeI c.toNat) [] [] else ([], [], [])
theorem runO_ok {c k : Int} {l : List Row} {seats : Int} {lot : List Int} (h : mayS c k l 1 seats 1 lot = 0) : runO c k l seats lot = countS l c.toNat lot c.toNat (rangeI c.toNat) [] [] := if_pos h
theorem runO_bad {c k : Int} {l : List Row} {seats : Int} {lot : List Int} (h : mayS c k l 1 seats 1 lot ≠ 0) : runO c k l seats lot = ([], [], []) := if_neg h

theorem sizeOut : (Tryz.prog.info? 39).map (·.size) = some 3 := by kernel_rfl
theorem retOut2 {fn : Func} {R : Ending → World → Prop} {a : Act} {w : World} {p q g : Nat} {C : Array Value} {v : Value} (hr : fn.results = #[.cell p 39, .tmp q]) (hp : a.tmps.getD p undef = .pointer (some ⟨g, 0, none⟩))
    (hq : a.tmps.getD q undef = v) (hg : Has w g 39 C) (hs : C.size = 3) (hd : a.defers = []) (hR : R (.returned (.tuple #[.agg C, v])) w) : bodyPost Tryz.prog fn R .ret a w := by
  have hl := run_loadVar_row (P := Tryz.prog) w g _ 39 C (0, 0) _ hg Tryz.underlying39 rfl (sizeOut.trans (by rw [hs]))
  refine bodyPost_ret (v := .tuple #[.agg C, v]) ?_ hd hR
  have hp' : a.tmps[p]?.getD undef = .pointer (some ⟨g, 0, none⟩) := by simpa using hp
  have hq' : a.tmps[q]?.getD undef = v := by simpa using hq
  simp [results, hr, hp', hq', asAddr, hl]

theorem may_zero {c k : Int} {l : List Row} {kind seats most : Int} {lot : List Int} (h : mayS c k l kind seats most lot = 0) : checkS c k l = 0 ∧ k = kind ∧ 1 ≤ seats ∧ seats ≤ most ∧ seats ≤ 10 ∧ lotS lot c = true := by
  unfold mayS at h
  split at h
  · omega
  · rename_i h1
    split at h
    · omega
    · rename_i h2
      have h3 : lotS lot c = true := by
        cases hl : lotS lot c with
        | true => rfl
        | false => exact absurd (.inr (.inr (.inr hl))) h2
      refine ⟨?_, ?_, by omega, by omega, by omega, h3⟩
      · exact Decidable.byContradiction fun e => h1 (.inl e)
      · exact Decidable.byContradiction fun e => h1 (.inr e)
theorem win_of_one {left had : List Int} (h : left.length = 1) : winS left had ≠ none := by
  obtain ⟨a, rfl⟩ := List.length_eq_one_iff.1 h
  simp [winS]
theorem countS_some {l : List Row} {n : Nat} {lot : List Int} {f : Nat} {left : List Int} {rs : List Rnd} {ts : List Row} {x : Int} (h : winS left (hadL (inL left) l n) = some x) :
    countS l n lot (f + 1) left rs ts = ([x], rs ++ [rndS (hadL (inL left) l n) (lostS (inL left) l) [x] []], ts) := by simp only [countS, h]
theorem countS_none {l : List Row} {n : Nat} {lot : List Int} {f : Nat} {left : List Int} {rs : List Rnd} {ts : List Row} (h : winS left (hadL (inL left) l n) = none) :
    countS l n lot (f + 1) left rs ts = countS l n lot f (outS left (lastS lot (leastS (hadL (inL left) l n) left)))
        (rs ++ [rndS (hadL (inL left) l n) (lostS (inL left) l) [] [lastS lot (leastS (hadL (inL left) l n) left)]])
        (tiedS ts (leastS (hadL (inL left) l n) left) (lastS lot (leastS (hadL (inL left) l n) left))) := by simp only [countS, h]
theorem length_tiedS (ts : List Row) (among : List Int) (x : Int) : (tiedS ts among x).length ≤ ts.length + 1 := by unfold tiedS; split <;> simp
/-- A state of the rounds: who is left, what has been. -/
structure CtInv (l : List Row) (C : Nat) (lot left : List Int) (rs : List Rnd) (ts : List Row) : Prop where
  sub : left.Sublist (rangeI C)
  ne : left ≠ []
  nrs : rs.length + left.length ≤ C
  nts : ts.length + left.length ≤ C
  out : countS l C lot left.length left rs ts = countS l C lot C (rangeI C) [] []
theorem CtInv.start (l : List Row) {C : Nat} (lot : List Int) (h : 1 ≤ C) : CtInv l C lot (rangeI C) [] [] :=
  ⟨List.Sublist.refl _, fun e => by have := congrArg List.length e; rw [length_rangeI] at this; simp at this; omega, by simp [length_rangeI], by simp [length_rangeI], by rw [length_rangeI]⟩
theorem CtInv.won {l : List Row} {C : Nat} {lot left : List Int} {rs : List Rnd} {ts : List Row} (h : CtInv l C lot left rs ts) {x : Int} (hw : winS left (hadL (inL left) l C) = some x) : countS l C lot C (rangeI C) [] [] = ([x], rs ++ [rndS (hadL (inL left) l C) (lostS (inL left) l) [x] []], ts) := by
  rw [← h.out]
  obtain ⟨f, e⟩ : ∃ f, left.length = f + 1 := ⟨left.length - 1, by have := List.length_pos_iff.2 h.ne; omega⟩
  rw [e, countS_some hw]
theorem CtInv.next {l : List Row} {C : Nat} {lot left : List Int} {rs : List Rnd} {ts : List Row} (h : CtInv l C lot left rs ts) (hlot : lotS lot C = true) (hw : winS left (hadL (inL left) l C) = none) :
    CtInv l C lot (outS left (lastS lot (leastS (hadL (inL left) l C) left)))
        (rs ++ [rndS (hadL (inL left) l C) (lostS (inL left) l) [] [lastS lot (leastS (hadL (inL left) l C) left)]])
        (tiedS ts (leastS (hadL (inL left) l C) left) (lastS lot (leastS (hadL (inL left) l C) left))) ∧ (outS left (lastS lot (leastS (hadL (inL left) l C) left))).length < left.length := by
  have hsl : (leastS (hadL (inL left) l C) left).Sublist left := bestS_sub _ _
  have hm := hsl.subset (lastS_mem (lot := lot) (bestS_ne (f := fun c => - getI (hadL (inL left) l C) c) h.ne) fun x hx => lot_in hlot (h.sub.subset (hsl.subset hx)))
  have hl := length_outS ((nodup_rangeI C).sublist h.sub) hm
  have hn1 : left.length ≠ 1 := fun e => win_of_one e hw
  have hp := List.length_pos_iff.2 h.ne
  have ht := length_tiedS ts (leastS (hadL (inL left) l C) left) (lastS lot (leastS (hadL (inL left) l C) left))
  have h1 := h.nrs
  have h2 := h.nts
  refine ⟨⟨(outS_sub _ _).trans h.sub, List.length_pos_iff.1 (by omega), by rw [List.length_append]; simp; omega, by omega, ?_⟩, by omega⟩
  rw [← h.out, show left.length = (outS left (lastS lot (leastS (hadL (inL left) l C) left))).length + 1 by omega, countS_none hw]
theorem Own.fps {w : World} {B : Nat} {A : Option Addr} {n c b : Nat} {xs : List Int} (h : Own w B (.slice A n c) xs) (hb : fpS A n b) : (Value.slice A n c).ownBlock = some b := by
  obtain ⟨_, off, e⟩ := hb
  rcases h.2 with ⟨h1, _⟩ | ⟨g, cap, cur, h1, _⟩
  · cases h1; cases e
  · cases h1; cases e; rfl
end Go.Proofs.YtolbceckbnifmaaGreat

namespace Go.Proofs.YtolbceckbnifmaaGreat
open Go.RowKit Go.Proofs Go.Shelf
attribute [local go_sem] cell?_more cell?_alloc_some cell?_setCell_far frozen?_alloc_some frozen?_more
theorem rows3 {w : World} {g t : Nat} {A1 A2 A3 : Option Addr} {n1 n2 n3 c1 c2 c3 : Nat} {m1 m2 m3 : List Int} {y1 y2 y3 : Int} (h1 : RInts w A1 n1 c1 m1) (h2 : RInts w A2 n2 c2 m2) (h3 : RInts w A3 n3 c3 m3) (i1 : I64 y1) (i2 : I64 y2) (i3 : I64 y3)
    (hg : Has w g t #[.slice A1 n1 c1, .int .i64 y1, .slice A2 n2 c2, .int .i64 y2, .slice A3 n3 c3, .int .i64 y3]) : RRows w (some ⟨g, 0, none⟩) 3 3 [(m1, y1), (m2, y2), (m3, y3)] := by
  refine ⟨rfl, Nat.le_refl _, by omega, fun _ => ⟨g, 0, rfl, fun i hi => ?_⟩⟩
  have : i = 0 ∨ i = 1 ∨ i = 2 := by omega
  rcases this with rfl | rfl | rfl
  · exact ⟨_, n1, c1, hg.cell 0, h1, hg.cell 1, i1.1, i1.2⟩
  · exact ⟨_, n2, c2, hg.cell 2, h2, hg.cell 3, i2.1, i2.2⟩
  · exact ⟨_, n3, c3, hg.cell 4, h3, hg.cell 5, i3.1, i3.2⟩
theorem rows2 {w : World} {g t : Nat} {A1 A2 : Option Addr} {n1 n2 c1 c2 : Nat} {m1 m2 : List Int} {y1 y2 : Int} (h1 : RInts w A1 n1 c1 m1) (h2 : RInts w A2 n2 c2 m2) (i1 : I64 y1) (i2 : I64 y2)
    (hg : Has w g t #[.slice A1 n1 c1, .int .i64 y1, .slice A2 n2 c2, .int .i64 y2]) : RRows w (some ⟨g, 0, none⟩) 2 2 [(m1, y1), (m2, y2)] := by
  refine ⟨rfl, Nat.le_refl _, by omega, fun _ => ⟨g, 0, rfl, fun i hi => ?_⟩⟩
  have : i = 0 ∨ i = 1 := by omega
  rcases this with rfl | rfl
  · exact ⟨_, n1, c1, hg.cell 0, h1, hg.cell 1, i1.1, i1.2⟩
  · exact ⟨_, n2, c2, hg.cell 2, h2, hg.cell 3, i2.1, i2.2⟩
theorem ints_lit {w : World} {g t : Nat} (xs : List Int) (h : Has w g t (icells xs)) (hn : xs.length ≤ 9223372036854775807) (hx : ∀ x ∈ xs, I64 x) : RInts w (some ⟨g, 0, none⟩) xs.length xs.length xs := by
  refine ⟨rfl, Nat.le_refl _, hn, hx, fun _ => ⟨g, 0, rfl, fun i hi => ?_⟩⟩
  rw [Nat.zero_add, h.cell]
  simp [icells, List.getD, hi]
theorem lit2 {w : World} {g t : Nat} {x y : Int} (h : Has w g t #[.int .i64 x, .int .i64 y]) (hx : I64 x) (hy : I64 y) : RInts w (some ⟨g, 0, none⟩) 2 2 [x, y] :=
  ints_lit [x, y] h (by simp) (by intro z hz; simp at hz; rcases hz with rfl | rfl; exact hx; exact hy)
theorem lit3 {w : World} {g t : Nat} {x y z : Int} (h : Has w g t #[.int .i64 x, .int .i64 y, .int .i64 z]) (hx : I64 x) (hy : I64 y) (hz : I64 z) : RInts w (some ⟨g, 0, none⟩) 3 3 [x, y, z] :=
  ints_lit [x, y, z] h (by simp) (by intro u hu; simp at hu; rcases hu with rfl | rfl | rfl; exact hx; exact hy; exact hz)
theorem ragg1 {α : Type} {E : World → List Value → α → Prop} {size : Nat} {w : World} {g t : Nat} {us : List Value} {x : α} (hg : Has w g t us.toArray) (hu : us.length = size) (h1 : E w us x) : RAgg E size w (some ⟨g, 0, none⟩) 1 1 [x] := by
  refine ⟨rfl, Nat.le_refl _, by omega, fun _ => ⟨g, 0, rfl, fun i hi => ?_⟩⟩
  obtain rfl : i = 0 := by omega
  exact ⟨us, x, rfl, hu, fun j u hj => by rw [hg.cell]; simpa using hj, h1⟩
theorem ragg2 {α : Type} {E : World → List Value → α → Prop} {size : Nat} {w : World} {g t : Nat} {us vs : List Value} {x y : α} (hg : Has w g t (us ++ vs).toArray) (hu : us.length = size) (hv : vs.length = size) (h1 : E w us x) (h2 : E w vs y) : RAgg E size w (some ⟨g, 0, none⟩) 2 2 [x, y] := by
  refine ⟨rfl, Nat.le_refl _, by omega, fun _ => ⟨g, 0, rfl, fun i hi => ?_⟩⟩
  have : i = 0 ∨ i = 1 := by omega
  rcases this with rfl | rfl
  · refine ⟨us, x, rfl, hu, fun j u hj => ?_, h1⟩
    have hjl := (List.getElem?_eq_some_iff.1 hj).1
    rw [hg.cell, ← Array.getElem?_toList]
    simp only [Nat.zero_mul, Nat.zero_add]
    rw [List.getElem?_append_left hjl]; exact hj
  · refine ⟨vs, y, rfl, hv, fun j u hj => ?_, h2⟩
    rw [hg.cell, ← Array.getElem?_toList]
    simp only [Nat.one_mul, Nat.zero_add]
    rw [List.getElem?_append_right (by omega), hu, show size + j - size = j by omega]; exact hj
theorem sizeRnd : (Tryz.prog.info? 65).map (·.size) = some 6 := by kernel_rfl
theorem retRndEnd {fn : Func} {R : Ending → World → Prop} {a : Act} {w : World} {p g : Nat} {C : Array Value} (hr : fn.results = #[.cell p 65]) (hp : a.tmps.getD p undef = .pointer (some ⟨g, 0, none⟩))
    (hg : Has w g 65 C) (hs : C.size = 6) (hd : a.defers = []) (hR : R (.returned (.agg C)) w) : bodyPost Tryz.prog fn R .ret a w :=
  bodyPost_ret (results_cell_row hr _ _ g _ C _ _ hp hg Tryz.underlying65 rfl (sizeRnd.trans (by rw [hs]))) hd hR
theorem put6 {w : World} {g : Nat} {t : TypeId} {x1 x2 x3 x4 x5 x6 y1 y2 y3 y4 y5 y6 : Value} (h : Has w g t #[x1, x2, x3, x4, x5, x6]) :
    Has ((((((w.setCell ⟨g, 0, none⟩ y1).setCell ⟨g, 1, none⟩ y2).setCell ⟨g, 2, none⟩ y3).setCell ⟨g, 3, none⟩ y4).setCell ⟨g, 4, none⟩ y5).setCell ⟨g, 5, none⟩ y6) g t #[y1, y2, y3, y4, y5, y6] := (((((h.put 0 y1).put 1 y2).put 2 y3).put 3 y4).put 4 y5).put 5 y6
theorem frame6 (w : World) (g : Nat) (y1 y2 y3 y4 y5 y6 : Value) : Frame' (fun b => b = g) w ((((((w.setCell ⟨g, 0, none⟩ y1).setCell ⟨g, 1, none⟩ y2).setCell ⟨g, 2, none⟩ y3).setCell ⟨g, 3, none⟩ y4).setCell ⟨g, 4, none⟩ y5).setCell ⟨g, 5, none⟩ y6) :=
  ((((((Frame'.refl (fun b => b = g) w).setCell (p := ⟨g, 0, none⟩) (.inl rfl) y1).setCell (p := ⟨g, 1, none⟩) (.inl rfl) y2).setCell (p := ⟨g, 2, none⟩) (.inl rfl) y3).setCell (p := ⟨g, 3, none⟩) (.inl rfl) y4).setCell (p := ⟨g, 4, none⟩) (.inl rfl) y5).setCell (p := ⟨g, 5, none⟩) (.inl rfl) y6

/-- What makes a round. -/
def RndPost (w : World) (had : List Int) (lost : Int) (A1 : Option Addr) (n1 c1 : Nat) (el : List Int) (A2 : Option Addr) (n2 c2 : Nat) (out : List Int) (e : Ending) (w' : World) : Prop :=
  ∃ A5 n5 c5 An nn cn Ad nd cd, e = .returned (.agg #[.slice A5 n5 c5, .bool false, .slice An nn cn, .slice Ad nd cd, .slice A1 n1 c1, .slice A2 n2 c2]) ∧ ERnd w' [.slice A5 n5 c5, .bool false, .slice An nn cn, .slice Ad nd cd, .slice A1 n1 c1, .slice A2 n2 c2] (rndS had lost el out) ∧ Below w.heap.size w w'
end Go.Proofs.YtolbceckbnifmaaGreat
