/-
  The reference's In, All, Alike, Least, Last, Without: of numbers.
  The reference's Alike, Least and Tied.
  Whole numbers as ratios: slices of them; a tie more.
-/
import Derived.Test.YtkmcgpaoekphmaaGreatAgg
import Derived.Test.YtkmcgpaoekphmaaGreatMem3
import Derived.Test.YtkmcgpaoekphmaaGreatW8i
import Derived.Test.YtkmcgpaoekphmaaGreatW3b
namespace Go.Proofs.YtkmcgpaoekphmaaGreat
open Go.RowKit Go.Proofs
attribute [local go_sem] cell?_more cell?_alloc_some cell?_setCell_far frozen?_alloc_some frozen?_more
/-- What hands back numbers of its own. -/
def IPost (w : World) (xs : List Int) (e : Ending) (w' : World) : Prop := ∃ v, e = .returned v ∧ Own w' w.heap.size v xs ∧ Below w.heap.size w w'
theorem inL_cons (a : Int) (l : List Int) (x : Int) : inL (a :: l) x = (decide (x = a) || inL l x) := by unfold inL; simp [List.mem_cons]
theorem inL_nil (x : Int) : inL [] x = false := by unfold inL; simp

theorem lastS_step {lot among : List Int} {k : Nat} {v : Int} (h : lot[k]? = some v) : lastS (lot.take (k + 1)) among = if inL among v = true then v else lastS (lot.take k) among := by
  unfold lastS
  rw [List.take_add_one, h, List.reverse_append]
  simp only [Option.toList_some, List.reverse_cons, List.reverse_nil, List.nil_append, List.cons_append, List.find?_cons]
  cases inL among v <;> simp
end Go.Proofs.YtkmcgpaoekphmaaGreat

namespace Go.Proofs.YtkmcgpaoekphmaaGreat
open Go.RowKit Go.Proofs
attribute [local go_sem] cell?_more cell?_alloc_some cell?_setCell_far frozen?_alloc_some frozen?_more
theorem Own.made (w : World) (B n : Nat) (hB : B ≤ w.heap.size) (hn : n ≤ 1000000) : Own (w.alloc (.cells (madeCells #[.int .i64 0] n) 3)) B (.slice (some ⟨w.heap.size, 0, none⟩) n n) (List.replicate n 0) := by
  unfold Own
  have := World.ownsRow_lit (base := B) (e := 3) (size := 1) w (madeCells #[.int .i64 0] n) n hB (by unfold maxLen; omega) (by rw [size_madeCells]; simp)
  rw [toList_madeCells_one] at this
  simpa using this

/-- Is c alike, as far as the first j of among tell? -/
def alikeB (among has : List Int) (c : Int) (j : Nat) : Bool := inL among c && (among.take j).all fun k => decide (getI has k ≤ getI has c)
theorem alikeB_zero (among has : List Int) (c : Int) : alikeB among has c 0 = inL among c := by simp [alikeB]
theorem alikeB_succ {among has : List Int} {c : Int} {j : Nat} {v : Int} (h : among[j]? = some v) : alikeB among has c (j + 1) = (alikeB among has c j && decide (getI has v ≤ getI has c)) := by
  unfold alikeB
  rw [List.take_add_one, h, List.all_append]
  simp [Bool.and_assoc]
theorem alikeB_all (among has : List Int) (c : Int) {j : Nat} (h : among.length ≤ j) : alikeB among has c j = (inL among c && among.all fun k => decide (getI has k ≤ getI has c)) := by
  unfold alikeB; rw [List.take_of_length_le h]
def alikeT (among has : List Int) (k : Nat) : List Int := (rangeI k).filter fun c => alikeB among has c among.length
theorem alikeT_succ (among has : List Int) (k : Nat) : alikeT among has (k + 1) = alikeT among has k ++ if alikeB among has k among.length = true then [(k : Int)] else [] := by
  unfold alikeT
  rw [rangeI_succ, List.filter_append]
  congr 1
  simp only [List.filter_cons, List.filter_nil]
theorem alikeT_all (among has : List Int) : alikeT among has has.length = alikeS among has := by
  unfold alikeT alikeS
  exact List.filter_congr fun c _ => alikeB_all among has c (Nat.le_refl _)
theorem length_alikeT (among has : List Int) (k : Nat) : (alikeT among has k).length ≤ k := Nat.le_trans (List.length_filter_le _ _) (by rw [length_rangeI]; exact Nat.le_refl _)
theorem getI_of {h : List Int} {V : Nat} {x : Int} (e : h[V]? = some x) : getI h (V : Int) = x := by unfold getI; simp [List.getD, e]

/-- The first k turned. -/
def negT (has : List Int) (k : Nat) : List Int := (List.range has.length).map fun i => if i < k then - has.getD i 0 else 0
theorem length_negT (has : List Int) (k : Nat) : (negT has k).length = has.length := by simp [negT]
theorem negT_zero (has : List Int) : negT has 0 = List.replicate has.length 0 := by
  unfold negT
  refine List.ext_getElem (by simp) fun i h1 h2 => ?_
  simp
theorem negT_succ {has : List Int} {k : Nat} {v : Int} (h : has[k]? = some v) : negT has (k + 1) = (negT has k).set k (-v) := by
  refine List.ext_getElem? fun i => ?_
  have hk : k < has.length := (List.getElem?_eq_some_iff.1 h).1
  by_cases hi : i < has.length
  · by_cases e : i = k
    · subst e
      rw [List.getElem?_set_self (by rw [length_negT]; exact hi)]
      simp [negT, hi, List.getD]
      exact Option.some.inj ((List.getElem?_eq_getElem hi).symm.trans h)
    · rw [List.getElem?_set_ne (Ne.symm e)]
      simp only [negT, List.getElem?_map, List.getElem?_range hi, Option.map_some, Option.some.injEq]
      by_cases e2 : i < k
      · rw [if_pos (by omega), if_pos e2]
      · rw [if_neg (by omega), if_neg e2]
  · rw [List.getElem?_eq_none (by rw [length_negT]; omega), List.getElem?_eq_none (by rw [List.length_set, length_negT]; omega)]
theorem getI_neg (has : List Int) (c : Int) : getI (negT has has.length) c = - getI has c := by
  unfold getI negT
  by_cases h : c.toNat < has.length
  · simp [List.getD, h]
  · simp [List.getD, h]
theorem least_alike {among has : List Int} (h : among.Sublist (rangeI has.length)) : alikeS among (negT has has.length) = leastS has among := by
  rw [alike_best (by rw [length_negT]; exact h)]
  unfold leastS bestS
  refine List.filter_congr fun x _ => ?_
  simp only [getI_neg]

end Go.Proofs.YtkmcgpaoekphmaaGreat

namespace Go.Proofs.YtkmcgpaoekphmaaGreat
open Go.RowKit Go.Proofs
attribute [local go_sem] cell?_more cell?_alloc_some cell?_setCell_far frozen?_alloc_some frozen?_more
/-- What hands back a slice of structs, all in blocks of its own. -/
def APost {α : Type} (E : World → List Value → α → Prop) (e : TypeId) (size : Nat) (w : World) (l : List α) (en : Ending) (w' : World) : Prop :=
  ∃ v fp, en = .returned v ∧ OAgg E e size fp w' w.heap.size v l ∧ (∀ b, fp b → w.heap.size ≤ b) ∧ Below w.heap.size w w'
theorem rat_on {w : World} {A : Option Addr} {n c : Nat} {A' : Option Addr} {n' c' : Nat} {a : Int} (h : RWrds w A n c (lm a)) (h' : RWrds w A' n' c' [1]) :
    On (fun b => fpS A n b ∨ fpS A' n' b) w fun W => ERat W [.bool false, .slice A n c, .slice A' n' c'] (wholeS a) :=
  (h.on.and h'.on).imp fun _ hW => ⟨A, n, c, A', n', c', rfl, hW.1, hW.2⟩
theorem cells3 {w : World} {g : Nat} {t : TypeId} {x y z : Value} (h : Has w g t #[x, y, z]) : ∀ j u, [x, y, z][j]? = some u → w.cell? ⟨g, j, none⟩ = some u := fun j u hj => by
  rw [h.cell j, ← Array.getElem?_toList]; exact hj
theorem cells2 {w : World} {g : Nat} {t : TypeId} {x y : Value} (h : Has w g t #[x, y]) : ∀ j u, [x, y][j]? = some u → w.cell? ⟨g, j, none⟩ = some u := fun j u hj => by
  rw [h.cell j, ← Array.getElem?_toList]; exact hj
theorem cells6 {w : World} {g : Nat} {t : TypeId} {x y z p q r : Value} (h : Has w g t #[x, y, z, p, q, r]) : ∀ j u, [x, y, z, p, q, r][j]? = some u → w.cell? ⟨g, j, none⟩ = some u := fun j u hj => by
  rw [h.cell j, ← Array.getElem?_toList]; exact hj

theorem infoTie : (Tryz.prog.info? 172).map (fun i => (i.zero, i.size, i.bytes)) = some (some (.agg #[.slice none 0 0, .int .i64 0]), 2, 32) := by kernel_rfl
/-- Ties, one more perhaps. -/
def TPost (w : World) (B : Nat) (v : Value) (fp : Nat → Prop) (fa : Nat → Prop) (ts : List Row) (among : List Int) (x : Int) (e : Ending) (w' : World) : Prop :=
  ∃ v' fp', e = .returned v' ∧ OAgg ETie 172 2 fp' w' B v' (tiedS ts among x) ∧ (∀ b, fp' b → fp b ∨ fa b) ∧ (v'.ownBlock = v.ownBlock ∨ ∃ b, v'.ownBlock = some b ∧ w.heap.size ≤ b) ∧ Frame' (fun b => v.ownBlock = some b) w w'
end Go.Proofs.YtkmcgpaoekphmaaGreat
