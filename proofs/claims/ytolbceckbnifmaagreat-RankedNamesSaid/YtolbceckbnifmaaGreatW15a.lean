/-
  First preferences: runoff.firsts at any closure, the reference's Had.
  Firsts, of both.
-/
import Derived.Test.YtolbceckbnifmaaGreatW11g
namespace Go.Proofs.YtolbceckbnifmaaGreat
open Go.RowKit Go.Proofs Go.Shelf
attribute [local go_sem] cell?_more cell?_alloc_some cell?_setCell_far frozen?_alloc_some frozen?_more
/-- What a valid ranked profile gives. -/
structure RankOK (l : List Row) (C : Nat) : Prop where
  len : l.length ≤ 64
  c1 : 1 ≤ C
  c10 : C ≤ 10
  tot : totS l ≤ 1000000
  pos : Pos l
  marks : ∀ r ∈ l, ∀ x ∈ r.1, 0 ≤ x ∧ x < C
theorem rank_ok {l : List Row} {C : Nat} (h : checkS C 1 l = 0) : RankOK l C := by
  obtain ⟨h1, h2, h3, _, _, h4, _, h5, h6⟩ := check_iff.1 h
  exact ⟨h1, by omega, by omega, h4, h5, fun r hr => (marks_of (h6 r hr)).2.1 (by omega)⟩
theorem pos_take {l : List Row} (h : Pos l) (t : Nat) : Pos (l.take t) := fun x hx => h x (List.mem_of_mem_take hx)
theorem tot_nn {l : List Row} (h : Pos l) : 0 ≤ totS l := Int.le_trans (wsum_nn (φ := fun _ => true) h) (wsum_le_tot h)
theorem tot_take {l : List Row} (h : Pos l) (t : Nat) : totS (l.take t) ≤ totS l := by
  have e : totS l = totS (l.take t) + totS (l.drop t) := by
    unfold totS
    rw [← List.sum_append, ← List.map_append, List.take_append_drop]
  have := tot_nn (l := l.drop t) fun x hx => h x (List.mem_of_mem_drop hx)
  omega
theorem RankOK.room {l : List Row} {C t : Nat} (h : RankOK l C) {ms : List Int} {y : Int} (hat : l[t]? = some (ms, y)) (φ : Int → Bool) (x : Int) :
    0 < y ∧ y ≤ 1000000 ∧ 0 ≤ hadS φ (l.take t) x ∧ hadS φ (l.take t) x + y ≤ 1000000 ∧ 0 ≤ lostS φ (l.take t) ∧ lostS φ (l.take t) + y ≤ 1000000 := by
  have h1 := hadS_bd (φ := φ) (pos_take h.pos t) x
  have h2 := lostS_bd (φ := φ) (pos_take h.pos t)
  have h3 := totS_take_succ hat
  have h4 := tot_take h.pos (t + 1)
  have h5 := h.tot
  have h6 := h.pos _ (List.mem_of_getElem? hat)
  simp at h3 h6
  omega
theorem firstS_find (p : Int → Bool) : ∀ (l : List Int) (k : Int), (firstS p l k = -1 ∧ l.find? p = none) ∨ ∃ (i : Nat) (v : Int), l[i]? = some v ∧ firstS p l k = k + i ∧ l.find? p = some v
  | [], k => .inl ⟨rfl, rfl⟩
  | y :: r, k => by
    cases hy : p y with
    | true => exact .inr ⟨0, y, rfl, by simp [firstS, hy], by simp [hy]⟩
    | false =>
      rcases firstS_find p r (k + 1) with ⟨e, h⟩ | ⟨i, v, hi, e, h⟩
      · exact .inl ⟨by simp [firstS, hy, e], by simp [hy, h]⟩
      · exact .inr ⟨i + 1, v, by simpa using hi, by simp [firstS, hy, e]; omega, by simp [hy, h]⟩

/-- What hands back first preferences. -/
def FPost (w : World) (φ : Int → Bool) (l : List Row) (C : Nat) (e : Ending) (w' : World) : Prop :=
  ∃ v, e = .returned (.tuple #[v, .int .i64 (lostS φ l)]) ∧ Own w' w.heap.size v (hadL φ l C) ∧ Below w.heap.size w w'

/-- Ranks that a candidate is in. -/
theorem find_from {p : Int → Bool} {ms : List Int} {k : Nat} {v : Int} (hn : ∀ x ∈ ms.take k, p x = false) (hv : ms[k]? = some v) (h : p v = true) : ms.find? p = some v := by
  have e : ms = ms.take k ++ v :: ms.drop (k + 1) := by
    have hk := (List.getElem?_eq_some_iff.1 hv)
    obtain ⟨hk, e⟩ := hk
    conv => lhs; rw [← List.take_append_drop k ms]
    rw [List.drop_eq_getElem_cons hk, e]
  rw [e, List.find?_append, List.find?_eq_none.2 (fun x hx => by rw [hn x hx]; simp)]
  simp [h]
theorem find_not {p : Int → Bool} {ms : List Int} (hn : ∀ x ∈ ms, p x = false) : ms.find? p = none := List.find?_eq_none.2 fun x hx => by rw [hn x hx]; simp

end Go.Proofs.YtolbceckbnifmaaGreat

namespace Go.Proofs.YtolbceckbnifmaaGreat
open Go.RowKit Go.Proofs Go.Shelf
attribute [local go_sem] cell?_more cell?_alloc_some cell?_setCell_far frozen?_alloc_some frozen?_more
theorem RBools.at {w : World} {A : Option Addr} {n c k : Nat} {bs : List Bool} (h : RBools w A n c bs) (hk : k < n) : ∃ b off, A = some ⟨b, off, none⟩ ∧ w.cell? ⟨b, off + k, none⟩ = some (.bool (bs.getD k false)) := by
  obtain ⟨b, off, e, hc⟩ := h.2.2.2 (by omega)
  exact ⟨b, off, e, hc k hk⟩
def firstsE (c k : Int) (l : List Row) : Int := if checkS c k l ≠ 0 ∨ k ≠ 1 then 8 else 0
def firstsL (c k : Int) (l : List Row) (bs : List Bool) : List Int := if firstsE c k l = 0 then hadL (isS bs) l c.toNat else []
def firstsN (c k : Int) (l : List Row) (bs : List Bool) : Int := if firstsE c k l = 0 then lostS (isS bs) l else 0
theorem firstsE_bad {c k : Int} {l : List Row} (h : checkS c k l ≠ 0 ∨ k ≠ 1) : firstsE c k l = 8 := by unfold firstsE; rw [if_pos h]
theorem firstsE_ok {c k : Int} {l : List Row} (h : checkS c k l = 0) (hk : k = 1) : firstsE c k l = 0 := by unfold firstsE; rw [if_neg (fun h' => h'.elim (fun h'' => h'' h) (fun h'' => h'' hk))]
/-- What Firsts hands back. -/
def FsPost (w : World) (c k : Int) (l : List Row) (bs : List Bool) (e : Ending) (w' : World) : Prop :=
  ∃ v, e = .returned (.tuple #[v, .int .i64 (firstsN c k l bs), .int .i64 (firstsE c k l)]) ∧ Own w' w.heap.size v (firstsL c k l bs) ∧ Below w.heap.size w w'

theorem ret_vii {v : Value} {a b a' b' : Int} (h1 : a = a') (h2 : b = b') : Ending.returned (.tuple #[v, .int .i64 a, .int .i64 b]) = .returned (.tuple #[v, .int .i64 a', .int .i64 b']) := by rw [h1, h2]
/-- The candidates that are left. -/
def leftT (bs : List Bool) (k : Nat) : List Int := (rangeI k).filter (isS bs)
theorem leftT_succ (bs : List Bool) (k : Nat) : leftT bs (k + 1) = leftT bs k ++ if bs.getD k false = true then [(k : Int)] else [] := by
  unfold leftT
  rw [rangeI_succ, List.filter_append]
  congr 1
  simp only [List.filter_cons, List.filter_nil, isS_getD]
theorem length_leftT (bs : List Bool) (k : Nat) : (leftT bs k).length ≤ k := Nat.le_trans (List.length_filter_le _ _) (by rw [length_rangeI]; exact Nat.le_refl _)
theorem leftT_in (bs : List Bool) : inL (leftT bs bs.length) = isS bs := by
  funext x
  rw [Bool.eq_iff_iff, inL_iff]
  unfold leftT
  rw [List.mem_filter, mem_rangeI]
  refine ⟨fun h => h.2, fun h => ⟨?_, h⟩⟩
  unfold isS at h
  rw [Bool.and_eq_true] at h
  exact inR_iff.1 h.1

end Go.Proofs.YtolbceckbnifmaaGreat
