/-
  Links in memory: owned, read, in a block that is sorted; truth values that a search owns.
  The library's stable sort, of links by margin and number: swaps and rotations.
  The library's stable sort, of links by margin and number: insertion.
  The library's stable sort, of links by margin and number: the symmetric merge.
  The library's stable sort, of links by margin and number.
-/
import Derived.Test.YtolbceckbnifmaaGreatAgg
import Derived.Test.YtolbceckbnifmaaGreatSpecRz
import Derived.Test.YtolbceckbnifmaaGreatW8a
import Derived.Deep.CutRange
import Derived.Test.YtolbceckbnifmaaGreatQTail
import Derived.Test.YtolbceckbnifmaaGreatW15e
namespace Go.Proofs.YtolbceckbnifmaaGreat
open Go.RowKit Go.Proofs Go.Shelf

/-- A link's four cells. -/
def lkv (k : Lk) : List Value := [.int .i64 k.1, .int .i64 k.2.1, .int .i64 k.2.2.1, .int .i64 k.2.2.2]
/-- A link of numbers of 64 bits. -/
def I64k (k : Lk) : Prop := I64 k.1 ∧ I64 k.2.1 ∧ I64 k.2.2.1 ∧ I64 k.2.2.2
def ELnk (_ : World) (vs : List Value) (k : Lk) : Prop := vs = lkv k ∧ I64k k
theorem below_lnk : BelowE ELnk := fun _ _ _ _ h _ => h
theorem RAgg.lnk {w : World} {A : Option Addr} {n c k : Nat} {l : List Lk} (h : RAgg ELnk 4 w A n c l) (hk : k < n) : ∃ b off x y m f, A = some ⟨b, off, none⟩ ∧ w.cell? ⟨b, off + k * 4, none⟩ = some (.int .i64 x) ∧ w.cell? ⟨b, off + k * 4 + 1, none⟩ = some (.int .i64 y) ∧
    w.cell? ⟨b, off + k * 4 + 2, none⟩ = some (.int .i64 m) ∧ w.cell? ⟨b, off + k * 4 + 3, none⟩ = some (.int .i64 f) ∧ Hid (l[k]? = some (x, y, m, f)) ∧ Hid (I64k (x, y, m, f)) := by
  obtain ⟨b, off, vs, k', e, _, hc, ⟨hv, hi⟩, _, hat⟩ := h.step hk
  obtain ⟨x, y, m, f⟩ := k'
  subst hv
  exact ⟨b, off, x, y, m, f, e, by simpa using hc 0 _ rfl, hc 1 _ rfl, hc 2 _ rfl, hc 3 _ rfl, hat, hi⟩
theorem RAgg.lnk_i64 {w : World} {A : Option Addr} {n c : Nat} {l : List Lk} (h : RAgg ELnk 4 w A n c l) : ∀ k ∈ l, I64k k := fun k hk => by
  obtain ⟨i, hi⟩ := List.getElem?_of_mem hk
  have hlt : i < n := by have := (List.getElem?_eq_some_iff.1 hi).1; have := h.len; omega
  obtain ⟨_, _, x, y, m, f, _, _, _, _, _, hat, h64⟩ := h.lnk hlt
  have e := hat.out
  rw [hi] at e
  cases e
  exact h64.out
theorem RAgg.takes {α : Type} {E : World → List Value → α → Prop} {size : Nat} {w : World} {A : Option Addr} {n c k : Nat} {l : List α} (h : RAgg E size w A n c l) (hk : k ≤ n) : RAgg E size w A k c (l.take k) := by
  refine ⟨by have := h.1; simp; omega, by have := h.2.1; omega, h.2.2.1, fun hn => ?_⟩
  obtain ⟨b, off, e, hc⟩ := h.2.2.2 (by omega)
  refine ⟨b, off, e, fun i hi => ?_⟩
  obtain ⟨vs, x, h1, h2⟩ := hc i (by omega)
  exact ⟨vs, x, by rw [List.getElem?_take_of_lt hi]; exact h1, h2⟩
theorem RAgg.onL {w : World} {A : Option Addr} {n c : Nat} {l : List Lk} (h : RAgg ELnk 4 w A n c l) : On (fpS A n) w fun W => RAgg ELnk 4 W A n c l := by
  refine ⟨?_, fun w2 k => ⟨h.1, h.2.1, h.2.2.1, fun hn => ?_⟩⟩
  · rintro b ⟨hn, off, e⟩
    obtain ⟨b', off', x, y, m, f, e', hc, _⟩ := h.lnk hn
    rw [e] at e'; cases e'
    exact World.block_lt_of_cell? w _ hc
  · obtain ⟨b, off, e, hc⟩ := h.2.2.2 hn
    refine ⟨b, off, e, fun i hi => ?_⟩
    obtain ⟨vs, x, h1, h2, h3, h4⟩ := hc i hi
    refine ⟨vs, x, h1, h2, fun j u hj => ?_, h4⟩
    rw [World.cell?_of_block (w := w) (k b ⟨hn, off, e⟩)]
    exact h3 j u hj
theorem RAgg.frameL {S : Nat → Prop} {w w' : World} {A : Option Addr} {n c : Nat} {l : List Lk} (h : RAgg ELnk 4 w A n c l) (k : Frame' S w w') (hA : ∀ b, fpS A n b → ¬ S b) : RAgg ELnk 4 w' A n c l := (h.onL.frame k hA).get

/-- The cells of cur say l. -/
def CellsL (cur : Array Value) (l : List Lk) : Prop := l.length * 4 ≤ cur.size ∧ ∀ (i : Nat) k, l[i]? = some k → cur[i * 4]? = some (.int .i64 k.1) ∧ cur[i * 4 + 1]? = some (.int .i64 k.2.1) ∧ cur[i * 4 + 2]? = some (.int .i64 k.2.2.1) ∧ cur[i * 4 + 3]? = some (.int .i64 k.2.2.2)
theorem CellsL.put {cur : Array Value} {l : List Lk} (h : CellsL cur l) {i : Nat} (hi : i < l.length) (x : Lk) :
    CellsL ((((cur.setIfInBounds (i * 4) (.int .i64 x.1)).setIfInBounds (i * 4 + 1) (.int .i64 x.2.1)).setIfInBounds (i * 4 + 2) (.int .i64 x.2.2.1)).setIfInBounds (i * 4 + 3) (.int .i64 x.2.2.2)) (l.set i x) := by
  obtain ⟨h1, h2⟩ := h
  refine ⟨by simpa using h1, fun j k hj => ?_⟩
  rw [List.getElem?_set] at hj
  by_cases e : i = j
  · subst e
    rw [if_pos rfl, if_pos hi] at hj
    cases hj
    have b0 : i * 4 < cur.size := by omega
    have b1 : i * 4 + 1 < cur.size := by omega
    have b2 : i * 4 + 2 < cur.size := by omega
    have b3 : i * 4 + 3 < cur.size := by omega
    simp [b0, b1, b2, b3]
  · rw [if_neg e] at hj
    have hh := h2 j k hj
    have n0 : ∀ a b : Nat, a < 4 → b < 4 → i * 4 + a ≠ j * 4 + b := fun a b ha hb => by omega
    have n00 := n0 0 0 (by omega) (by omega)
    have n01 := n0 0 1 (by omega) (by omega)
    have n02 := n0 0 2 (by omega) (by omega)
    have n03 := n0 0 3 (by omega) (by omega)
    have n10 := n0 1 0 (by omega) (by omega)
    have n12 := n0 1 2 (by omega) (by omega)
    have n13 := n0 1 3 (by omega) (by omega)
    have n20 := n0 2 0 (by omega) (by omega)
    have n21 := n0 2 1 (by omega) (by omega)
    have n23 := n0 2 3 (by omega) (by omega)
    have n30 := n0 3 0 (by omega) (by omega)
    have n31 := n0 3 1 (by omega) (by omega)
    have n32 := n0 3 2 (by omega) (by omega)
    have e' : ¬ j = i := fun h => e h.symm
    simp only [Nat.add_zero] at n00 n01 n02 n03 n10 n20 n30
    simpa [Array.getElem?_setIfInBounds, n00, n01, n02, n03, n10, n12, n13, n20, n21, n23, n30, n31, n32, e, e'] using hh
theorem length_flat4 (l : List Lk) : (l.flatMap lkv).length = l.length * 4 := by
  induction l with
  | nil => rfl
  | cons a r ih => simp [List.flatMap_cons, lkv, ih]; omega
theorem get_flat4 : ∀ (l : List Lk) (i j : Nat), j < 4 → (l.flatMap lkv)[i * 4 + j]? = (l[i]?).bind fun k => (lkv k)[j]?
  | [], i, j, _ => by simp
  | a :: r, 0, j, hj => by
    rw [List.flatMap_cons, Nat.zero_mul, Nat.zero_add, List.getElem?_append_left (by simpa [lkv] using hj)]
    rfl
  | a :: r, i + 1, j, hj => by
    have ih := get_flat4 r i j hj
    rw [List.flatMap_cons, List.getElem?_append_right (by simp [lkv]; omega)]
    have e : (i + 1) * 4 + j - (lkv a).length = i * 4 + j := by simp [lkv]; omega
    rw [e, ih]
    simp
theorem CellsL.flat {cur : Array Value} {l : List Lk} (h : CellsL cur l) : cur.toList.take (l.length * 4) = l.flatMap lkv := by
  refine List.ext_getElem? fun m => ?_
  by_cases hm : m < l.length * 4
  · obtain ⟨i, j, hj, rfl⟩ : ∃ i j, j < 4 ∧ m = i * 4 + j := ⟨m / 4, m % 4, by omega, by omega⟩
    rw [List.getElem?_take_of_lt hm, get_flat4 l i j hj, Array.getElem?_toList]
    have hi : i < l.length := by omega
    obtain ⟨c0, c1, c2, c3⟩ := h.2 i l[i] (List.getElem?_eq_getElem hi)
    rw [List.getElem?_eq_getElem hi, Option.bind_some]
    match j, hj with
    | 0, _ => exact c0
    | 1, _ => exact c1
    | 2, _ => exact c2
    | 3, _ => exact c3
  · rw [List.getElem?_eq_none (by rw [List.length_take]; omega), List.getElem?_eq_none (by rw [length_flat4]; omega)]
theorem CellsL.of_flat {cur : Array Value} {l : List Lk} (hs : l.length * 4 ≤ cur.size) (h : cur.toList.take (l.length * 4) = l.flatMap lkv) : CellsL cur l := by
  refine ⟨hs, fun i k hk => ?_⟩
  have hi := (List.getElem?_eq_some_iff.1 hk).1
  have hg : ∀ j, j < 4 → cur[i * 4 + j]? = (lkv k)[j]? := fun j hj => by
    have h1 := get_flat4 l i j hj
    rw [← h, List.getElem?_take_of_lt (by omega), Array.getElem?_toList, hk] at h1
    exact h1
  exact ⟨hg 0 (by omega), hg 1 (by omega), hg 2 (by omega), hg 3 (by omega)⟩

/-- The block g holds the links l; only it has changed since w0. -/
structure LkAt (w0 : World) (g c : Nat) (w : World) (l : List Lk) : Prop where
  cur : ∃ cur, Has w g 49 cur ∧ CellsL cur l ∧ cur.size = c * 4
  len : l.length ≤ c
  cap : c ≤ maxLen
  i64 : ∀ k ∈ l, I64k k
  fr : Frame' (fun b => b = g) w0 w
namespace LkAt
variable {w0 w w' : World} {g c i j : Nat} {l : List Lk}
theorem lt (h : LkAt w0 g c w l) : g < w.heap.size := by obtain ⟨cur, hc, _⟩ := h.cur; exact hc.lt
theorem below (h : LkAt w0 g c w l) (hb : Below w.heap.size w w') : LkAt w0 g c w' l := by
  obtain ⟨⟨cur, hc, k1, k2⟩, h2, h3, h4, h5⟩ := h
  exact ⟨⟨cur, hc.below hb hc.lt, k1, k2⟩, h2, h3, h4, h5.trans (Frame'.of_below hb)⟩
theorem get (h : LkAt w0 g c w l) (hi : i < l.length) : ∃ x y m f, Hid (gd l i = (x, y, m, f)) ∧ w.cell? ⟨g, i * 4, none⟩ = some (.int .i64 x) ∧ w.cell? ⟨g, i * 4 + 1, none⟩ = some (.int .i64 y) ∧
    w.cell? ⟨g, i * 4 + 2, none⟩ = some (.int .i64 m) ∧ w.cell? ⟨g, i * 4 + 3, none⟩ = some (.int .i64 f) ∧ Hid (I64k (x, y, m, f)) := by
  obtain ⟨⟨cur, hc, k1, k2⟩, h2, h3, h4, h5⟩ := h
  have hg := get_gd hi
  have h64 := h4 _ (List.mem_of_getElem? hg)
  obtain ⟨c0, c1, c2, c3⟩ := k1.2 i _ hg
  exact ⟨(gd l i).1, (gd l i).2.1, (gd l i).2.2.1, (gd l i).2.2.2, rfl, (hc.cell _).trans c0, (hc.cell _).trans c1, (hc.cell _).trans c2, (hc.cell _).trans c3, h64⟩
theorem free (h : LkAt w0 g c w l) (i : Nat) : w.frozen? ⟨g, i, none⟩ = false := by obtain ⟨cur, hc, _⟩ := h.cur; exact hc.free i
theorem put (h : LkAt w0 g c w l) (hi : i < l.length) {x y m f : Int} (hx : I64k (x, y, m, f)) :
    LkAt w0 g c ((((w.setCell ⟨g, i * 4, none⟩ (.int .i64 x)).setCell ⟨g, i * 4 + 1, none⟩ (.int .i64 y)).setCell ⟨g, i * 4 + 2, none⟩ (.int .i64 m)).setCell ⟨g, i * 4 + 3, none⟩ (.int .i64 f)) (l.set i (x, y, m, f)) := by
  obtain ⟨⟨cur, hc, k1, k2⟩, h2, h3, h4, h5⟩ := h
  refine ⟨⟨_, (((hc.put _ _).put _ _).put _ _).put _ _, k1.put hi (x, y, m, f), by simpa using k2⟩, by simpa using h2, h3, fun k hk => ?_, (((h5.setCell (.inl rfl) _).setCell (.inl rfl) _).setCell (.inl rfl) _).setCell (.inl rfl) _⟩
  rcases List.mem_or_eq_of_mem_set hk with hk | rfl
  · exact h4 k hk
  · exact hx
/-- Two links change places: j's is stored at i, then i's at j. -/
theorem swap (h : LkAt w0 g c w l) (hi : i < l.length) (hj : j < l.length) {x y m f x' y' m' f' : Int} (e : gd l i = (x, y, m, f)) (e' : gd l j = (x', y', m', f')) :
    LkAt w0 g c ((((((((w.setCell ⟨g, i * 4, none⟩ (.int .i64 x')).setCell ⟨g, i * 4 + 1, none⟩ (.int .i64 y')).setCell ⟨g, i * 4 + 2, none⟩ (.int .i64 m')).setCell ⟨g, i * 4 + 3, none⟩ (.int .i64 f')).setCell ⟨g, j * 4, none⟩ (.int .i64 x)).setCell ⟨g, j * 4 + 1, none⟩ (.int .i64 y)).setCell ⟨g, j * 4 + 2, none⟩ (.int .i64 m)).setCell ⟨g, j * 4 + 3, none⟩ (.int .i64 f)) (swap2 l i j) := by
  have a1 := h.i64 _ (List.mem_of_getElem? (get_gd hi))
  have a2 := h.i64 _ (List.mem_of_getElem? (get_gd hj))
  rw [e] at a1
  rw [e'] at a2
  have := (h.put hi a2).put (i := j) (by simpa using hj) a1
  unfold swap2
  rw [e, e']
  exact this
theorem own (h : LkAt w0 g c w l) {B : Nat} (hB : B ≤ g) : OAgg ELnk 49 4 (fun _ => False) w B (.slice (some ⟨g, 0, none⟩) l.length c) l := by
  obtain ⟨⟨cur, hc, k1, k2⟩, h2, h3, h4, h5⟩ := h
  refine ⟨l.map lkv, ?_, ?_, ⟨fun _ h => h.elim, fun W _ => ?_⟩, fun _ _ h => h⟩
  · intro x hx
    obtain ⟨k, _, rfl⟩ := List.mem_map.1 hx
    rfl
  · rw [← List.flatMap_def]
    exact ⟨length_flat4 l, .inr ⟨g, c, cur, rfl, hB, hc, h2, h3, k2, k1.flat⟩⟩
  · refine ⟨by simp, fun i x y hx hy => ?_⟩
    rw [List.getElem?_map, hy] at hx
    cases hx
    exact ⟨rfl, h4 y (List.mem_of_getElem? hy)⟩
end LkAt
theorem all2_lkv {w : World} : ∀ {vs : List (List Value)} {l : List Lk}, All2 (ELnk w) vs l → vs = l.map lkv := fun {vs l} h => by
  refine List.ext_getElem? fun i => ?_
  rw [List.getElem?_map]
  by_cases hi : i < l.length
  · have hv : i < vs.length := by rw [h.1]; exact hi
    have := h.2 i vs[i] l[i] (List.getElem?_eq_getElem hv) (List.getElem?_eq_getElem hi)
    rw [List.getElem?_eq_getElem hv, List.getElem?_eq_getElem hi, this.1]; rfl
  · rw [List.getElem?_eq_none (by rw [h.1]; omega), List.getElem?_eq_none (by omega)]; rfl
theorem OAgg.links {fp : Nat → Prop} {w : World} {B : Nat} {v : Value} {l : List Lk} (h : OAgg ELnk 49 4 fp w B v l) : (v = .slice none 0 0 ∧ l = []) ∨ ∃ g c, v = .slice (some ⟨g, 0, none⟩) l.length c ∧ B ≤ g ∧ LkAt w g c w l := by
  obtain ⟨vs, h1, ⟨k1, k2⟩, h3, h4⟩ := h
  have hv := all2_lkv h3.get
  rcases k2 with ⟨e1, h0⟩ | ⟨g, cap, cur, e1, hb1, hg, hnc, hcm, hcs, ht⟩
  · exact .inl ⟨e1, List.eq_nil_of_length_eq_zero h0⟩
  · refine .inr ⟨g, cap, e1, hb1, ⟨cur, hg, CellsL.of_flat (by rw [hcs]; omega) ?_, hcs⟩, hnc, hcm, fun k hk => ?_, Frame'.refl _ _⟩
    · rw [ht, hv, ← List.flatMap_def]
    · obtain ⟨i, hi⟩ := List.getElem?_of_mem hk
      exact (h3.get.2 i (lkv k) k (by rw [hv, List.getElem?_map, hi]; rfl) hi).2

/-- The slice value v owns the truth values bs. -/
def OwnU (w : World) (base : Nat) (v : Value) (bs : List Bool) : Prop := w.ownsRow base 4 1 v bs.length (bs.map Value.bool)
namespace OwnU
variable {w w' : World} {B n c g : Nat} {bs : List Bool}
theorem made (w : World) (B n : Nat) (hB : B ≤ w.heap.size) (hn : n ≤ 1000000) : OwnU (w.alloc (.cells (madeCells #[.bool false] n) 4)) B (.slice (some ⟨w.heap.size, 0, none⟩) n n) (List.replicate n false) := by
  unfold OwnU
  have := World.ownsRow_lit (base := B) (e := 4) (size := 1) w (madeCells #[.bool false] n) n hB (by unfold maxLen; omega) (by rw [size_madeCells]; simp)
  rw [toList_madeCells_one] at this
  simpa using this
theorem keep (h : OwnU w B (.slice (some ⟨g, 0, none⟩) n c) bs) (k : w'.heap[g]? = w.heap[g]?) : OwnU w' B (.slice (some ⟨g, 0, none⟩) n c) bs := by
  unfold OwnU at *
  obtain ⟨h1, h2⟩ := h
  refine ⟨h1, ?_⟩
  rcases h2 with h2 | ⟨g', cap, cur, e, hb, hg, r⟩
  · exact .inl h2
  · cases e
    exact .inr ⟨g, c, cur, rfl, hb, k.trans hg, r⟩
theorem lt (h : OwnU w B (.slice (some ⟨g, 0, none⟩) n c) bs) : B ≤ g ∧ g < w.heap.size := World.ownsRow.lt h g rfl
theorem below (h : OwnU w B (.slice (some ⟨g, 0, none⟩) n c) bs) (hb : Below w.heap.size w w') : OwnU w' B (.slice (some ⟨g, 0, none⟩) n c) bs := h.keep (hb.block g h.lt.2)
theorem frame {S : Nat → Prop} (h : OwnU w B (.slice (some ⟨g, 0, none⟩) n c) bs) (k : Frame' S w w') (hg : ¬ S g) : OwnU w' B (.slice (some ⟨g, 0, none⟩) n c) bs := h.keep (k.block g h.lt.2 hg)
theorem set (h : OwnU w B (.slice (some ⟨g, 0, none⟩) n c) bs) (hl : bs.length = n) (j : Nat) (v : Bool) : OwnU (w.setCell ⟨g, j, none⟩ (.bool v)) B (.slice (some ⟨g, 0, none⟩) n c) (bs.set j v) := by
  have hown : w.ownsRow B 4 1 (.slice (some ⟨g, 0, none⟩) n c) n (bs.map Value.bool) := by have := h; unfold OwnU at this; rwa [hl] at this
  unfold OwnU
  rw [List.length_set, hl, List.map_set]
  exact (hown.stored j _).1
theorem at_ (h : OwnU w B (.slice (some ⟨g, 0, none⟩) n c) bs) (hl : bs.length = n) {j : Nat} (hj : j < n) : ∃ v, Hid (bs[j]? = some v) ∧ w.cell? ⟨g, j, none⟩ = some (.bool v) ∧ w.frozen? ⟨g, j, none⟩ = false := by
  have hown : w.ownsRow B 4 1 (.slice (some ⟨g, 0, none⟩) n c) n (bs.map Value.bool) := by have := h; unfold OwnU at this; rwa [hl] at this
  have he := List.getElem?_eq_getElem (show j < bs.length by omega)
  exact ⟨_, he, by rw [hown.cellAt j (by omega), List.getElem?_map, he]; rfl, hown.frozenAt j⟩
end OwnU
end Go.Proofs.YtolbceckbnifmaaGreat

namespace Go.Proofs.YtolbceckbnifmaaGreat
open Go.RowKit Go.Proofs Go.Shelf
attribute [local go_sem] cell?_more cell?_alloc_some cell?_setCell_far frozen?_alloc_some frozen?_more
theorem LkAt.drew {w0 w : World} {g c : Nat} {l : List Lk} (h : LkAt w0 g c w l) : LkAt w0 g c w.drew l := ⟨h.cur, h.len, h.cap, h.i64, ⟨h.fr.os, h.fr.tape, h.fr.output, h.fr.size, h.fr.block⟩⟩
set_option maxRecDepth 100000 in
set_option maxHeartbeats 2000000 in
theorem swapRange_any (G : FuncId) (g c a b k : Nat) (l : List Lk) (w0 w : World) (h : LkAt w0 g c w l) (hab : a + k ≤ b) (hb : b + k ≤ l.length) (hn : l.length ≤ 1000) :
    Calls Tryz.prog 161 #[.slice (some ⟨g, 0, none⟩) l.length c, .int .i64 a, .int .i64 b, .int .i64 k, .func (.func G) #[] #[]] w fun e w' => e = .returned (.tuple #[]) ∧ LkAt w0 g c w' (byI l (swpI a b k)) := by
  have hz : Hid (LkAt w0 g c w (byI l (swpI a b 0))) := by
    unfold Hid
    rw [byI_id fun k _ => by unfold swpI; rw [if_neg (by omega), if_neg (by omega)]]
    exact h
  clear h
  generalize hN : l.length = N at *
  have HN := hide hN
  clear hN
  go_enter Tryz.func161, Tryz.ntmps161
  go_wp2
  go_loopw [10] (fun s wr => ∃ i : Nat, i ≤ k ∧ s = .int .i64 i ∧ Hid (LkAt w0 g c wr (byI l (swpI a b i)))) (fun s _ => k - (intOf s).toNat)
  case atStart => exact ⟨0, Nat.zero_le _, rfl, hz⟩
  case round =>
    clear hz
    obtain ⟨i, hi, rfl, hL⟩ := hrel
    by_cases hlt : i < k
    · have hnx := hide (swp_next (l := l) (a := a) (b := b) (i := i) (by omega) (by rw [HN.out]; omega))
      have hlen : Hid ((byI l (swpI a b i)).length = N) := by unfold Hid; rw [byI_len]; exact HN.out
      have hq : a + i < b + i := by omega
      have hqN : b + i < N := by omega
      have ep : (a : Int) + (i : Int) = ((a + i : Nat) : Int) := by omega
      have eq : (b : Int) + (i : Int) = ((b + i : Nat) : Int) := by omega
      generalize hp' : a + i = p at *
      generalize hq' : b + i = q at *
      clear hp' hq'
      obtain ⟨x, y, m, f, hx, c0, c1, c2, c3, hx64⟩ := hL.out.get (i := p) (by rw [hlen.out]; omega)
      obtain ⟨x', y', m', f', hx', d0, d1, d2, d3, hx64'⟩ := hL.out.get (i := q) (by rw [hlen.out]; omega)
      have hsw := hide (hL.out.swap (i := p) (j := q) (by rw [hlen.out]; omega) (by rw [hlen.out]; omega) hx.out hx'.out)
      rw [hnx.out] at hsw
      have n00 : p * 4 ≠ q * 4 := by omega
      have n01 : p * 4 ≠ q * 4 + 1 := by omega
      have n02 : p * 4 ≠ q * 4 + 2 := by omega
      have n03 : p * 4 ≠ q * 4 + 3 := by omega
      have n10 : p * 4 + 1 ≠ q * 4 := by omega
      have n11 : p * 4 + 1 ≠ q * 4 + 1 := by omega
      have n12 : p * 4 + 1 ≠ q * 4 + 2 := by omega
      have n13 : p * 4 + 1 ≠ q * 4 + 3 := by omega
      have n20 : p * 4 + 2 ≠ q * 4 := by omega
      have n21 : p * 4 + 2 ≠ q * 4 + 1 := by omega
      have n22 : p * 4 + 2 ≠ q * 4 + 2 := by omega
      have n23 : p * 4 + 2 ≠ q * 4 + 3 := by omega
      have n30 : p * 4 + 3 ≠ q * 4 := by omega
      have n31 : p * 4 + 3 ≠ q * 4 + 1 := by omega
      have n32 : p * 4 + 3 ≠ q * 4 + 2 := by omega
      have n33 : p * 4 + 3 ≠ q * 4 + 3 := by omega
      have pf0 := hL.out.free (p * 4)
      have pf1 := hL.out.free (p * 4 + 1)
      have pf2 := hL.out.free (p * 4 + 2)
      have pf3 := hL.out.free (p * 4 + 3)
      have qf0 := hL.out.free (q * 4)
      have qf1 := hL.out.free (q * 4 + 1)
      have qf2 := hL.out.free (q * 4 + 2)
      have qf3 := hL.out.free (q * 4 + 3)
      have i1 : (0 : Int) ≤ (p : Int) := by omega
      have i2 : (p : Int) < (N : Int) := by omega
      have i3 : (0 : Int) ≤ (q : Int) := by omega
      have i4 : (q : Int) < (N : Int) := by omega
      have e1 : IntKind.i64.wrap (p : Int) = (p : Int) := IntWalk.i64_in _ (by omega)
      have e2 : IntKind.i64.wrap (q : Int) = (q : Int) := IntWalk.i64_in _ (by omega)
      go_wp2_with fail
      go_region_with (fail)
      all_goals
        go_wp2
        go_roundw
        case rel => exact ⟨i + 1, by omega, by go_num, hsw.out.drew⟩
        case measure => simp [intOf] <;> omega
    · obtain rfl : i = k := by omega
      go_wp2
      refine bodyPost_end (results_none rfl _ _ _) rfl ?_
      exact ⟨rfl, hL.out⟩
/-- A rotation. -/
theorem rotate_any (G : FuncId) (g c a m b : Nat) (l : List Lk) (w0 w : World) (h : LkAt w0 g c w l) (ham : a < m) (hmb : m < b) (hb : b ≤ l.length) (hn : l.length ≤ 1000) :
    Calls Tryz.prog 143 #[.slice (some ⟨g, 0, none⟩) l.length c, .int .i64 a, .int .i64 m, .int .i64 b, .func (.func G) #[] #[]] w fun e w' => e = .returned (.tuple #[]) ∧ LkAt w0 g c w' (byI l (rotI a m b)) := by
  have H := hide h
  clear h
  generalize hN : l.length = N at *
  have HN := hide hN
  clear hN
  have e1 : (m : Int) - (a : Int) = ((m - a : Nat) : Int) := by omega
  have e2 : (b : Int) - (m : Int) = ((b - m : Nat) : Int) := by omega
  have hI : Hid (m - (m - a) = a ∧ m + (b - m) = b) := ⟨by omega, by omega⟩
  have hi0 : 0 < m - a ∧ m - a ≤ m := by omega
  have hj0 : 0 < b - m ∧ m + (b - m) ≤ N := by omega
  generalize m - a = i0 at *
  generalize b - m = j0 at *
  go_enter Tryz.func143, Tryz.ntmps143
  go_wp2
  go_loopw [10, 11] (fun s t wr => ∃ (i j : Nat) (cur : List Lk), 0 < i ∧ 0 < j ∧ i ≤ m ∧ m + j ≤ N ∧ s = .int .i64 i ∧ t = .int .i64 j ∧ Hid (LkAt w0 g c wr cur) ∧ Hid (cur.length = N) ∧ Hid (byI cur (rotI (m - i) m (m + j)) = byI l (rotI a m b))) (fun s t _ => (intOf s).toNat + (intOf t).toNat)
  case atStart => exact ⟨i0, j0, l, hi0.1, hj0.1, hi0.2, hj0.2, rfl, rfl, H, HN, by rw [hI.out.1, hI.out.2]; exact rfl⟩
  case round =>
    clear hI hi0 hj0 e1 e2
    obtain ⟨i, j, cur, hi, hj, him, hjn, rfl, rfl, hL, hlc, hE⟩ := hrel
    have e1 : (m : Int) - (i : Int) = ((m - i : Nat) : Int) := by omega
    by_cases hij : i = j
    · subst hij
      have hcall := swapRange_any G g c (m - i) m i cur w0 wr hL.out (by omega) (by rw [hlc.out]; exact hjn) (by rw [hlc.out]; exact hn)
      rw [hlc.out] at hcall
      go_wp2_with fail
      refine hcall.mono ?_
      rintro e w' ⟨rfl, hL'⟩
      have HL' := hide hL'
      clear hL'
      go_wp2
      refine bodyPost_end (results_none rfl _ _ _) rfl ?_
      refine ⟨rfl, ?_⟩
      have := HL'.out
      rwa [rotL_same him, hE.out] at this
    · have d1 : ((i : Int) == (j : Int)) = false := by rw [beq_eq_false_iff_ne]; omega
      by_cases hgt : j < i
      · have hcall := swapRange_any G g c (m - i) m j cur w0 wr hL.out (by omega) (by rw [hlc.out]; exact hjn) (by rw [hlc.out]; exact hn)
        rw [hlc.out] at hcall
        have e2 : (i : Int) - (j : Int) = ((i - j : Nat) : Int) := by omega
        have hE' : Hid (byI (byI cur (swpI (m - i) m j)) (rotI (m - (i - j)) m (m + j)) = byI l (rotI a m b)) := by
          unfold Hid
          rw [show m - (i - j) = m - i + j by omega, rotL_more him hgt (by rw [hlc.out]; exact hjn)]
          exact hE.out
        go_wp2_with fail
        refine hcall.mono ?_
        rintro e w' ⟨rfl, hL'⟩
        have HL' := hide hL'
        clear hL' hcall
        go_wp2
        go_roundw
        case rel => exact ⟨i - j, j, _, by omega, hj, by omega, hjn, by go_num, rfl, HL', by unfold Hid; rw [byI_len]; exact hlc.out, hE'⟩
        case measure => simp [intOf] <;> omega
      · have hcall := swapRange_any G g c (m - i) (m + j - i) i cur w0 wr hL.out (by omega) (by rw [hlc.out]; omega) (by rw [hlc.out]; exact hn)
        rw [hlc.out] at hcall
        have e2 : (j : Int) - (i : Int) = ((j - i : Nat) : Int) := by omega
        have e3 : (m : Int) + (j : Int) - (i : Int) = ((m + j - i : Nat) : Int) := by omega
        have hE' : Hid (byI (byI cur (swpI (m - i) (m + j - i) i)) (rotI (m - i) m (m + (j - i))) = byI l (rotI a m b)) := by
          unfold Hid
          rw [show m + (j - i) = m + j - i by omega, rotL_less him (by omega) (by rw [hlc.out]; exact hjn)]
          exact hE.out
        go_wp2_with fail
        refine hcall.mono ?_
        rintro e w' ⟨rfl, hL'⟩
        have HL' := hide hL'
        clear hL' hcall
        go_wp2
        go_roundw
        case rel => exact ⟨i, j - i, _, hi, by omega, him, by omega, rfl, by go_num, HL', by unfold Hid; rw [byI_len]; exact hlc.out, hE'⟩
        case measure => simp [intOf] <;> omega
end Go.Proofs.YtolbceckbnifmaaGreat

namespace Go.Proofs.YtolbceckbnifmaaGreat
open Go.RowKit Go.Proofs Go.Shelf
attribute [local go_sem] cell?_more cell?_alloc_some cell?_setCell_far frozen?_alloc_some frozen?_more
/-- What the comparison returns. -/
def cmpK (x y : Lk) : Int := if y.2.2.1 < x.2.2.1 then -1 else if x.2.2.1 < y.2.2.1 then 1 else if y.2.2.2 < x.2.2.2 then -1 else if x.2.2.2 < y.2.2.2 then 1 else 0
theorem cmpK_lt (x y : Lk) : cmpK x y < 0 ↔ ltL x y := by
  unfold cmpK ltL
  repeat' split
  all_goals omega
/-- G compares links. -/
structure CmpFn (G : FuncId) : Prop where
  eg : ∀ args w, (callFunc G args).run Tryz.prog w = .ok (.enter G args) w
  run : ∀ (x y : Lk) (w : World), I64k x → I64k y → Calls Tryz.prog G (#[.agg #[.int .i64 x.1, .int .i64 x.2.1, .int .i64 x.2.2.1, .int .i64 x.2.2.2], .agg #[.int .i64 y.1, .int .i64 y.2.1, .int .i64 y.2.2.1, .int .i64 y.2.2.2]] ++ #[]) w fun e w' => e = .returned (.int .i64 (cmpK x y)) ∧ Below w.heap.size w w'
/-- What a part of the sort leaves in memory. -/
def SrtPost (T : Lk → Lk → Prop) (w0 : World) (g c : Nat) (l : List Lk) (a b : Nat) (e : Ending) (w' : World) : Prop :=
  e = .returned (.tuple #[]) ∧ ∃ l', LkAt w0 g c w' l' ∧ Srt ltL T l l' a b ∧ SegS ltL (gd l') a b
set_option maxRecDepth 100000 in
set_option maxHeartbeats 2000000 in
theorem insertionC_any (T : Lk → Lk → Prop) (hT : ∀ a b, ltL a b → T a b) (G : FuncId) (hG : CmpFn G) (g c a b : Nat) (l : List Lk) (w0 w : World) (h : LkAt w0 g c w l) (hab : a ≤ b) (hb : b ≤ l.length) (hn : l.length ≤ 1000) :
    Calls Tryz.prog 115 #[.slice (some ⟨g, 0, none⟩) l.length c, .int .i64 a, .int .i64 b, .func (.func G) #[] #[]] w (SrtPost T w0 g c l a b) := by
  have H := hide h
  have HT := hide hT
  have HG := hide hG
  have eg := hG.eg
  clear h hT hG
  generalize hN : l.length = N at *
  have HN := hide hN
  clear hN
  go_enter Tryz.func115, Tryz.ntmps115
  go_wp2_with fail
  go_loopw [8, 9] (fun s8 s9 wr => ∃ (i : Nat) (cur : List Lk), a + 1 ≤ i ∧ (i ≤ b ∨ i = a + 1) ∧ s8 = .int .i64 i ∧ Hid (LkAt w0 g c wr cur) ∧ Hid (Srt ltL T l cur a b) ∧ Hid (SegS ltL (gd cur) a i)) (fun s8 s9 _ => b + 1 - (intOf s8).toNat)
  case atStart => exact ⟨a + 1, l, Nat.le_refl _, .inr rfl, rfl, H, Srt.refl _ _ _, seg_one _ (by omega)⟩
  case round =>
    clear H
    obtain ⟨i, cur, hi1, hin, rfl, hL, hS, hO⟩ := hrel
    by_cases hlt : i < b
    · have hlc : Hid (cur.length = N) := by unfold Hid; rw [hS.out.len, HN.out]
      have hL1 : Hid (LkAt w0 g c wr (byI cur (rotI i i (i + 1)))) := by unfold Hid; rw [rot_none _ (by omega)]; exact hL.out
      have hd0 : Hid (∀ k, i ≤ k → k < i → ltL (gd cur i) (gd cur k)) := fun k h1 h2 => by omega
      obtain ⟨wx, rfl⟩ : ∃ wx : World, wx = wr := ⟨_, rfl⟩
      go_wp2_with fail
      clear hL
      go_loopw [9] (fun s9 wr => ∃ j : Nat, a ≤ j ∧ j ≤ i ∧ s9 = .int .i64 j ∧ Hid (LkAt w0 g c wr (byI cur (rotI j i (i + 1)))) ∧ Hid (∀ k, j ≤ k → k < i → ltL (gd cur i) (gd cur k))) (fun s9 _ => (intOf s9).toNat)
      case atStart => exact ⟨i, by omega, Nat.le_refl _, rfl, hL1, hd0⟩
      case round =>
        clear hL1 hd0
        obtain ⟨j, haj, hji, rfl, hL, hd⟩ := hrel
        have hcl : Hid ((byI cur (rotI j i (i + 1))).length = N) := by unfold Hid; rw [byI_len]; exact hlc.out
        have hend : (j = a ∨ ¬ ltL (gd cur i) (gd cur (j - 1))) → Hid (Srt ltL T l (byI cur (rotI j i (i + 1))) a b ∧ SegS ltL (gd (byI cur (rotI j i (i + 1)))) a (i + 1)) := fun hs => by
          have := srt_ins ltL_weak HT.out cur haj hji (by rw [hlc.out]; omega) hO.out hd.out hs
          exact ⟨hS.out.trans (this.1.wide (Nat.le_refl _) (by omega)), this.2⟩
        have Hend := hide hend
        clear hend
        by_cases hj0 : j = a
        · have hfin := Hend.out (.inl hj0)
          have hjz : ¬ (a : Int) < (j : Int) := by omega
          clear hj0
          go_upto_region 4 with (fail)
          refine wp_region_more (by kernel_rfl) (by kernel_rfl) ?_
          repeat (go_big_quiet_step (fail))
          refine wpQuiet_nil ?_
          rintro w4 ⟨qw4, hww4⟩
          have hbw4 := below_of_eq hww4
          clear hww4 qw4
          go_wp2_with fail
          go_roundw
          case rel => exact ⟨i + 1, _, by omega, .inl (by omega), by go_num, LkAt.below hL.out hbw4, hfin.out.1, hfin.out.2⟩
          case measure => simp [intOf] <;> omega
        · obtain ⟨k, rfl⟩ : ∃ k, j = k + 1 := ⟨j - 1, by omega⟩
          obtain ⟨x, y, m, f, hx, c0, c1, c2, c3, hx64⟩ := hL.out.get (i := k + 1) (by rw [hcl.out]; omega)
          obtain ⟨x', y', m', f', hx', d0, d1, d2, d3, hx64'⟩ := hL.out.get (i := k) (by rw [hcl.out]; omega)
          have hq1 : ∀ q, Calls Tryz.prog G (#[.agg #[.int .i64 x, .int .i64 y, .int .i64 m, .int .i64 f], .agg #[.int .i64 x', .int .i64 y', .int .i64 m', .int .i64 f']] ++ #[]) (More wr q) fun e w'' => e = .returned (.int .i64 (cmpK (x, y, m, f) (x', y', m', f'))) ∧ ∃ q', w'' = More wr q' := fun q => more_of (HG.out.run (x, y, m, f) (x', y', m', f') (More wr q) hx64.out hx64'.out)
          have g1 : Hid (gd cur i = (x, y, m, f)) := by
            unfold Hid
            rw [← hx.out, gd_byI _ _ (by rw [hlc.out]; omega), rot_a (by omega) (by omega), show i + (k + 1 - (k + 1)) = i by omega]
          have g2 : Hid (gd cur k = (x', y', m', f')) := by
            unfold Hid
            rw [← hx'.out, gd_byI _ _ (by rw [hlc.out]; omega), rot_lt (by omega)]
          have hjz : (a : Int) < (k : Int) + 1 := by omega
          have b1 : (0 : Int) ≤ (k : Int) := by omega
          have b2 : (k : Int) < (N : Int) := by omega
          have b3 : (k : Int) + 1 < (N : Int) := by omega
          have hC := cmpK_lt (x, y, m, f) (x', y', m', f')
          generalize cmpK (x, y, m, f) (x', y', m', f') = z at *
          have HC := hide hC
          clear hC
          by_cases hz : z < 0
          · have hdn := hide (HC.out.1 hz)
            have hnx := hide (down_next (l := cur) (j := k) (i := i) (by omega) (by rw [hlc.out]; omega))
            have hsw := hide (fun W (hW : LkAt w0 g c W (byI cur (rotI (k + 1) i (i + 1)))) => hW.swap (i := k + 1) (j := k) (by rw [hcl.out]; omega) (by rw [hcl.out]; omega) hx.out hx'.out)
            rw [hnx.out] at hsw
            go_upto_region 4 with (fail)
            refine wp_region_more (by kernel_rfl) (by kernel_rfl) ?_
            repeat (go_big_quiet_step ((go_at_fn G; exact hq1 _)))
            refine wpQuiet_nil ?_
            rintro w4 ⟨qw4, hww4⟩
            have hbw4 := below_of_eq hww4
            clear hww4 qw4
            have c40 := keep_cell hbw4 c0
            have c41 := keep_cell hbw4 c1
            have c42 := keep_cell hbw4 c2
            have c43 := keep_cell hbw4 c3
            have d40 := keep_cell hbw4 d0
            have d41 := keep_cell hbw4 d1
            have d42 := keep_cell hbw4 d2
            have d43 := keep_cell hbw4 d3
            have hL4 := hide (hL.out.below hbw4)
            clear c0 c1 c2 c3 d0 d1 d2 d3 hq1 Hend
            have n00 : (k + 1) * 4 ≠ k * 4 := by omega
            have n01 : (k + 1) * 4 ≠ k * 4 + 1 := by omega
            have n02 : (k + 1) * 4 ≠ k * 4 + 2 := by omega
            have n03 : (k + 1) * 4 ≠ k * 4 + 3 := by omega
            have n10 : (k + 1) * 4 + 1 ≠ k * 4 := by omega
            have n11 : (k + 1) * 4 + 1 ≠ k * 4 + 1 := by omega
            have n12 : (k + 1) * 4 + 1 ≠ k * 4 + 2 := by omega
            have n13 : (k + 1) * 4 + 1 ≠ k * 4 + 3 := by omega
            have n20 : (k + 1) * 4 + 2 ≠ k * 4 := by omega
            have n21 : (k + 1) * 4 + 2 ≠ k * 4 + 1 := by omega
            have n22 : (k + 1) * 4 + 2 ≠ k * 4 + 2 := by omega
            have n23 : (k + 1) * 4 + 2 ≠ k * 4 + 3 := by omega
            have n30 : (k + 1) * 4 + 3 ≠ k * 4 := by omega
            have n31 : (k + 1) * 4 + 3 ≠ k * 4 + 1 := by omega
            have n32 : (k + 1) * 4 + 3 ≠ k * 4 + 2 := by omega
            have n33 : (k + 1) * 4 + 3 ≠ k * 4 + 3 := by omega
            have pf0 := hL4.out.free ((k + 1) * 4)
            have pf1 := hL4.out.free ((k + 1) * 4 + 1)
            have pf2 := hL4.out.free ((k + 1) * 4 + 2)
            have pf3 := hL4.out.free ((k + 1) * 4 + 3)
            have qf0 := hL4.out.free (k * 4)
            have qf1 := hL4.out.free (k * 4 + 1)
            have qf2 := hL4.out.free (k * 4 + 2)
            have qf3 := hL4.out.free (k * 4 + 3)
            go_wp2_with fail
            have e1 : ((k + 1 : Nat) : Int) - 1 = (k : Int) := by omega
            have e2 : IntKind.i64.wrap (k : Int) = (k : Int) := IntWalk.i64_in _ (by omega)
            have e3 : wrap64 (k : Int) = (k : Int) := IntWalk.wrap64_in _ (by omega)
            have e4 : ((k + 1 : Nat) : Int).toNat = k + 1 := by omega
            have b5 : (0 : Int) ≤ ((k + 1 : Nat) : Int) := by omega
            have b6 : ((k + 1 : Nat) : Int) < (N : Int) := by omega
            have hL5 := hide (hsw.out _ hL4.out)
            go_region_with (fail)
            all_goals
              go_wp2
              go_roundw
              case rel => exact ⟨k, by omega, by omega, by go_num, hL5.out.drew, fun q h1 h2 => by
                by_cases e : q = k
                · rw [e, g1.out, g2.out]; exact hdn.out
                · exact hd.out q (by omega) h2⟩
              case measure => simp [intOf] <;> omega
          · have hfin := Hend.out (.inr (by rw [Nat.add_sub_cancel, g1.out, g2.out]; exact fun h => hz (HC.out.2 h)))
            go_upto_region 4 with (fail)
            refine wp_region_more (by kernel_rfl) (by kernel_rfl) ?_
            repeat (go_big_quiet_step ((go_at_fn G; exact hq1 _)))
            refine wpQuiet_nil ?_
            rintro w4 ⟨qw4, hww4⟩
            have hbw4 := below_of_eq hww4
            clear hww4 qw4
            clear c0 c1 c2 c3 d0 d1 d2 d3 hq1 Hend
            go_wp2_with fail
            go_roundw
            case rel => exact ⟨i + 1, _, by omega, .inl (by omega), by go_num, LkAt.below hL.out hbw4, hfin.out.1, hfin.out.2⟩
            case measure => simp [intOf] <;> omega
    · have hsr : Hid (SegS ltL (gd cur) a b) := by
        rcases hin with h | h
        · obtain rfl : i = b := by omega
          exact hO.out
        · exact seg_one _ (by omega)
      go_wp2
      refine bodyPost_end (results_none rfl _ _ _) rfl ?_
      exact ⟨rfl, cur, hL.out, hS.out, hsr.out⟩
end Go.Proofs.YtolbceckbnifmaaGreat

namespace Go.Proofs.YtolbceckbnifmaaGreat
open Go.RowKit Go.Proofs Go.Shelf
attribute [local go_sem] cell?_more cell?_alloc_some cell?_setCell_far frozen?_alloc_some frozen?_more
set_option maxRecDepth 100000 in
set_option maxHeartbeats 4000000 in
theorem symMerge1_any (T : Lk → Lk → Prop) (hT : ∀ a b, ltL a b → T a b) (G : FuncId) (hG : CmpFn G) (g c : Nat) (w0 : World) (a m b : Nat) (l : List Lk) (w : World) (h : LkAt w0 g c w l) (ham : a < m) (hmb : m < b) (hb : b ≤ l.length) (hn : l.length ≤ 1000) (hs1 : SegS ltL (gd l) a m) (hs2 : SegS ltL (gd l) m b) (hc1 : m - a = 1) :
    Calls Tryz.prog 116 #[.slice (some ⟨g, 0, none⟩) l.length c, .int .i64 a, .int .i64 m, .int .i64 b, .func (.func G) #[] #[]] w (SrtPost T w0 g c l a b) := by
  have H := hide h
  have HT := hide hT
  have HG := hide hG
  have S1 := hide hs1
  have S2 := hide hs2
  have eg := hG.eg
  clear h hT hG hs1 hs2
  generalize hN : l.length = N at *
  have HN := hide hN
  clear hN
  go_enter Tryz.func116, Tryz.ntmps116
  have hm1 : m ≤ a + 1 := by omega
  clear hc1
  have t1 : ((m : Int) - (a : Int) == 1) = true := by rw [beq_iff_eq]; omega
  go_wp2_with fail
  go_loopw [10, 11, 12] (fun s t _ wr => ∃ i j : Nat, a + 1 ≤ i ∧ i ≤ j ∧ j ≤ b ∧ s = .int .i64 i ∧ t = .int .i64 j ∧ Hid (LkAt w0 g c wr l) ∧ Hid (∀ k, a + 1 ≤ k → k < i → ltL (gd l k) (gd l a)) ∧ Hid (j = b ∨ ¬ ltL (gd l j) (gd l a))) (fun s t _ _ => (intOf t).toNat - (intOf s).toNat)
  case atStart => exact ⟨m, b, by omega, by omega, Nat.le_refl _, rfl, rfl, H, fun k h1 h2 => by omega, .inl rfl⟩
  case round =>
    clear H
    obtain ⟨i, j, hai, hij, hjb, rfl, rfl, hL, hlo, hhi⟩ := hrel
    by_cases hlt : i < j
    · obtain ⟨hm, hh⟩ : ∃ hm : Nat, hm = (i + j) / 2 := ⟨_, rfl⟩
      have eh : ((i : Int) + (j : Int)) / 2 = (hm : Int) := by omega
      have hb1 : i ≤ hm ∧ hm < j := by omega
      clear hh
      have i1 : (0 : Int) ≤ (hm : Int) := by omega
      have i2 : (hm : Int) < (N : Int) := by omega
      have i3 : (a : Int) < (N : Int) := by omega
      obtain ⟨x, y, m1, f, hx, c0, c1, c2, c3, hx64⟩ := hL.out.get (i := hm) (by rw [HN.out]; omega)
      obtain ⟨x', y', m', f', hx', d0, d1, d2, d3, hx64'⟩ := hL.out.get (i := a) (by rw [HN.out]; omega)
      have hq1 : ∀ q, Calls Tryz.prog G (#[.agg #[.int .i64 x, .int .i64 y, .int .i64 m1, .int .i64 f], .agg #[.int .i64 x', .int .i64 y', .int .i64 m', .int .i64 f']] ++ #[]) (More wr q) fun e w'' => e = .returned (.int .i64 (cmpK (x, y, m1, f) (x', y', m', f'))) ∧ ∃ q', w'' = More wr q' := fun q => more_of (HG.out.run (x, y, m1, f) (x', y', m', f') (More wr q) hx64.out hx64'.out)
      have hC := cmpK_lt (x, y, m1, f) (x', y', m', f')
      rw [← hx.out, ← hx'.out] at hC
      rw [hx.out, hx'.out] at hC
      have HC : Hid (cmpK (x, y, m1, f) (x', y', m', f') < 0 ↔ ltL (gd l (hm)) (gd l (a))) := by unfold Hid; rw [hx.out, hx'.out]; exact hC
      clear hC
      generalize cmpK (x, y, m1, f) (x', y', m', f') = z at *
      by_cases hz : z < 0
      · have hlo' : Hid (∀ k, a + 1 ≤ k → k < hm + 1 → ltL (gd l k) (gd l a)) := fun k h1 h2 => by
          have hl := HC.out.1 hz
          by_cases e : k < i
          · exact hlo.out k h1 e
          · by_cases e2 : k = hm
            · rw [e2]; exact hl
            · exact ltL_weak.le_lt (S2.out k hm (by omega) (by omega) (by omega)) hl
        go_wp2_with fail
        refine wp_region_more (by kernel_rfl) (by kernel_rfl) ?_
        repeat (go_big_quiet_step ((go_at_fn G; exact hq1 _)))
        refine wpQuiet_nil ?_
        rintro w4 ⟨qw4, hww4⟩
        have hbw4 := below_of_eq hww4
        clear hww4 qw4
        have hL4 := hide (hL.out.below hbw4)
        clear c0 c1 c2 c3 d0 d1 d2 d3 hq1
        go_wp2
        go_roundw
        case rel => exact ⟨hm + 1, j, by omega, by omega, hjb, by go_num, rfl, hL4, hlo', hhi⟩
        case measure => simp [intOf] <;> omega
      · have hhi' : Hid (hm = b ∨ ¬ ltL (gd l hm) (gd l a)) := .inr fun h => hz (HC.out.2 h)
        go_wp2_with fail
        refine wp_region_more (by kernel_rfl) (by kernel_rfl) ?_
        repeat (go_big_quiet_step ((go_at_fn G; exact hq1 _)))
        refine wpQuiet_nil ?_
        rintro w4 ⟨qw4, hww4⟩
        have hbw4 := below_of_eq hww4
        clear hww4 qw4
        have hL4 := hide (hL.out.below hbw4)
        clear c0 c1 c2 c3 d0 d1 d2 d3 hq1
        go_wp2
        go_roundw
        case rel => exact ⟨i, hm, hai, by omega, by omega, rfl, rfl, hL4, hlo, hhi'⟩
        case measure => simp [intOf] <;> omega
    · obtain rfl : i = j := by omega
      have hfin := hide (srt_ins2 ltL_weak HT.out l (a := a) (i := i) (b := b) (by omega) hjb (by rw [HN.out]; exact hb) (seg_sub S2.out (by omega) (Nat.le_refl _)) hlo.out hhi.out)
      have hL0 : Hid (LkAt w0 g c wr (byI l (rotI a (a + 1) (a + 1)))) := by unfold Hid; rw [rot_none2 _ (by omega)]; exact hL.out
      obtain ⟨wx, rfl⟩ : ∃ wx : World, wx = wr := ⟨_, rfl⟩
      go_wp2_with fail
      clear hL hlo hhi
      go_loopw [13] (fun s wr => ∃ k : Nat, a ≤ k ∧ k + 1 ≤ i ∧ s = .int .i64 k ∧ Hid (LkAt w0 g c wr (byI l (rotI a (a + 1) (k + 1))))) (fun s _ => i - (intOf s).toNat)
      case atStart => exact ⟨a, Nat.le_refl _, by omega, rfl, hL0⟩
      case round =>
        clear hL0
        obtain ⟨k, hak, hki, rfl, hL⟩ := hrel
        by_cases hlt : k + 1 < i
        · have hnx := hide (up_next (l := l) (a := a) (k := k) hak (by rw [HN.out]; omega))
          have hcl : Hid ((byI l (rotI a (a + 1) (k + 1))).length = N) := by unfold Hid; rw [byI_len]; exact HN.out
          obtain ⟨x, y, m1, f, hx, c0, c1, c2, c3, hx64⟩ := hL.out.get (i := k) (by rw [hcl.out]; omega)
          obtain ⟨x', y', m', f', hx', d0, d1, d2, d3, hx64'⟩ := hL.out.get (i := k + 1) (by rw [hcl.out]; omega)
          have hsw := hide (hL.out.swap (i := k) (j := k + 1) (by rw [hcl.out]; omega) (by rw [hcl.out]; omega) hx.out hx'.out)
          rw [hnx.out] at hsw
          have n00 : k * 4 ≠ (k + 1) * 4 := by omega
          have n01 : k * 4 ≠ (k + 1) * 4 + 1 := by omega
          have n02 : k * 4 ≠ (k + 1) * 4 + 2 := by omega
          have n03 : k * 4 ≠ (k + 1) * 4 + 3 := by omega
          have n10 : k * 4 + 1 ≠ (k + 1) * 4 := by omega
          have n11 : k * 4 + 1 ≠ (k + 1) * 4 + 1 := by omega
          have n12 : k * 4 + 1 ≠ (k + 1) * 4 + 2 := by omega
          have n13 : k * 4 + 1 ≠ (k + 1) * 4 + 3 := by omega
          have n20 : k * 4 + 2 ≠ (k + 1) * 4 := by omega
          have n21 : k * 4 + 2 ≠ (k + 1) * 4 + 1 := by omega
          have n22 : k * 4 + 2 ≠ (k + 1) * 4 + 2 := by omega
          have n23 : k * 4 + 2 ≠ (k + 1) * 4 + 3 := by omega
          have n30 : k * 4 + 3 ≠ (k + 1) * 4 := by omega
          have n31 : k * 4 + 3 ≠ (k + 1) * 4 + 1 := by omega
          have n32 : k * 4 + 3 ≠ (k + 1) * 4 + 2 := by omega
          have n33 : k * 4 + 3 ≠ (k + 1) * 4 + 3 := by omega
          have pf0 := hL.out.free (k * 4)
          have pf1 := hL.out.free (k * 4 + 1)
          have pf2 := hL.out.free (k * 4 + 2)
          have pf3 := hL.out.free (k * 4 + 3)
          have qf0 := hL.out.free ((k + 1) * 4)
          have qf1 := hL.out.free ((k + 1) * 4 + 1)
          have qf2 := hL.out.free ((k + 1) * 4 + 2)
          have qf3 := hL.out.free ((k + 1) * 4 + 3)
          have hlz : (k : Int) < (i : Int) - 1 := by omega
          have i1 : (0 : Int) ≤ (k : Int) := by omega
          have i2 : (k : Int) < (N : Int) := by omega
          have i3 : (0 : Int) ≤ (k : Int) + 1 := by omega
          have i4 : (k : Int) + 1 < (N : Int) := by omega
          have e1 : ((k : Int) + 1).toNat = k + 1 := by omega
          have e2 : wrap64 ((k : Int) + 1) = (k : Int) + 1 := IntWalk.wrap64_in _ (by omega)
          have e3 : IntKind.i64.wrap (k : Int) = (k : Int) := IntWalk.i64_in _ (by omega)
          have e4 : IntKind.i64.wrap ((k : Int) + 1) = (k : Int) + 1 := IntWalk.i64_in _ (by omega)
          go_wp2_with fail
          go_region_with (fail)
          all_goals
            go_wp2
            go_roundw
            case rel => exact ⟨k + 1, by omega, by omega, by go_num, hsw.out.drew⟩
            case measure => simp [intOf] <;> omega
        · have hke : Hid (k + 1 = i) := by show k + 1 = i; omega
          have hlz : ¬ (k : Int) < (i : Int) - 1 := by omega
          go_wp2
          refine bodyPost_ret (results_none rfl _ _ _) rfl ?_
          rw [hke.out] at hL
          exact ⟨rfl, _, hL.out, hfin.out.1, hfin.out.2⟩
set_option maxRecDepth 100000 in
set_option maxHeartbeats 4000000 in
theorem symMerge2_any (T : Lk → Lk → Prop) (hT : ∀ a b, ltL a b → T a b) (G : FuncId) (hG : CmpFn G) (g c : Nat) (w0 : World) (a m b : Nat) (l : List Lk) (w : World) (h : LkAt w0 g c w l) (ham : a < m) (hmb : m < b) (hb : b ≤ l.length) (hn : l.length ≤ 1000) (hs1 : SegS ltL (gd l) a m) (hs2 : SegS ltL (gd l) m b) (hc1 : ¬ m - a = 1) (hc2 : b - m = 1) :
    Calls Tryz.prog 116 #[.slice (some ⟨g, 0, none⟩) l.length c, .int .i64 a, .int .i64 m, .int .i64 b, .func (.func G) #[] #[]] w (SrtPost T w0 g c l a b) := by
  have H := hide h
  have HT := hide hT
  have HG := hide hG
  have S1 := hide hs1
  have S2 := hide hs2
  have eg := hG.eg
  clear h hT hG hs1 hs2
  generalize hN : l.length = N at *
  have HN := hide hN
  clear hN
  go_enter Tryz.func116, Tryz.ntmps116
  have t1 : ((m : Int) - (a : Int) == 1) = false := by rw [beq_eq_false_iff_ne]; omega
  have hm1 : b ≤ m + 1 := by omega
  have hbe : Hid (m + 1 = b) := by show m + 1 = b; omega
  clear hc1 hc2
  have t2 : ((b : Int) - (m : Int) == 1) = true := by rw [beq_iff_eq]; omega
  go_wp2_with fail
  go_loopw [14, 15, 16] (fun s t _ wr => ∃ i j : Nat, a ≤ i ∧ i ≤ j ∧ j ≤ m ∧ s = .int .i64 i ∧ t = .int .i64 j ∧ Hid (LkAt w0 g c wr l) ∧ Hid (i = a ∨ ¬ ltL (gd l m) (gd l (i - 1))) ∧ Hid (∀ k, j ≤ k → k < m → ltL (gd l m) (gd l k))) (fun s t _ _ => (intOf t).toNat - (intOf s).toNat)
  case atStart => exact ⟨a, m, Nat.le_refl _, by omega, Nat.le_refl _, rfl, rfl, H, .inl rfl, fun k h1 h2 => by omega⟩
  case round =>
    clear H
    obtain ⟨i, j, hai, hij, hjm, rfl, rfl, hL, hlo, hhi⟩ := hrel
    by_cases hlt : i < j
    · obtain ⟨hm, hh⟩ : ∃ hm : Nat, hm = (i + j) / 2 := ⟨_, rfl⟩
      have eh : ((i : Int) + (j : Int)) / 2 = (hm : Int) := by omega
      have hb1 : i ≤ hm ∧ hm < j := by omega
      clear hh
      have i1 : (0 : Int) ≤ (hm : Int) := by omega
      have i2 : (hm : Int) < (N : Int) := by omega
      have i3 : (m : Int) < (N : Int) := by omega
      obtain ⟨x, y, m1, f, hx, c0, c1, c2, c3, hx64⟩ := hL.out.get (i := m) (by rw [HN.out]; omega)
      obtain ⟨x', y', m', f', hx', d0, d1, d2, d3, hx64'⟩ := hL.out.get (i := hm) (by rw [HN.out]; omega)
      have hq1 : ∀ q, Calls Tryz.prog G (#[.agg #[.int .i64 x, .int .i64 y, .int .i64 m1, .int .i64 f], .agg #[.int .i64 x', .int .i64 y', .int .i64 m', .int .i64 f']] ++ #[]) (More wr q) fun e w'' => e = .returned (.int .i64 (cmpK (x, y, m1, f) (x', y', m', f'))) ∧ ∃ q', w'' = More wr q' := fun q => more_of (HG.out.run (x, y, m1, f) (x', y', m', f') (More wr q) hx64.out hx64'.out)
      have hC := cmpK_lt (x, y, m1, f) (x', y', m', f')
      rw [← hx.out, ← hx'.out] at hC
      rw [hx.out, hx'.out] at hC
      have HC : Hid (cmpK (x, y, m1, f) (x', y', m', f') < 0 ↔ ltL (gd l (m)) (gd l (hm))) := by unfold Hid; rw [hx.out, hx'.out]; exact hC
      clear hC
      generalize cmpK (x, y, m1, f) (x', y', m', f') = z at *
      by_cases hz : z < 0
      · have hhi' : Hid (∀ k, hm ≤ k → k < m → ltL (gd l m) (gd l k)) := fun k h1 h2 => by
          have hl := HC.out.1 hz
          by_cases e : j ≤ k
          · exact hhi.out k e h2
          · by_cases e2 : k = hm
            · rw [e2]; exact hl
            · exact ltL_weak.lt_le hl (S1.out hm k (by omega) (by omega) h2)
        go_wp2_with fail
        refine wp_region_more (by kernel_rfl) (by kernel_rfl) ?_
        repeat (go_big_quiet_step ((go_at_fn G; exact hq1 _)))
        refine wpQuiet_nil ?_
        rintro w4 ⟨qw4, hww4⟩
        have hbw4 := below_of_eq hww4
        clear hww4 qw4
        have hL4 := hide (hL.out.below hbw4)
        clear c0 c1 c2 c3 d0 d1 d2 d3 hq1
        go_wp2
        go_roundw
        case rel => exact ⟨i, hm, hai, by omega, by omega, rfl, rfl, hL4, hlo, hhi'⟩
        case measure => simp [intOf] <;> omega
      · have hz' : (!decide (z < 0)) = true := by rw [decide_eq_false hz]; rfl
        have hlo' : Hid (hm + 1 = a ∨ ¬ ltL (gd l m) (gd l (hm + 1 - 1))) := .inr fun h => hz (HC.out.2 (by rwa [Nat.add_sub_cancel] at h))
        go_wp2_with fail
        refine wp_region_more (by kernel_rfl) (by kernel_rfl) ?_
        repeat (go_big_quiet_step ((go_at_fn G; exact hq1 _)))
        refine wpQuiet_nil ?_
        rintro w4 ⟨qw4, hww4⟩
        have hbw4 := below_of_eq hww4
        clear hww4 qw4
        have hL4 := hide (hL.out.below hbw4)
        clear c0 c1 c2 c3 d0 d1 d2 d3 hq1
        go_wp2
        go_roundw
        case rel => exact ⟨hm + 1, j, by omega, by omega, by omega, by go_num, rfl, hL4, hlo', hhi⟩
        case measure => simp [intOf] <;> omega
    · obtain rfl : i = j := by omega
      have hfin := hide (srt_ins ltL_weak HT.out l (a := a) (j := i) (i := m) hai (by omega) (by rw [HN.out]; omega) S1.out hhi.out hlo.out)
      rw [hbe.out] at hfin
      have hL0 : Hid (LkAt w0 g c wr (byI l (rotI m m b))) := by unfold Hid; rw [rot_none _ (by omega)]; exact hL.out
      obtain ⟨wx, rfl⟩ : ∃ wx : World, wx = wr := ⟨_, rfl⟩
      go_wp2_with fail
      clear hL hlo hhi
      go_loopw [17] (fun s wr => ∃ k : Nat, i ≤ k ∧ k ≤ m ∧ s = .int .i64 k ∧ Hid (LkAt w0 g c wr (byI l (rotI k m b)))) (fun s _ => (intOf s).toNat)
      case atStart => exact ⟨m, by omega, Nat.le_refl _, rfl, hL0⟩
      case round =>
        clear hL0
        obtain ⟨k, hak, hki, rfl, hL⟩ := hrel
        by_cases hlt : i < k
        · obtain ⟨k, rfl⟩ : ∃ k', k = k' + 1 := ⟨k - 1, by omega⟩
          have hnx := hide (down_next (l := l) (j := k) (i := m) (by omega) (by rw [HN.out]; omega))
          rw [hbe.out] at hnx
          have hcl : Hid ((byI l (rotI (k + 1) m b)).length = N) := by unfold Hid; rw [byI_len]; exact HN.out
          obtain ⟨x, y, m1, f, hx, c0, c1, c2, c3, hx64⟩ := hL.out.get (i := k + 1) (by rw [hcl.out]; omega)
          obtain ⟨x', y', m', f', hx', d0, d1, d2, d3, hx64'⟩ := hL.out.get (i := k) (by rw [hcl.out]; omega)
          have hsw := hide (hL.out.swap (i := k + 1) (j := k) (by rw [hcl.out]; omega) (by rw [hcl.out]; omega) hx.out hx'.out)
          rw [hnx.out] at hsw
          have n00 : (k + 1) * 4 ≠ k * 4 := by omega
          have n01 : (k + 1) * 4 ≠ k * 4 + 1 := by omega
          have n02 : (k + 1) * 4 ≠ k * 4 + 2 := by omega
          have n03 : (k + 1) * 4 ≠ k * 4 + 3 := by omega
          have n10 : (k + 1) * 4 + 1 ≠ k * 4 := by omega
          have n11 : (k + 1) * 4 + 1 ≠ k * 4 + 1 := by omega
          have n12 : (k + 1) * 4 + 1 ≠ k * 4 + 2 := by omega
          have n13 : (k + 1) * 4 + 1 ≠ k * 4 + 3 := by omega
          have n20 : (k + 1) * 4 + 2 ≠ k * 4 := by omega
          have n21 : (k + 1) * 4 + 2 ≠ k * 4 + 1 := by omega
          have n22 : (k + 1) * 4 + 2 ≠ k * 4 + 2 := by omega
          have n23 : (k + 1) * 4 + 2 ≠ k * 4 + 3 := by omega
          have n30 : (k + 1) * 4 + 3 ≠ k * 4 := by omega
          have n31 : (k + 1) * 4 + 3 ≠ k * 4 + 1 := by omega
          have n32 : (k + 1) * 4 + 3 ≠ k * 4 + 2 := by omega
          have n33 : (k + 1) * 4 + 3 ≠ k * 4 + 3 := by omega
          have pf0 := hL.out.free ((k + 1) * 4)
          have pf1 := hL.out.free ((k + 1) * 4 + 1)
          have pf2 := hL.out.free ((k + 1) * 4 + 2)
          have pf3 := hL.out.free ((k + 1) * 4 + 3)
          have qf0 := hL.out.free (k * 4)
          have qf1 := hL.out.free (k * 4 + 1)
          have qf2 := hL.out.free (k * 4 + 2)
          have qf3 := hL.out.free (k * 4 + 3)
          have hik : (i : Int) < (k : Int) + 1 := by omega
          have b1 : (0 : Int) ≤ (k : Int) := by omega
          have b2 : (k : Int) < (N : Int) := by omega
          have b3 : (k : Int) + 1 < (N : Int) := by omega
          have e1 : ((k + 1 : Nat) : Int) - 1 = (k : Int) := by omega
          have e2 : IntKind.i64.wrap (k : Int) = (k : Int) := IntWalk.i64_in _ (by omega)
          have e3 : wrap64 (k : Int) = (k : Int) := IntWalk.wrap64_in _ (by omega)
          have e4 : ((k + 1 : Nat) : Int).toNat = k + 1 := by omega
          have b5 : (0 : Int) ≤ ((k + 1 : Nat) : Int) := by omega
          have b6 : ((k + 1 : Nat) : Int) < (N : Int) := by omega
          go_wp2_with fail
          go_region_with (fail)
          all_goals
            go_wp2
            go_roundw
            case rel => exact ⟨k, by omega, by omega, by go_num, hsw.out.drew⟩
            case measure => simp [intOf] <;> omega
        · obtain rfl : i = k := by omega
          go_wp2
          refine bodyPost_ret (results_none rfl _ _ _) rfl ?_
          exact ⟨rfl, _, hL.out, hfin.out.1, hfin.out.2⟩
set_option maxRecDepth 100000 in
set_option maxHeartbeats 4000000 in
theorem symMerge3_any (T : Lk → Lk → Prop) (hT : ∀ a b, ltL a b → T a b) (G : FuncId) (hG : CmpFn G) (g c : Nat) (w0 : World) (a m b : Nat) (l : List Lk) (w : World) (h : LkAt w0 g c w l) (ham : a < m) (hmb : m < b) (hb : b ≤ l.length) (hn : l.length ≤ 1000) (hs1 : SegS ltL (gd l) a m) (hs2 : SegS ltL (gd l) m b) (hc1 : ¬ m - a = 1) (hc2 : ¬ b - m = 1) (ih : ∀ (a' m' b' : Nat) (l : List Lk) (w : World), b' - a' < b - a → LkAt w0 g c w l → a' < m' → m' < b' → b' ≤ l.length → l.length ≤ 1000 → SegS ltL (gd l) a' m' → SegS ltL (gd l) m' b' →
    Calls Tryz.prog 116 #[.slice (some ⟨g, 0, none⟩) l.length c, .int .i64 a', .int .i64 m', .int .i64 b', .func (.func G) #[] #[]] w (SrtPost T w0 g c l a' b')) :
    Calls Tryz.prog 116 #[.slice (some ⟨g, 0, none⟩) l.length c, .int .i64 a, .int .i64 m, .int .i64 b, .func (.func G) #[] #[]] w (SrtPost T w0 g c l a b) := by
  have IH := hide ih
  clear ih
  have H := hide h
  have HT := hide hT
  have HG := hide hG
  have S1 := hide hs1
  have S2 := hide hs2
  have eg := hG.eg
  clear h hT hG hs1 hs2
  generalize hN : l.length = N at *
  have HN := hide hN
  clear hN
  go_enter Tryz.func116, Tryz.ntmps116
  have t1 : ((m : Int) - (a : Int) == 1) = false := by rw [beq_eq_false_iff_ne]; omega
  have t2 : ((b : Int) - (m : Int) == 1) = false := by rw [beq_eq_false_iff_ne]; omega
  have hid := hide True.intro
  obtain ⟨mid, hh⟩ : ∃ mid : Nat, mid = (a + b) / 2 := ⟨_, rfl⟩
  have eh : ((a : Int) + (b : Int)) / 2 = (mid : Int) := by omega
  have hmid : a + b ≤ 2 * mid + 1 ∧ 2 * mid ≤ a + b := by omega
  have hmid2 : a < mid ∧ mid < b := by omega
  clear hh hc1 hc2
  obtain ⟨s0, r0, hsr⟩ : ∃ s0 r0 : Nat, (mid < m ∧ s0 + b = mid + m ∧ r0 = mid) ∨ (m ≤ mid ∧ s0 = a ∧ r0 = m) := by
    by_cases h : mid < m
    · exact ⟨mid + m - b, mid, .inl ⟨h, by omega, rfl⟩⟩
    · exact ⟨a, m, .inr ⟨by omega, rfl, rfl⟩⟩
  have hs0 : a ≤ s0 ∧ s0 ≤ r0 ∧ r0 ≤ m ∧ r0 ≤ mid ∧ mid + m ≤ s0 + b := by omega
  have Hsr := hide hsr
  clear hsr
  go_upto_if 140 with fail
  go_cut [20, 21] from 25 (fun s t wx => s = .int .i64 s0 ∧ t = .int .i64 r0 ∧ wx = w)
  case first =>
    rcases Hsr.out with ⟨h1, h2, h3⟩ | ⟨h1, h2, h3⟩
    · have e2 : (mid : Int) + (m : Int) - (b : Int) = (s0 : Int) := by omega
      have e3 := hide h3
      clear h2 h3
      go_wp2
      go_meet
      case rel => exact ⟨rfl, by rw [e3.out], rfl⟩
    · have h4 : ¬ mid < m := by omega
      have e2 := hide h2
      have e3 := hide h3
      clear h2 h3
      go_wp2
      go_meet
      case rel => exact ⟨by rw [e2.out], by rw [e3.out], rfl⟩
  case rest =>
    obtain ⟨rfl, rfl, rfl⟩ := hcut
    obtain ⟨nn, hnn⟩ : ∃ nn : Nat, nn + 1 = mid + m := ⟨mid + m - 1, by omega⟩
    have e4 : (mid : Int) + (m : Int) - 1 = (nn : Int) := by omega
    go_wp2_with fail
    go_loopw [20, 21, 23] (fun s t _ wr => ∃ i j : Nat, s0 ≤ i ∧ i ≤ j ∧ j ≤ r0 ∧ s = .int .i64 i ∧ t = .int .i64 j ∧ Hid (LkAt w0 g c wr l) ∧ Hid (i = s0 ∨ ¬ ltL (gd l (nn - (i - 1))) (gd l (i - 1))) ∧ Hid (j = r0 ∨ ltL (gd l (nn - j)) (gd l j))) (fun s t _ _ => (intOf t).toNat - (intOf s).toNat)
    case atStart => exact ⟨s0, r0, Nat.le_refl _, by omega, Nat.le_refl _, rfl, rfl, H, .inl rfl, .inl rfl⟩
    case round =>
      clear H
      obtain ⟨i, j, hai, hij, hjm, rfl, rfl, hL, hlo, hhi⟩ := hrel
      by_cases hlt : i < j
      · obtain ⟨hm, hh⟩ : ∃ hm : Nat, hm = (i + j) / 2 := ⟨_, rfl⟩
        have eh2 : ((i : Int) + (j : Int)) / 2 = (hm : Int) := by omega
        have hb1 : i ≤ hm ∧ hm < j := by omega
        clear hh
        have e5 : (nn : Int) - (hm : Int) = ((nn - hm : Nat) : Int) := by omega
        have hpl : nn - hm < N := by omega
        have Hp : Hid (nn - hm = nn - hm) := rfl
        obtain ⟨pq, hpq⟩ : ∃ pq, pq = nn - hm := ⟨_, rfl⟩
        rw [← hpq] at e5 hpl
        have i1 : (0 : Int) ≤ (hm : Int) := by omega
        have i2 : (hm : Int) < (N : Int) := by omega
        have i3 : (pq : Int) < (N : Int) := by omega
        have HPQ := hide hpq
        clear hpq Hp
        obtain ⟨x, y, m1, f, hx, c0, c1, c2, c3, hx64⟩ := hL.out.get (i := pq) (by rw [HN.out]; omega)
        obtain ⟨x', y', m', f', hx', d0, d1, d2, d3, hx64'⟩ := hL.out.get (i := hm) (by rw [HN.out]; omega)
        have hq1 : ∀ q, Calls Tryz.prog G (#[.agg #[.int .i64 x, .int .i64 y, .int .i64 m1, .int .i64 f], .agg #[.int .i64 x', .int .i64 y', .int .i64 m', .int .i64 f']] ++ #[]) (More wr q) fun e w'' => e = .returned (.int .i64 (cmpK (x, y, m1, f) (x', y', m', f'))) ∧ ∃ q', w'' = More wr q' := fun q => more_of (HG.out.run (x, y, m1, f) (x', y', m', f') (More wr q) hx64.out hx64'.out)
        have hC := cmpK_lt (x, y, m1, f) (x', y', m', f')
        rw [← hx.out, ← hx'.out] at hC
        rw [hx.out, hx'.out] at hC
        have HC : Hid (cmpK (x, y, m1, f) (x', y', m', f') < 0 ↔ ltL (gd l (pq)) (gd l (hm))) := by unfold Hid; rw [hx.out, hx'.out]; exact hC
        clear hC
        generalize cmpK (x, y, m1, f) (x', y', m', f') = z at *
        by_cases hz : z < 0
        · as_aux_lemma =>
          have hhi' : Hid (hm = r0 ∨ ltL (gd l (nn - hm)) (gd l hm)) := .inr (by rw [← HPQ.out]; exact HC.out.1 hz)
          go_wp2_with fail
          refine wp_region_more (by kernel_rfl) (by kernel_rfl) ?_
          repeat (go_big_quiet_step ((go_at_fn G; exact hq1 _)))
          refine wpQuiet_nil ?_
          rintro w4 ⟨qw4, hww4⟩
          have hbw4 := below_of_eq hww4
          clear hww4 qw4
          have hL4 := hide (hL.out.below hbw4)
          clear c0 c1 c2 c3 d0 d1 d2 d3 hq1
          go_wp2
          go_roundw
          case rel => exact ⟨i, hm, hai, by omega, by omega, rfl, rfl, hL4, hlo, hhi'⟩
          case measure => simp [intOf] <;> omega
        · as_aux_lemma =>
          have hz' : (!decide (z < 0)) = true := by rw [decide_eq_false hz]; rfl
          have hlo' : Hid (hm + 1 = s0 ∨ ¬ ltL (gd l (nn - (hm + 1 - 1))) (gd l (hm + 1 - 1))) := .inr fun h => hz (HC.out.2 (by rwa [Nat.add_sub_cancel, ← HPQ.out] at h))
          go_wp2_with fail
          refine wp_region_more (by kernel_rfl) (by kernel_rfl) ?_
          repeat (go_big_quiet_step ((go_at_fn G; exact hq1 _)))
          refine wpQuiet_nil ?_
          rintro w4 ⟨qw4, hww4⟩
          have hbw4 := below_of_eq hww4
          clear hww4 qw4
          have hL4 := hide (hL.out.below hbw4)
          clear c0 c1 c2 c3 d0 d1 d2 d3 hq1
          go_wp2
          go_roundw
          case rel => exact ⟨hm + 1, j, by omega, by omega, by omega, by go_num, rfl, hL4, hlo', hhi⟩
          case measure => simp [intOf] <;> omega
      · obtain rfl : i = j := by omega
        obtain ⟨en, hen⟩ : ∃ en : Nat, en + i = mid + m := ⟨mid + m - i, by omega⟩
        have e6 : (mid : Int) + (m : Int) - (i : Int) = (en : Int) := by omega
        have hcut0 : SymCut ltL (gd l) a m b i en := by
          refine ⟨by omega, by omega, by omega, by omega, fun h1 h2 => ?_, fun h1 h2 => ?_⟩
          · rcases hhi.out with h | h
            · rcases Hsr.out with ⟨k1, k2, k3⟩ | ⟨k1, k2, k3⟩ <;> omega
            · rwa [show nn - i = en - 1 by omega] at h
          · rcases hlo.out with h | h
            · rcases Hsr.out with ⟨k1, k2, k3⟩ | ⟨k1, k2, k3⟩ <;> omega
            · rwa [show nn - (i - 1) = en by omega] at h
        have hrange : i ≤ m ∧ m ≤ en ∧ en ≤ b ∧ a ≤ i ∧ i ≤ mid ∧ mid ≤ en := by omega
        have hk : Hid (mid = i + (en - m)) := by show mid = i + (en - m); omega
        have hseg := hcut0.segs S1.out S2.out hk.out
        rw [← gd_rot l (show i ≤ m by omega) (show m ≤ en by omega) (by rw [HN.out]; omega)] at hseg
        obtain ⟨q1, q2, q3, q4⟩ := hseg
        have Q1 := hide q1
        have Q2 := hide q2
        have Q3 := hide q3
        have Q4 := hide q4
        have HCUT := hide hcut0
        clear hcut0 hlo hhi q1 q2 q3 q4
        have hrl : Hid ((byI l (rotI i m en)).length = N) := by unfold Hid; rw [byI_len]; exact HN.out
        clear hnn e4
        go_upto_region 39 with fail
        go_cut [185] from 25 (fun s wy => s = .bool (decide (i < m ∧ m < en)) ∧ Hid (LkAt w0 g c wy l))
        case first => 
          by_cases h1 : i < m
          · by_cases h2 : m < en
            · have hd : Hid (decide (i < m ∧ m < en) = true) := decide_eq_true ⟨h1, h2⟩
              go_wp2
              go_meet
              case rel => exact ⟨by rw [hd.out], hL⟩
            · have hd : Hid (decide (i < m ∧ m < en) = false) := decide_eq_false fun h => h2 h.2
              go_wp2
              go_meet
              case rel => exact ⟨by rw [hd.out], hL⟩
          · have hd : Hid (decide (i < m ∧ m < en) = false) := decide_eq_false fun h => h1 h.1
            go_wp2
            go_meet
            case rel => exact ⟨by rw [hd.out], hL⟩
        case rest =>
        clear hL
        obtain ⟨rfl, hL⟩ := hcut
        go_upto_if 185 with fail
        go_cut [20] from 25 (fun s wy => s = .int .i64 i ∧ Hid (LkAt w0 g c wy (byI l (rotI i m en))))
        case first => 
          by_cases h1 : i < m ∧ m < en
          · as_aux_lemma =>
            have hcall := rotate_any G g c i m en l w0 wc hL.out h1.1 h1.2 (by rw [HN.out]; omega) (by rw [HN.out]; exact hn)
            rw [HN.out] at hcall
            rw [decide_eq_true h1]
            clear h1
            go_wp2_with fail
            refine hcall.mono ?_
            rintro e w' ⟨rfl, hL'⟩
            have HL' := hide hL'
            clear hL' hcall
            go_wp2
            go_meet
            case rel => exact ⟨rfl, HL'⟩
          · as_aux_lemma =>
            have hL' : Hid (LkAt w0 g c wc (byI l (rotI i m en))) := by
              unfold Hid
              by_cases h2 : i < m
              · obtain rfl : m = en := by omega
                rw [rot_none2 _ (by omega)]; exact hL.out
              · obtain rfl : i = m := by omega
                rw [rot_none _ (by omega)]; exact hL.out
            rw [decide_eq_false h1]
            clear h1
            go_wp2
            go_meet
            case rel => exact ⟨rfl, hL'⟩
        case rest =>
        clear hL
        obtain ⟨rfl, hL1⟩ := hcut
        generalize hl1 : byI l (rotI i m en) = l1 at *
        have HL1 := hide hl1
        clear hl1
        go_upto_region 41 with fail
        go_cut [199] from 25 (fun s wy => s = .bool (decide (a < i ∧ i < mid)) ∧ Hid (LkAt w0 g c wy l1))
        case first => 
          by_cases h1 : a < i
          · by_cases h2 : i < mid
            · have hd : Hid (decide (a < i ∧ i < mid) = true) := decide_eq_true ⟨h1, h2⟩
              go_wp2
              go_meet
              case rel => exact ⟨by rw [hd.out], hL1⟩
            · have hd : Hid (decide (a < i ∧ i < mid) = false) := decide_eq_false fun h => h2 h.2
              go_wp2
              go_meet
              case rel => exact ⟨by rw [hd.out], hL1⟩
          · have hd : Hid (decide (a < i ∧ i < mid) = false) := decide_eq_false fun h => h1 h.1
            go_wp2
            go_meet
            case rel => exact ⟨by rw [hd.out], hL1⟩
        case rest =>
        clear hL1
        obtain ⟨rfl, hL1⟩ := hcut
        go_upto_if 199 with fail
        go_cut [20] from 25 (fun s wy => s = .int .i64 i ∧ ∃ l2, Hid (LkAt w0 g c wy l2) ∧ Hid (Srt ltL T l1 l2 a mid) ∧ Hid (SegS ltL (gd l2) a mid))
        case first => 
          by_cases h1 : a < i ∧ i < mid
          · as_aux_lemma =>
            have hcall := IH.out a i mid l1 wc (by omega) hL1.out h1.1 h1.2 (by rw [hrl.out]; omega) (by rw [hrl.out]; exact hn) Q1.out Q2.out
            rw [hrl.out] at hcall
            rw [decide_eq_true h1]
            clear h1
            go_wp2_with fail
            refine hcall.mono ?_
            rintro e w' ⟨rfl, l2, hL', hS', hG'⟩
            have HL' := hide hL'
            have HS' := hide hS'
            have HG' := hide hG'
            clear hL' hS' hG' hcall
            go_wp2
            go_meet
            case rel => exact ⟨rfl, l2, HL', HS', HG'⟩
          · as_aux_lemma =>
            have hsg : Hid (SegS ltL (gd l1) a mid) := by
              by_cases h2 : a < i
              · obtain rfl : i = mid := by omega
                exact Q1.out
              · obtain rfl : a = i := by omega
                exact Q2.out
            rw [decide_eq_false h1]
            clear h1
            go_wp2
            go_meet
            case rel => exact ⟨rfl, l1, hL1, Srt.refl _ _ _, hsg⟩
        case rest =>
        clear hL1
        obtain ⟨rfl, l2, hL2, hS2, hG2⟩ := hcut
        have hlen2 : Hid (l2.length = N) := by unfold Hid; rw [hS2.out.len]; exact hrl.out
        have hend : ∀ l3, Srt ltL T l2 l3 mid b → SegS ltL (gd l3) mid b → Srt ltL T l l3 a b ∧ SegS ltL (gd l3) a b := fun l3 g3 s3 =>
          srt_sym ltL_weak HT.out (by rw [HN.out]; exact hb) S1.out S2.out HCUT.out hk.out (by omega) (by rw [HL1.out]; exact hS2.out) hG2.out g3 s3
        have Hend := hide hend
        clear hend
        by_cases h1 : mid < en
        · by_cases h2 : en < b
          · as_aux_lemma =>
            have hcall := IH.out mid en b l2 wc (by omega) hL2.out h1 h2 (by rw [hlen2.out]; omega) (by rw [hlen2.out]; exact hn) (seg_keep Q3.out hS2.out.mrg (.inr (Nat.le_refl _))) (seg_keep Q4.out hS2.out.mrg (.inr (by omega)))
            rw [hlen2.out] at hcall
            go_wp2_with fail
            refine hcall.mono ?_
            rintro e w' ⟨rfl, l3, hL', hS', hG'⟩
            have HL' := hide hL'
            have hfin := hide (Hend.out l3 hS' hG')
            clear hL' hS' hG' hcall
            go_wp2
            refine bodyPost_end (results_none rfl _ _ _) rfl ?_
            exact ⟨rfl, l3, HL'.out, hfin.out.1, hfin.out.2⟩
          · as_aux_lemma =>
            have hsg : Hid (SegS ltL (gd l2) mid b) := by
              obtain rfl : en = b := by omega
              exact seg_keep Q3.out hS2.out.mrg (.inr (Nat.le_refl _))
            have hfin := hide (Hend.out l2 (Srt.refl _ _ _) hsg.out)
            go_wp2
            refine bodyPost_end (results_none rfl _ _ _) rfl ?_
            exact ⟨rfl, l2, hL2.out, hfin.out.1, hfin.out.2⟩
        · as_aux_lemma =>
          have hsg : Hid (SegS ltL (gd l2) mid b) := by
            obtain rfl : mid = en := by omega
            exact seg_keep Q4.out hS2.out.mrg (.inr (by omega))
          have hfin := hide (Hend.out l2 (Srt.refl _ _ _) hsg.out)
          go_wp2
          refine bodyPost_end (results_none rfl _ _ _) rfl ?_
          exact ⟨rfl, l2, hL2.out, hfin.out.1, hfin.out.2⟩
theorem symMerge_any (T : Lk → Lk → Prop) (hT : ∀ a b, ltL a b → T a b) (G : FuncId) (hG : CmpFn G) (g c : Nat) (w0 : World) : ∀ (d a m b : Nat) (l : List Lk) (w : World), b - a ≤ d → LkAt w0 g c w l → a < m → m < b → b ≤ l.length → l.length ≤ 1000 → SegS ltL (gd l) a m → SegS ltL (gd l) m b →
    Calls Tryz.prog 116 #[.slice (some ⟨g, 0, none⟩) l.length c, .int .i64 a, .int .i64 m, .int .i64 b, .func (.func G) #[] #[]] w (SrtPost T w0 g c l a b) := by
  intro d
  induction d with
  | zero => intro a m b l w hd _ h1 h2; omega
  | succ d ih =>
    intro a m b l w hd h ham hmb hb hn hs1 hs2
    by_cases hc1 : m - a = 1
    · exact symMerge1_any T hT G hG g c w0 a m b l w h ham hmb hb hn hs1 hs2 hc1
    · by_cases hc2 : b - m = 1
      · exact symMerge2_any T hT G hG g c w0 a m b l w h ham hmb hb hn hs1 hs2 hc1 hc2
      · exact symMerge3_any T hT G hG g c w0 a m b l w h ham hmb hb hn hs1 hs2 hc1 hc2 fun a' m' b' l' w' hd' => ih a' m' b' l' w' (by omega)
end Go.Proofs.YtolbceckbnifmaaGreat

namespace Go.Proofs.YtolbceckbnifmaaGreat
open Go.RowKit Go.Proofs Go.Shelf
attribute [local go_sem] cell?_more cell?_alloc_some cell?_setCell_far frozen?_alloc_some frozen?_more
/-- The first that is not zero. -/
def orI (xs : List Int) : Int := match xs with | [] => 0 | v :: r => if v ≠ 0 then v else orI r
theorem or_any (A : Option Addr) (n c : Nat) (xs : List Int) (w : World) (h : RInts w A n c xs) :
    Calls Tryz.prog 47 #[.slice A n c] w fun e w' => e = .returned (.int .i64 (orI xs)) ∧ w = w' := by
  have hle := h.le
  go_enter Tryz.func47, Tryz.ntmps47
  go_wp2
  go_loopw [8] (fun s wr => ∃ k : Nat, k ≤ n ∧ s = .int .i64 k ∧ wr = w ∧ Hid (orI (xs.drop k) = orI xs)) (fun s _ => n - (intOf s).toNat)
  case atStart => exact ⟨0, Nat.zero_le _, rfl, rfl, by simp [Hid]⟩
  case round =>
    obtain ⟨k, hk, rfl, rfl, hO⟩ := hrel
    by_cases hlt : k < n
    · obtain ⟨b, off, v, rfl, hc, hd, _, _⟩ := h.step hlt
      by_cases hv : v = 0
      · subst hv
        have hO' : Hid (orI (xs.drop (k + 1)) = orI xs) := by
          unfold Hid
          rw [← hO.out, hd.out]; simp [orI]
        clear hd hO
        go_wp2
        go_roundw
        case rel => exact ⟨k + 1, by omega, by go_num, trivial, hO'⟩
        case measure => simp [intOf] <;> omega
      · have hO' : Hid (orI xs = v) := by
          unfold Hid
          rw [← hO.out, hd.out]; simp [orI, hv]
        have hvz : (v == 0) = false := by rw [beq_eq_false_iff_ne]; exact hv
        clear hd hO hv
        go_wp2
        go_ret
        exact ⟨ret_i hO'.out.symm, rfl⟩
    · have hO' : Hid (orI xs = 0) := by
        unfold Hid
        rw [← hO.out, h.done hlt]; rfl
      clear hO
      go_wp2
      go_ret
      exact ⟨ret_i hO'.out.symm, rfl⟩
theorem cmpK_or (x y : Lk) : orI [cmpI y.2.2.1 x.2.2.1, cmpI y.2.2.2 x.2.2.2] = cmpK x y := by
  have h : ∀ a b : Int, (a < b ∧ cmpI a b = -1) ∨ (a = b ∧ cmpI a b = 0) ∨ (b < a ∧ cmpI a b = 1) := fun a b => by
    unfold cmpI
    repeat' split
    all_goals omega
  unfold cmpK orI
  rcases h y.2.2.1 x.2.2.1 with ⟨h1, e1⟩ | ⟨h1, e1⟩ | ⟨h1, e1⟩
  · rw [e1, if_pos (by omega), if_pos h1]
  · rw [e1, if_neg (by omega), if_neg (by omega), if_neg (by omega)]
    unfold orI
    rcases h y.2.2.2 x.2.2.2 with ⟨h2, e2⟩ | ⟨h2, e2⟩ | ⟨h2, e2⟩
    · rw [e2, if_pos (by omega), if_pos h2]
    · rw [e2, if_neg (by omega), if_neg (by omega), if_neg (by omega)]; rfl
    · rw [e2, if_pos (by omega), if_neg (by omega), if_pos h2]
  · rw [e1, if_pos (by omega), if_neg (by omega), if_pos h1]
set_option maxRecDepth 100000 in
set_option maxHeartbeats 1000000 in
theorem cmp_fn : CmpFn 46 := by
  refine ⟨enters_of Tryz.func46 (by kernel_rfl) rfl, ?_⟩
  rintro ⟨x1, y1, m1, f1⟩ ⟨x2, y2, m2, f2⟩ w h1 h2
  show Calls Tryz.prog 46 #[.agg #[.int .i64 x1, .int .i64 y1, .int .i64 m1, .int .i64 f1], .agg #[.int .i64 x2, .int .i64 y2, .int .i64 m2, .int .i64 f2]] w _
  have hA := Has.new w 49 #[.int .i64 x1, .int .i64 y1, .int .i64 m1, .int .i64 f1]
  have hA1 := hA.alloc (.cells #[.int .i64 x2, .int .i64 y2, .int .i64 m2, .int .i64 f2] 49)
  have hB1 := Has.new2 w (.cells #[.int .i64 x1, .int .i64 y1, .int .i64 m1, .int .i64 f1] 49) 49 #[.int .i64 x2, .int .i64 y2, .int .i64 m2, .int .i64 f2]
  have hb1 : Below w.heap.size w ((w.alloc (.cells #[.int .i64 x1, .int .i64 y1, .int .i64 m1, .int .i64 f1] 49)).alloc (.cells #[.int .i64 x2, .int .i64 y2, .int .i64 m2, .int .i64 f2] 49)) := ((Below.refl _ _).alloc (Nat.le_refl _) _).alloc (by simp) _
  have hfin := hide (cmpK_or (x1, y1, m1, f1) (x2, y2, m2, f2))
  clear hA
  go_enter Tryz.func46, Tryz.ntmps46
  go_upto_region 1 with fail
  generalize World.alloc (World.alloc w _) _ = W1 at hA1 hB1 hb1 ⊢
  have a2 := hA1.cell 2
  have a3 := hA1.cell 3
  have b2 := hB1.cell 2
  have b3 := hB1.cell 3
  refine wp_region_more_tail 10 (by kernel_rfl) (by kernel_rfl) ?_
  simp only [List.take]
  repeat (go_big_quiet_step ((go_at_call 48; with_reducible exact more_same (compare_any _ _ _))))
  refine wpQuiet_nil ?_
  rintro w2 ⟨qq, hw2⟩
  have hb2 := below_of_eq hw2
  have hb12 := Below_trans' hb1 hb1.size hb2
  clear hw2 qq a2 a3 b2 b3
  have hz : ∀ a b : Int, I64 (cmpI a b) := fun a b => by
    unfold cmpI I64
    repeat' split
    all_goals omega
  have z1 := hz m2 m1
  have z2 := hz f2 f1
  simp only at hfin
  generalize cmpI m2 m1 = u at *
  generalize cmpI f2 f1 = v at *
  clear hz
  have hL : RInts (w2.alloc (.cells #[.int .i64 u, .int .i64 v] 3)) (some ⟨w2.heap.size, 0, none⟩) 2 2 [u, v] := ints_lit [u, v] (Has.new _ _ _) (by simp) (fun z hz => by
    rcases List.mem_cons.1 hz with e | e
    · rw [e]; exact z1
    · rw [List.mem_singleton.1 e]; exact z2)
  have hb3 : Below w2.heap.size w2 (w2.alloc (.cells #[.int .i64 u, .int .i64 v] 3)) := below_allocN
  have Hz := hide (And.intro z1 z2)
  clear z1 z2
  have hor := or_any (some ⟨w2.heap.size, 0, none⟩) 2 2 [u, v] _ hL
  go_wp2_with (go_at_call 47; refine hor.mono ?_; rintro e w' ⟨rfl, rfl⟩)
  go_ret
  exact ⟨ret_i hfin.out, Below_trans' hb12 hb12.size hb3⟩
/-- Blocks of bs are in order each. -/
def BlkS (d : Nat → Lk) (bs n : Nat) : Prop := ∀ p : Nat, SegS ltL d (bs * p) (min (bs * p + bs) n)
theorem mul_step {bs p q : Nat} (h : p < q) : bs * p + bs ≤ bs * q := by
  have := Nat.mul_le_mul_left bs (show p + 1 ≤ q from h)
  rwa [Nat.mul_succ] at this
set_option maxRecDepth 100000 in
set_option maxHeartbeats 4000000 in
theorem stable_any (T : Lk → Lk → Prop) (hT : ∀ a b, ltL a b → T a b) (G : FuncId) (hG : CmpFn G) (g c : Nat) (l : List Lk) (w0 w : World) (h : LkAt w0 g c w l) (hn : l.length ≤ 1000) :
    Calls Tryz.prog 80 #[.slice (some ⟨g, 0, none⟩) l.length c, .int .i64 l.length, .func (.func G) #[] #[]] w (SrtPost T w0 g c l 0 l.length) := by
  have H := hide h
  have HT := hide hT
  have HG := hide hG
  clear h hT hG
  generalize hN : l.length = N at *
  have HN := hide hN
  clear hN
  go_enter Tryz.func80, Tryz.ntmps80
  go_wp2_with fail
  go_loopw [7, 8] (fun s t wr => ∃ (q : Nat) (cur : List Lk), 20 * q ≤ N ∧ s = .int .i64 (20 * q : Nat) ∧ t = .int .i64 (20 * q + 20 : Nat) ∧ Hid (LkAt w0 g c wr cur) ∧ Hid (Srt ltL T l cur 0 N) ∧ Hid (∀ p, p < q → SegS ltL (gd cur) (20 * p) (20 * p + 20))) (fun s _ _ => N - (intOf s).toNat)
  case atStart => exact ⟨0, l, by omega, rfl, rfl, H, Srt.refl _ _ _, fun p hp => by omega⟩
  case round =>
    clear H
    obtain ⟨q, cur, hq, rfl, rfl, hL, hS, hB⟩ := hrel
    have hlc : Hid (cur.length = N) := by unfold Hid; rw [hS.out.len]; exact HN.out
    have hQ := hide (show 20 * (q + 1) = 20 * q + 20 by omega)
    obtain ⟨A, hA⟩ : ∃ A, A = 20 * q := ⟨_, rfl⟩
    have HA := hide hA
    rw [← hA] at hq ⊢
    clear hA
    by_cases hlt : A + 20 ≤ N
    · have hcall := insertionC_any T HT.out G HG.out g c A (A + 20) cur w0 wr hL.out (by omega) (by rw [hlc.out]; exact hlt) (by rw [hlc.out]; exact hn)
      rw [hlc.out] at hcall
      have ez : ((A : Int) + 20 ≤ (N : Int)) := by omega
      go_wp2_with fail
      refine hcall.mono ?_
      rintro e w' ⟨rfl, l', hL', hS', hG'⟩
      have HL' := hide hL'
      have HS' := hide (hS.out.trans (hS'.wide (Nat.zero_le _) hlt))
      have HB' : Hid (∀ p, p < q + 1 → SegS ltL (gd l') (20 * p) (20 * p + 20)) := fun p hp => by
        have e := HA.out
        by_cases hpq : p = q
        · rw [hpq, ← e]; exact hG'
        · exact seg_keep (hB.out p (by omega)) hS'.mrg (.inl (by omega))
      have HA' : Hid (A + 20 = 20 * (q + 1)) := by show A + 20 = 20 * (q + 1); rw [HA.out]; omega
      clear hL' hS' hG' hcall
      go_wp2
      go_roundw
      case rel => exact ⟨q + 1, l', by rw [← HA'.out]; exact hlt, by rw [← HA'.out]; go_num, by rw [← HA'.out]; go_num, HL', HS', HB'⟩
      case measure => simp [intOf] <;> omega
    · have hcall := insertionC_any T HT.out G HG.out g c A N cur w0 wr hL.out hq (by rw [hlc.out]; exact Nat.le_refl _) (by rw [hlc.out]; exact hn)
      rw [hlc.out] at hcall
      have ez : ¬ ((A : Int) + 20 ≤ (N : Int)) := by omega
      go_wp2_with fail
      refine hcall.mono ?_
      rintro e w' ⟨rfl, l', hL', hS', hG'⟩
      have HL' := hide hL'
      have HS' := hide (hS.out.trans (hS'.wide (Nat.zero_le _) (Nat.le_refl _)))
      have HB' : Hid (BlkS (gd l') 20 N) := fun p => by
        have e := HA.out
        by_cases h1 : p < q
        · rw [show min (20 * p + 20) N = 20 * p + 20 by omega]
          exact seg_keep (hB.out p h1) hS'.mrg (.inl (by omega))
        · by_cases h2 : p = q
          · rw [h2, ← e, show min (A + 20) N = N by omega]; exact hG'
          · exact seg_one _ (by omega)
      clear hL' hS' hG' hcall hB hS HA hQ hlc hL
      clear hq hlt ez
      obtain ⟨wx, rfl⟩ : ∃ wx : World, wx = wr := ⟨_, rfl⟩
      go_wp2_with fail
      go_loopw [6, 7, 8, 9] (fun s _ _ _ wr => ∃ (bs : Nat) (cur : List Lk), 1 ≤ bs ∧ bs ≤ 2 * N + 40 ∧ s = .int .i64 bs ∧ Hid (LkAt w0 g c wr cur) ∧ Hid (Srt ltL T l cur 0 N) ∧ Hid (BlkS (gd cur) bs N)) (fun s _ _ _ _ => N - (intOf s).toNat)
      case atStart => exact ⟨20, l', by omega, by omega, rfl, HL', HS', HB'⟩
      case round =>
        clear HL' HS' HB'
        obtain ⟨bs, cur, hb1, hb2, rfl, hL, hS, hB⟩ := hrel
        by_cases hlt : bs < N
        · obtain ⟨B2, hB2⟩ : ∃ B2, B2 = 2 * bs := ⟨_, rfl⟩
          have eB : (2 : Int) * (bs : Int) = (B2 : Int) := by omega
          have eB' : (bs : Int) * 2 = (B2 : Int) := by omega
          have HB2 := hide hB2
          have hbb : bs < B2 ∧ B2 ≤ 2 * N ∧ bs + bs ≤ B2 := by omega
          clear hB2
          have hc0 : Hid (∀ p, 0 ≤ bs * p → SegS ltL (gd cur) (bs * p) (min (bs * p + bs) N)) := fun p _ => hB.out p
          clear hB
          obtain ⟨wy, rfl⟩ : ∃ wy : World, wy = wr := ⟨_, rfl⟩
          go_wp2_with fail
          go_loopw [7, 8] (fun s t wr => ∃ (q A : Nat) (cur : List Lk), A ≤ N ∧ s = .int .i64 A ∧ t = .int .i64 (A + B2 : Nat) ∧ Hid (A = B2 * q) ∧ Hid (LkAt w0 g c wr cur) ∧ Hid (Srt ltL T l cur 0 N) ∧ Hid (∀ p, p < q → SegS ltL (gd cur) (B2 * p) (B2 * p + B2)) ∧ Hid (∀ p, A ≤ bs * p → SegS ltL (gd cur) (bs * p) (min (bs * p + bs) N))) (fun s _ _ => N - (intOf s).toNat)
          case atStart => exact ⟨0, 0, cur, Nat.zero_le _, rfl, by go_num, by show 0 = B2 * 0; rw [Nat.mul_zero], hL, hS, fun p hp => by omega, hc0⟩
          case round =>
            clear hL hS hc0
            obtain ⟨q, A, cur, hq, rfl, rfl, hA, hL, hS, hB, hC⟩ := hrel
            have hlc : Hid (cur.length = N) := by unfold Hid; rw [hS.out.len]; exact HN.out
            have hA2 : Hid (A = bs * (2 * q)) := by
              unfold Hid
              rw [hA.out, HB2.out, Nat.mul_assoc, Nat.mul_left_comm]
            have s1 : Hid (SegS ltL (gd cur) A (min (A + bs) N)) := by
              have := hC.out (2 * q) (by rw [← hA2.out]; exact Nat.le_refl _)
              rwa [← hA2.out] at this
            have s2 : Hid (SegS ltL (gd cur) (A + bs) (min (A + bs + bs) N)) := by
              have e : bs * (2 * q + 1) = A + bs := by rw [Nat.mul_succ, ← hA2.out]
              have := hC.out (2 * q + 1) (by rw [e]; omega)
              rwa [e] at this
            have hBB : Hid (B2 = bs + bs) := by show B2 = bs + bs; rw [HB2.out]; omega
            by_cases hlt2 : A + B2 ≤ N
            · have hcall := symMerge_any T HT.out G HG.out g c w0 N A (A + bs) (A + B2) cur wr (by omega) hL.out (by omega) (by omega) (by rw [hlc.out]; exact hlt2) (by rw [hlc.out]; exact hn)
                (by have := s1.out; rwa [show min (A + bs) N = A + bs by omega] at this) (by have := s2.out; rw [show min (A + bs + bs) N = A + bs + bs by omega] at this; rw [hBB.out, ← Nat.add_assoc]; exact this)
              rw [hlc.out] at hcall
              have ez : ((A : Int) + (B2 : Int) ≤ (N : Int)) := by omega
              go_wp2_with fail
              refine hcall.mono ?_
              rintro e w' ⟨rfl, l', hL', hS', hG'⟩
              have HL' := hide hL'
              have HS' := hide (hS.out.trans (hS'.wide (Nat.zero_le _) hlt2))
              have HB' : Hid (∀ p, p < q + 1 → SegS ltL (gd l') (B2 * p) (B2 * p + B2)) := fun p hp => by
                by_cases hpq : p = q
                · rw [hpq, ← hA.out]; exact hG'
                · exact seg_keep (hB.out p (by omega)) hS'.mrg (.inl (by rw [hA.out]; exact mul_step (by omega)))
              have HC' : Hid (∀ p, A + B2 ≤ bs * p → SegS ltL (gd l') (bs * p) (min (bs * p + bs) N)) := fun p hp => seg_keep (hC.out p (by omega)) hS'.mrg (.inr hp)
              have HA' : Hid (A + B2 = B2 * (q + 1)) := by unfold Hid; rw [Nat.mul_succ, ← hA.out]
              clear hL' hS' hG' hcall s1 s2 hB hC hS hL
              go_wp2
              go_roundw
              case rel => exact ⟨q + 1, A + B2, l', hlt2, by go_num, by go_num, HA', HL', HS', HB', HC'⟩
              case measure => simp [intOf] <;> omega
            · have ez : ¬ ((A : Int) + (B2 : Int) ≤ (N : Int)) := by omega
              have hrest : ∀ l', Srt ltL T cur l' A N → SegS ltL (gd l') A N → BlkS (gd l') B2 N := fun l' hS' hG' p => by
                by_cases h1 : p < q
                · have h2 := mul_step (bs := B2) h1
                  have e := hA.out
                  rw [show min (B2 * p + B2) N = B2 * p + B2 by omega]
                  exact seg_keep (hB.out p h1) hS'.mrg (.inl (by omega))
                · by_cases h2 : p = q
                  · rw [h2, ← hA.out, show min (A + B2) N = N by omega]; exact hG'
                  · have h3 := mul_step (bs := B2) (show q < p by omega)
                    have e := hA.out
                    exact seg_one _ (by omega)
              have Hrest := hide hrest
              clear hrest
              by_cases hm : A + bs < N
              · have hcall := symMerge_any T HT.out G HG.out g c w0 N A (A + bs) N cur wr (by omega) hL.out (by omega) hm (by rw [hlc.out]; exact Nat.le_refl _) (by rw [hlc.out]; exact hn)
                  (by have := s1.out; rwa [show min (A + bs) N = A + bs by omega] at this) (by have := s2.out; rwa [show min (A + bs + bs) N = N by have := hBB.out; omega] at this)
                rw [hlc.out] at hcall
                have em : ((A : Int) + (bs : Int) < (N : Int)) := by omega
                go_wp2_with fail
                refine hcall.mono ?_
                rintro e w' ⟨rfl, l', hL', hS', hG'⟩
                have HL' := hide hL'
                have HS' := hide (hS.out.trans (hS'.wide (Nat.zero_le _) (Nat.le_refl _)))
                have HB' := hide (Hrest.out l' hS' hG')
                clear hL' hS' hG' hcall s1 s2 hB hC hS hL
                go_wp2
                go_roundw
                case rel => exact ⟨B2, l', by omega, by omega, by go_num, HL', HS', HB'⟩
                case measure => simp [intOf] <;> omega
              · have em : ¬ ((A : Int) + (bs : Int) < (N : Int)) := by omega
                have HB' := hide (Hrest.out cur (Srt.refl _ _ _) (by have := s1.out; rwa [show min (A + bs) N = N by omega] at this))
                clear s1 s2 hB hC
                go_wp2
                go_roundw
                case rel => exact ⟨B2, cur, by omega, by omega, by go_num, hL, hS, HB'⟩
                case measure => simp [intOf] <;> omega
        · have hfin : Hid (SegS ltL (gd cur) 0 N) := by
            have := hB.out 0
            rwa [Nat.mul_zero, show min (0 + bs) N = N by omega] at this
          go_wp2
          refine bodyPost_end (results_none rfl _ _ _) rfl ?_
          exact ⟨rfl, cur, hL.out, hS.out, hfin.out⟩
end Go.Proofs.YtolbceckbnifmaaGreat
