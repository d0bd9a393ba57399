/-
  The closures of Keep; the library's IndexFunc and DeleteFunc at them.
  The library's DeleteFunc at Keep's closure, on a slice that the call owns.
  The program's Keep, of a ballot.
-/
import Derived.Test.YtolbceckbnifmaaGreatW9f
import Derived.Lib.SliceRun
import Derived.Shelf.Abstract
import Derived.Deep.RegionHeld3
namespace Go.Proofs.YtolbceckbnifmaaGreat
open Go.RowKit Go.Proofs Go.Shelf
attribute [local go_sem] cell?_more cell?_alloc_some cell?_setCell_far frozen?_alloc_some frozen?_more

/-- The slice value (A, n, c) reads as the truth values bs in the world w. -/
def RBools (w : World) (A : Option Addr) (n c : Nat) (bs : List Bool) : Prop :=
  bs.length = n ∧ n ≤ c ∧ c ≤ 9223372036854775807 ∧ (0 < n → ∃ b off, A = some ⟨b, off, none⟩ ∧ ∀ i, i < n → w.cell? ⟨b, off + i, none⟩ = some (.bool (bs.getD i false)))

theorem RBools.below {w w' : World} {A : Option Addr} {n c : Nat} {bs : List Bool} (h : RBools w A n c bs) (hb : Below w.heap.size w w') : RBools w' A n c bs :=
  ⟨h.1, h.2.1, h.2.2.1, fun hn => let ⟨b, off, e, hc⟩ := h.2.2.2 hn; ⟨b, off, e, fun i hi => keep_cell hb (hc i hi)⟩⟩
theorem RBools.frame {S : Nat → Prop} {w w' : World} {A : Option Addr} {n c : Nat} {bs : List Bool} (h : RBools w A n c bs) (k : Frame' S w w') (hA : 0 < n → ∃ b off, A = some ⟨b, off, none⟩ ∧ ¬ S b) : RBools w' A n c bs := by
  refine ⟨h.1, h.2.1, h.2.2.1, fun hn => ?_⟩
  obtain ⟨b, off, e, hc⟩ := h.2.2.2 hn
  obtain ⟨b', off', e', hS⟩ := hA hn
  have : b' = b := by rw [e] at e'; cases e'; rfl
  subst this
  refine ⟨b', off, e, fun i hi => ?_⟩
  rw [World.cell?_of_block (w := w) (k.block b' (World.block_lt_of_cell? w _ (hc i hi)) hS)]
  exact hc i hi

/-- Is x left? -/
def isS (bs : List Bool) (x : Int) : Bool := inR 0 bs.length x && bs.getD x.toNat false

/-- The place of the first that is p, counted from k; -1 if there is none. -/
def firstS (p : Int → Bool) : List Int → Int → Int
  | [], _ => -1
  | y :: r, k => if p y = true then k else firstS p r (k + 1)

theorem firstS_spec (p : Int → Bool) : ∀ (l : List Int) (k : Int), (firstS p l k = -1 ∧ ∀ x ∈ l, p x = false) ∨ ∃ i : Nat, i < l.length ∧ firstS p l k = k + i ∧ (l.take (i + 1)).filter (fun x => !p x) = l.take i
  | [], k => .inl ⟨rfl, by simp⟩
  | y :: r, k => by
    cases hy : p y with
    | true => exact .inr ⟨0, by simp, by simp [firstS, hy], by simp [hy]⟩
    | false =>
      rcases firstS_spec p r (k + 1) with ⟨e, h⟩ | ⟨i, hi, e, h⟩
      · exact .inl ⟨by simp [firstS, hy, e], fun x hx => by rcases List.mem_cons.1 hx with rfl | hx; exact hy; exact h x hx⟩
      · exact .inr ⟨i + 1, by simp; omega, by simp [firstS, hy, e]; omega, by simp [hy]; simpa using h⟩

end Go.Proofs.YtolbceckbnifmaaGreat

namespace Go.Proofs.YtolbceckbnifmaaGreat
open Go.RowKit Go.Proofs Go.Shelf
attribute [local go_sem] cell?_more cell?_alloc_some cell?_setCell_far frozen?_alloc_some frozen?_more
theorem zero3 (w : World) : (zeroValue 3).run Tryz.prog w = .ok (.int .i64 0) w := by
  obtain ⟨i0, hi, hz0, hz1, hz2⟩ := info_parts info3
  simp [zeroValue, typeInfo, hi, hz0]

theorem owns_setCells {B g n cap : Nat} {e : TypeId} : ∀ (vs : List Value) (o : Nat) (w : World) (xs : List Value), w.ownsRow B e 1 (.slice (some ⟨g, 0, none⟩) n cap) n xs →
    ∃ ys, (w.setCells g o vs).ownsRow B e 1 (.slice (some ⟨g, 0, none⟩) n cap) n ys ∧ (∀ i, i ≤ o → ys.take i = xs.take i) ∧ Frame' (fun b => b = g) w (w.setCells g o vs)
  | [], o, w, xs, h => ⟨xs, h, fun _ _ => rfl, Frame'.refl _ _⟩
  | v :: r, o, w, xs, h => by
    obtain ⟨ys, h1, h2, h3⟩ := owns_setCells r (o + 1) _ _ (h.stored o v).1
    refine ⟨ys, h1, fun i hi => ?_, ((Frame'.refl (fun b => b = g) w).setCell (p := ⟨g, o, none⟩) (.inl rfl) v).trans h3⟩
    rw [h2 i (by omega), List.take_set_of_le (by omega)]
theorem Own.cut {w : World} {B g n cap i : Nat} {xs : List Int} (h : Own w B (.slice (some ⟨g, 0, none⟩) n cap) xs) (hi : i ≤ n) : Own w B (.slice (some ⟨g, 0, none⟩) i cap) (xs.take i) := by
  obtain ⟨h1, h2⟩ := h
  rcases h2 with ⟨e, _⟩ | ⟨g', cap', cur, e, hB, hg, hn, hc, hs, ht⟩
  · cases e
  · cases e
    have hl : (xs.take i).length = i := by simp; omega
    refine ⟨by simp, .inr ⟨g, cap, cur, by rw [hl], hB, hg, by omega, hc, hs, ?_⟩⟩
    rw [hl, List.map_take, ← ht, List.take_take]
    congr 1
    omega

/-- What DeleteFunc leaves. -/
def DelPost (w : World) (B : Nat) (v : Value) (ys : List Int) (e : Ending) (w' : World) : Prop :=
  ∃ A n c, e = .returned (.slice A n c) ∧ Own w' B (.slice A n c) ys ∧ (Value.slice A n c).ownBlock = v.ownBlock ∧ Frame' (fun b => some b = v.ownBlock) w w'

end Go.Proofs.YtolbceckbnifmaaGreat

namespace Go.Proofs.YtolbceckbnifmaaGreat
open Go.RowKit Go.Proofs Go.Shelf
attribute [local go_sem] cell?_more cell?_alloc_some cell?_setCell_far frozen?_alloc_some frozen?_more
@[local go_sem] theorem st_func {P : Program} {w : World} {a : Addr} {m : Mode} (fn : Fn) (first captured : Array Value) : (store a (.func fn first captured) m).run P w = stored P w a (.func fn first captured) m := run_store P w a _ m rfl

/-- What Clone leaves, as something owned. -/
def CloneO (w : World) (xs : List Int) (e : Ending) (w' : World) : Prop :=
  ∃ A c, e = .returned (.slice A xs.length c) ∧ Own w' w.heap.size (.slice A xs.length c) xs ∧ Below w.heap.size w w'

theorem cloneO_any (A : Option Addr) (n c : Nat) (xs : List Int) (w : World) (h : RInts w A n c xs) (hn : n ≤ 1000000) :
    Calls Tryz.prog 85 #[.slice A n c] w (CloneO w xs) := by
  have hl := hide h.len
  cases A with
  | none =>
    have h0 : n = 0 := by
      by_cases e : 0 < n
      · obtain ⟨b, off, e', _⟩ := h.2.2.2.2 e; cases e'
      · omega
    have hx : Hid (xs = []) := List.eq_nil_of_length_eq_zero (by rw [hl.out]; exact h0)
    subst h0
    have he := fun W : World => Lib.run_eql_slice_nil (P := Tryz.prog) W 28 3 none 0 c 0 0 Tryz.underlying28
    go_enter Tryz.func85, Tryz.ntmps85
    go_wp2
    go_ret
    exact ⟨none, 0, by rw [hl.out]; rfl, by rw [hx.out]; exact Own.nil_ _ _, Below.refl _ _⟩
  | some ad =>
    have he := fun W : World => Lib.run_eql_slice_nil (P := Tryz.prog) W 28 3 (some ad) n c 0 0 Tryz.underlying28
    have h' := h.below ((Below.refl w.heap.size w).alloc (Nat.le_refl _) (.cells #[] 3))
    have hown : Own (w.alloc (.cells #[] 3)) w.heap.size (.slice (some ⟨w.heap.size, 0, none⟩) 0 0) [] := World.ownsRow_made w #[] 0 (Nat.le_refl _) (by unfold maxLen; omega) rfl
    go_enter Tryz.func85, Tryz.ntmps85
    go_wp2_with (at_builtin; refine appInts rfl rfl rfl hown rfl h' (by simp; omega) (by simp) ?_)
    intro v' w' h1 h2 _
    go_wp2
    go_ret
    have hb : Below w.heap.size w w' := ((Below.refl w.heap.size w).alloc (Nat.le_refl _) (.cells #[] 3)).grown h2 (by simp) (fun k hk => by cases hk; exact Nat.le_refl _)
    obtain ⟨A', c', rfl⟩ := h1.slice
    exact ⟨A', c', rfl, h1, hb⟩

/-- The marks of a ballot of kind k that are left. -/
def keptS (k : Int) (ms : List Int) (bs : List Bool) : List Int :=
  if k = 1 ∨ k = 2 then ms.filter fun x => isS bs x
  else if k = 3 then (List.range ms.length).map fun i : Nat => if isS bs i = true then ms.getD i 0 else 0
  else ms

theorem infoBal : (Tryz.prog.info? 103).map (·.size) = some 2 := by kernel_rfl
/-- A function hands back a ballot that lies in its result's variable. -/
theorem retBal {fn : Func} {R : Ending → World → Prop} {a : Act} {w : World} {p g : Nat} {C : Array Value} (hr : fn.results = #[.cell p 103]) (hp : a.tmps.getD p undef = .pointer (some ⟨g, 0, none⟩))
    (hg : Has w g 103 C) (hs : C.size = 2) (hd : a.defers = []) (hR : R (.returned (.agg C)) w) : bodyPost Tryz.prog fn R .ret a w :=
  bodyPost_ret (results_cell_row hr _ _ g _ C _ _ hp hg Tryz.underlying103 rfl (infoBal.trans (by rw [hs]))) hd hR
theorem put2 {w : World} {g : Nat} {t : TypeId} {x y x' y' : Value} (h : Has w g t #[x, y]) : Has ((w.setCell ⟨g, 0, none⟩ x').setCell ⟨g, 1, none⟩ y') g t #[x', y'] := (h.put 0 x').put 1 y'
theorem frame2 (w : World) (g : Nat) (x y : Value) : Frame' (fun b => b = g) w ((w.setCell ⟨g, 0, none⟩ x).setCell ⟨g, 1, none⟩ y) :=
  ((Frame'.refl (fun b => b = g) w).setCell (p := ⟨g, 0, none⟩) (.inl rfl) x).setCell (p := ⟨g, 1, none⟩) (.inl rfl) y
theorem below2 {B : Nat} {a w : World} (h : Below B a w) {g : Nat} (hg : B ≤ g) (x y : Value) : Below B a ((w.setCell ⟨g, 0, none⟩ x).setCell ⟨g, 1, none⟩ y) :=
  (h.setCell (p := ⟨g, 0, none⟩) hg x).setCell (p := ⟨g, 1, none⟩) hg y
theorem Own.frame {S : Nat → Prop} {w w' : World} {B : Nat} {v : Value} {xs : List Int} (h : Own w B v xs) (k : Frame' S w w') (hS : ∀ b, v.ownBlock = some b → ¬ S b) : Own w' B v xs := owns_frame h k hS
theorem Own.own_lt {w : World} {B : Nat} {v : Value} {xs : List Int} (h : Own w B v xs) {b : Nat} (hb : v.ownBlock = some b) : B ≤ b ∧ b < w.heap.size := World.ownsRow.lt h b hb

theorem Own.mono {w : World} {B B' : Nat} {v : Value} {xs : List Int} (h : Own w B v xs) (hB : B' ≤ B) : Own w B' v xs := by
  obtain ⟨h1, h2⟩ := h
  refine ⟨h1, ?_⟩
  rcases h2 with h2 | ⟨g, cap, cur, e, hb, r⟩
  · exact .inl h2
  · exact .inr ⟨g, cap, cur, e, by omega, r⟩
theorem Own.new {w : World} {B n c : Nat} {A : Option Addr} {xs : List Int} (h : Own w B (.slice A n c) xs) : 0 < n → ∃ b off, A = some ⟨b, off, none⟩ ∧ B ≤ b := fun hn => by
  rcases h.2 with ⟨e, h0⟩ | ⟨g, cap, cur, e, hb, r⟩
  · cases e; omega
  · cases e; exact ⟨g, 0, rfl, hb⟩
/-- The first t places of a points ballot have been looked at. -/
def partS (ms : List Int) (bs : List Bool) (t : Nat) : List Int := (List.range ms.length).map fun i : Nat => if i < t ∧ isS bs i = false then 0 else ms.getD i 0
theorem partS_zero (ms : List Int) (bs : List Bool) : partS ms bs 0 = ms := by
  unfold partS
  apply List.ext_getElem?
  intro i
  by_cases hi : i < ms.length
  · simp [hi, List.getD]
  · rw [List.getElem?_eq_none (by simp; omega), List.getElem?_eq_none (by omega)]
theorem length_partS (ms : List Int) (bs : List Bool) (t : Nat) : (partS ms bs t).length = ms.length := by simp [partS]
theorem get_partS {ms : List Int} {bs : List Bool} {t i : Nat} (hi : i < ms.length) : (partS ms bs t)[i]? = some (if i < t ∧ isS bs i = false then 0 else ms.getD i 0) := by simp [partS, hi]
theorem partS_keep {ms : List Int} {bs : List Bool} {t : Nat} (h : isS bs t = true) : partS ms bs (t + 1) = partS ms bs t := by
  apply List.ext_getElem?
  intro i
  by_cases hi : i < ms.length
  · rw [get_partS hi, get_partS hi]
    by_cases e : i = t
    · subst e; rw [h]; simp
    · congr 1
      by_cases e2 : i < t
      · simp [e2, show i < t + 1 by omega]
      · simp [e2, show ¬ i < t + 1 by omega]
  · rw [List.getElem?_eq_none (by rw [length_partS]; omega), List.getElem?_eq_none (by rw [length_partS]; omega)]
theorem partS_drop {ms : List Int} {bs : List Bool} {t : Nat} (_ht : t < ms.length) (h : isS bs t = false) : partS ms bs (t + 1) = (partS ms bs t).set t 0 := by
  apply List.ext_getElem?
  intro i
  by_cases hi : i < ms.length
  · rw [get_partS hi]
    by_cases e : t = i
    · subst e; rw [List.getElem?_set_self (by rw [length_partS]; exact hi), h]; simp
    · rw [List.getElem?_set_ne e, get_partS hi]
      congr 1
      by_cases e2 : i < t
      · simp [e2, show i < t + 1 by omega]
      · simp [e2, show ¬ i < t + 1 by omega]
  · rw [List.getElem?_eq_none (by rw [length_partS]; omega), List.getElem?_eq_none (by rw [List.length_set, length_partS]; omega)]
theorem partS_all (ms : List Int) (bs : List Bool) : partS ms bs ms.length = keptS 3 ms bs := by
  unfold keptS partS
  rw [if_neg (by omega), if_pos rfl]
  refine List.map_congr_left fun i hi => ?_
  rw [List.mem_range] at hi
  by_cases h : isS bs i = true
  · rw [if_pos h, if_neg (by simp [h])]
  · rw [if_neg h, if_pos ⟨hi, by simpa using h⟩]
theorem bd_partS {ms : List Int} (bs : List Bool) (t : Nat) (h : ∀ x ∈ ms, -9223372036854775808 ≤ x ∧ x ≤ 9223372036854775807) : ∀ x ∈ partS ms bs t, -9223372036854775808 ≤ x ∧ x ≤ 9223372036854775807 := by
  intro x hx
  obtain ⟨i, hi, rfl⟩ := List.mem_map.1 hx
  split
  · omega
  · rw [List.mem_range] at hi
    refine h _ ?_
    simp [List.getD, hi]

def KeepPost (w : World) (k : Int) (ms : List Int) (bs : List Bool) (e : Ending) (w' : World) : Prop :=
  ∃ A n c, e = .returned (.agg #[.int .u8 k, .slice A n c]) ∧ RInts w' A n c (keptS k ms bs) ∧ (0 < n → ∃ b off, A = some ⟨b, off, none⟩ ∧ w.heap.size ≤ b) ∧ Below w.heap.size w w'

end Go.Proofs.YtolbceckbnifmaaGreat
