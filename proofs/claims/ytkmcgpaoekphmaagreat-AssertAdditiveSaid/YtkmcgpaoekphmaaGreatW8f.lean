/-
  The closures of Keep; the library's IndexFunc and DeleteFunc at them.
  The library's DeleteFunc at Keep's closure, on a slice that the call owns.
  The program's Keep, of a ballot.
-/
import Derived.Test.YtkmcgpaoekphmaaGreatW9f
import Derived.Lib.SliceRun
import Derived.Shelf.Abstract
import Derived.Deep.RegionHeld3
namespace Go.Proofs.YtkmcgpaoekphmaaGreat
open Go.RowKit Go.Proofs Go.Shelf
attribute [local go_sem] cell?_more cell?_alloc_some cell?_setCell_far frozen?_alloc_some frozen?_more
/-- The slice value (A, n, c) reads as the truth values bs in the world w. -/
def RBools (w : World) (A : Option Addr) (n c : Nat) (bs : List Bool) : Prop :=
  bs.length = n ∧ n ≤ c ∧ c ≤ 9223372036854775807 ∧ (0 < n → ∃ b off, A = some ⟨b, off, none⟩ ∧ ∀ i, i < n → w.cell? ⟨b, off + i, none⟩ = some (.bool (bs.getD i false)))

theorem RBools.below {w w' : World} {A : Option Addr} {n c : Nat} {bs : List Bool} (h : RBools w A n c bs) (hb : Below w.heap.size w w') : RBools w' A n c bs :=
  ⟨h.1, h.2.1, h.2.2.1, fun hn => let ⟨b, off, e, hc⟩ := h.2.2.2 hn; ⟨b, off, e, fun i hi => keep_cell hb (hc i hi)⟩⟩
theorem RBools.frame {S : Nat → Prop} {w w' : World} {A : Option Addr} {n c : Nat} {bs : List Bool} (h : RBools w A n c bs) (k : Frame' S w w') (hA : 0 < n → ∃ b off, A = some ⟨b, off, none⟩ ∧ ¬ S b) : RBools w' A n c bs := by
  refine ⟨h.1, h.2.1, h.2.2.1, fun hn => ?_⟩
  obtain ⟨b, off, e, hc⟩ := h.2.2.2 hn
  obtain ⟨b', off', e', hS⟩ := hA hn
  have : b' = b := by rw [e] at e'; cases e'; rfl
  subst this
  refine ⟨b', off, e, fun i hi => ?_⟩
  rw [World.cell?_of_block (w := w) (k.block b' (World.block_lt_of_cell? w _ (hc i hi)) hS)]
  exact hc i hi

end Go.Proofs.YtkmcgpaoekphmaaGreat

namespace Go.Proofs.YtkmcgpaoekphmaaGreat
open Go.RowKit Go.Proofs Go.Shelf
attribute [local go_sem] cell?_more cell?_alloc_some cell?_setCell_far frozen?_alloc_some frozen?_more
end Go.Proofs.YtkmcgpaoekphmaaGreat

namespace Go.Proofs.YtkmcgpaoekphmaaGreat
open Go.RowKit Go.Proofs Go.Shelf
attribute [local go_sem] cell?_more cell?_alloc_some cell?_setCell_far frozen?_alloc_some frozen?_more
@[local go_sem] theorem st_func {P : Program} {w : World} {a : Addr} {m : Mode} (fn : Fn) (first captured : Array Value) : (store a (.func fn first captured) m).run P w = stored P w a (.func fn first captured) m := run_store P w a _ m rfl

/-- What Clone leaves, as something owned. -/
def CloneO (w : World) (xs : List Int) (e : Ending) (w' : World) : Prop :=
  ∃ A c, e = .returned (.slice A xs.length c) ∧ Own w' w.heap.size (.slice A xs.length c) xs ∧ Below w.heap.size w w'

theorem cloneO_any (A : Option Addr) (n c : Nat) (xs : List Int) (w : World) (h : RInts w A n c xs) (hn : n ≤ 1000000) :
    Calls Tryz.prog 78 #[.slice A n c] w (CloneO w xs) := by
  have hl := hide h.len
  cases A with
  | none =>
    have h0 : n = 0 := by
      by_cases e : 0 < n
      · obtain ⟨b, off, e', _⟩ := h.2.2.2.2 e; cases e'
      · omega
    have hx : Hid (xs = []) := List.eq_nil_of_length_eq_zero (by rw [hl.out]; exact h0)
    subst h0
    have he := fun W : World => Lib.run_eql_slice_nil (P := Tryz.prog) W 22 3 none 0 c 0 0 Tryz.underlying22
    go_enter Tryz.func78, Tryz.ntmps78
    go_wp2
    go_ret
    exact ⟨none, 0, by rw [hl.out]; rfl, by rw [hx.out]; exact Own.nil_ _ _, Below.refl _ _⟩
  | some ad =>
    have he := fun W : World => Lib.run_eql_slice_nil (P := Tryz.prog) W 22 3 (some ad) n c 0 0 Tryz.underlying22
    have h' := h.below ((Below.refl w.heap.size w).alloc (Nat.le_refl _) (.cells #[] 3))
    have hown : Own (w.alloc (.cells #[] 3)) w.heap.size (.slice (some ⟨w.heap.size, 0, none⟩) 0 0) [] := World.ownsRow_made w #[] 0 (Nat.le_refl _) (by unfold maxLen; omega) rfl
    go_enter Tryz.func78, Tryz.ntmps78
    go_wp2_with (at_builtin; refine appInts rfl rfl rfl hown rfl h' (by simp; omega) (by simp) ?_)
    intro v' w' h1 h2 _
    go_wp2
    go_ret
    have hb : Below w.heap.size w w' := ((Below.refl w.heap.size w).alloc (Nat.le_refl _) (.cells #[] 3)).grown h2 (by simp) (fun k hk => by cases hk; exact Nat.le_refl _)
    obtain ⟨A', c', rfl⟩ := h1.slice
    exact ⟨A', c', rfl, h1, hb⟩

theorem infoBal : (Tryz.prog.info? 26).map (·.size) = some 2 := by kernel_rfl
/-- A function hands back a ballot that lies in its result's variable. -/
theorem retBal {fn : Func} {R : Ending → World → Prop} {a : Act} {w : World} {p g : Nat} {C : Array Value} (hr : fn.results = #[.cell p 26]) (hp : a.tmps.getD p undef = .pointer (some ⟨g, 0, none⟩))
    (hg : Has w g 26 C) (hs : C.size = 2) (hd : a.defers = []) (hR : R (.returned (.agg C)) w) : bodyPost Tryz.prog fn R .ret a w :=
  bodyPost_ret (results_cell_row hr _ _ g _ C _ _ hp hg Tryz.underlying26 rfl (infoBal.trans (by rw [hs]))) hd hR
theorem put2 {w : World} {g : Nat} {t : TypeId} {x y x' y' : Value} (h : Has w g t #[x, y]) : Has ((w.setCell ⟨g, 0, none⟩ x').setCell ⟨g, 1, none⟩ y') g t #[x', y'] := (h.put 0 x').put 1 y'
theorem Own.frame {S : Nat → Prop} {w w' : World} {B : Nat} {v : Value} {xs : List Int} (h : Own w B v xs) (k : Frame' S w w') (hS : ∀ b, v.ownBlock = some b → ¬ S b) : Own w' B v xs := owns_frame h k hS
theorem Own.own_lt {w : World} {B : Nat} {v : Value} {xs : List Int} (h : Own w B v xs) {b : Nat} (hb : v.ownBlock = some b) : B ≤ b ∧ b < w.heap.size := World.ownsRow.lt h b hb

theorem Own.mono {w : World} {B B' : Nat} {v : Value} {xs : List Int} (h : Own w B v xs) (hB : B' ≤ B) : Own w B' v xs := by
  obtain ⟨h1, h2⟩ := h
  refine ⟨h1, ?_⟩
  rcases h2 with h2 | ⟨g, cap, cur, e, hb, r⟩
  · exact .inl h2
  · exact .inr ⟨g, cap, cur, e, by omega, r⟩
theorem Own.new {w : World} {B n c : Nat} {A : Option Addr} {xs : List Int} (h : Own w B (.slice A n c) xs) : 0 < n → ∃ b off, A = some ⟨b, off, none⟩ ∧ B ≤ b := fun hn => by
  rcases h.2 with ⟨e, h0⟩ | ⟨g, cap, cur, e, hb, r⟩
  · cases e; omega
  · cases e; exact ⟨g, 0, rfl, hb⟩
end Go.Proofs.YtkmcgpaoekphmaaGreat
