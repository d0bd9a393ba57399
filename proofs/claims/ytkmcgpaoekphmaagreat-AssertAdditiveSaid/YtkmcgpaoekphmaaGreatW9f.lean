/-
  The library's Clone, of numbers and of rows.
-/
import Derived.Test.YtkmcgpaoekphmaaGreatMem3
namespace Go.Proofs.YtkmcgpaoekphmaaGreat
open Go.RowKit Go.Proofs
attribute [local go_sem] cell?_more cell?_alloc_some cell?_setCell_far frozen?_alloc_some frozen?_more
/-- Rows that are owned; the marks of the first t too; those of the others lie below B0. -/
def CRows (w : World) (B0 B : Nat) (v : Value) (cs : List (Value × Row)) (t : Nat) : Prop :=
  w.ownsRow B 60 2 v cs.length (cs.flatMap cell2) ∧ ∀ (i : Nat) c, cs[i]? = some c → (if i < t then OMarks w B v.ownBlock c.1 c.2.1 else RMarks w B0 c.1 c.2.1) ∧ I64 c.2.2

theorem RMarks.frame {S : Nat → Prop} {w w' : World} {B0 : Nat} {u : Value} {xs : List Int} (h : RMarks w B0 u xs) (k : Frame' S w w') (hS : ∀ b, b < B0 → ¬ S b) : RMarks w' B0 u xs := by
  obtain ⟨A, n, c, e, h1, h2⟩ := h
  exact ⟨A, n, c, e, h1.frame k (fun hn => let ⟨b, off, e1, e2⟩ := h2 hn; ⟨b, off, e1, hS b e2⟩), h2⟩
theorem CRows.frame {S : Nat → Prop} {w w' : World} {B0 B : Nat} {v : Value} {cs : List (Value × Row)} {t : Nat} (h : CRows w B0 B v cs t) (k : Frame' S w w') (hS : ∀ b, b < B0 ∨ B ≤ b → b < w.heap.size → ¬ S b) (_hB : B0 ≤ w.heap.size) : CRows w' B0 B v cs t := by
  refine ⟨owns_frame h.1 k (fun b hb => hS b (.inr (h.1.lt b hb).1) (h.1.lt b hb).2), fun i c hc => ⟨?_, (h.2 i c hc).2⟩⟩
  have k' : Frame' (fun b => S b ∧ b < w.heap.size) w w' := ⟨k.os, k.tape, k.output, k.size, fun b hb hn => k.block b hb (fun hs => hn ⟨hs, hb⟩)⟩
  have := (h.2 i c hc).1
  split
  · rename_i hi; rw [if_pos hi] at this; exact this.frame k' (fun b hb _ hs => hS b (.inr hb) hs.2 hs.1)
  · rename_i hi; rw [if_neg hi] at this; exact this.frame k' (fun b hb hs => hS b (.inl hb) hs.2 hs.1)
theorem flat_set (cs : List (Value × Row)) : ∀ (t : Nat) (x : Value × Row) (u : Value), cs[t]? = some x → (cs.flatMap cell2).set (t * 2) u = (cs.set t (u, x.2)).flatMap cell2 := by
  induction cs with
  | nil => intro t x u h; simp at h
  | cons a r ih =>
    intro t x u h
    cases t with
    | zero => simp at h; subst h; simp [List.flatMap_cons, cell2]
    | succ t =>
      have := ih t x u (by simpa using h)
      rw [List.flatMap_cons, List.set_cons_succ, List.flatMap_cons, ← this, show (t + 1) * 2 = t * 2 + 1 + 1 by omega]
      simp [cell2]
theorem CRows.store {w : World} {B0 B g n cap t : Nat} {cs : List (Value × Row)} {x : Value × Row} {u : Value} (h : CRows w B0 B (.slice (some ⟨g, 0, none⟩) n cap) cs t) (hn : cs.length = n) (hx : cs[t]? = some x)
    (hu : OMarks w B (some g) u x.2.1) (hB : B0 ≤ g) : CRows (w.setCell ⟨g, t * 2, none⟩ u) B0 B (.slice (some ⟨g, 0, none⟩) n cap) (cs.set t (u, x.2)) (t + 1) := by
  obtain ⟨h1, h2⟩ := h
  rw [hn] at h1
  obtain ⟨h3, h4⟩ := h1.stored (t * 2) u
  rw [flat_set cs t x u hx] at h3
  have k : Frame' (fun b => b = g) w (w.setCell ⟨g, t * 2, none⟩ u) := Frame'.setCell (p := ⟨g, t * 2, none⟩) (Frame'.refl (fun b => b = g) w) (.inl rfl) u
  refine ⟨by rw [List.length_set, hn]; exact h3, fun i c hc => ?_⟩
  by_cases e : i = t
  · subst e
    rw [List.getElem?_set_self (List.getElem?_eq_some_iff.1 hx).1] at hc
    cases hc
    rw [if_pos (by omega)]
    exact ⟨hu.frame k (fun b _ hb e => hb (by rw [e])), (h2 i x hx).2⟩
  · rw [List.getElem?_set_ne (fun h => e h.symm)] at hc
    obtain ⟨h5, h6⟩ := h2 i c hc
    refine ⟨?_, h6⟩
    by_cases hi : i < t
    · rw [if_pos hi] at h5; rw [if_pos (by omega)]
      exact h5.frame k (fun b _ hb e => hb (by rw [e]; rfl))
    · rw [if_neg hi] at h5; rw [if_neg (by omega)]
      exact h5.frame k (fun b hb e => by omega)
theorem CRows.all {w : World} {B0 B : Nat} {v : Value} {cs : List (Value × Row)} (h : CRows w B0 B v cs cs.length) : ORows w B v (cs.map (·.2)) := by
  refine ⟨cs, rfl, by rw [List.length_map]; exact h.1, fun c hc => ?_⟩
  obtain ⟨i, hi⟩ := List.getElem?_of_mem hc
  obtain ⟨h1, h2⟩ := h.2 i c hi
  rw [if_pos (List.getElem?_eq_some_iff.1 hi).1] at h1
  exact ⟨h1, h2⟩

theorem RRows.cells {w : World} {A : Option Addr} {n c : Nat} {l : List Row} (h : RRows w A n c l) (hA : 0 < n) :
    ∃ cs : List (Value × Row), cs.map (·.2) = l ∧ (∀ ad, A = some ad → ∀ j u, (cs.flatMap cell2)[j]? = some u → w.cell? (ad.add j) = some u) ∧ ∀ (i : Nat) x, cs[i]? = some x → (∃ Am nm cm, x.1 = .slice Am nm cm ∧ RInts w Am nm cm x.2.1) ∧ I64 x.2.2 := by
  obtain ⟨b, off, e, hc⟩ := h.2.2.2 hA
  have each : ∀ i : Nat, ∃ u : Value, i < n → w.cell? ⟨b, off + i * 2, none⟩ = some u ∧ (∃ Am nm cm, u = .slice Am nm cm ∧ RInts w Am nm cm (l.getD i ([], 0)).1) := fun i => by
    by_cases hi : i < n
    · obtain ⟨Am, nm, cm, h1, h2, _⟩ := hc i hi
      exact ⟨_, fun _ => ⟨h1, Am, nm, cm, rfl, h2⟩⟩
    · exact ⟨undef, fun h => absurd h hi⟩
  let f : Nat → Value × Row := fun i => ((each i).choose, l.getD i ([], 0))
  have hl := h.len
  have hget : ∀ i x, ((List.range n).map f)[i]? = some x → i < n ∧ x = f i := fun i x hx => by
    rw [List.getElem?_map] at hx
    by_cases hi : i < n
    · rw [List.getElem?_range hi] at hx; exact ⟨hi, by simpa using hx.symm⟩
    · rw [List.getElem?_eq_none (by simp; omega)] at hx; cases hx
  refine ⟨(List.range n).map f, ?_, ?_, ?_⟩
  · apply List.ext_getElem?
    intro i
    by_cases hi : i < n
    · simp [f, hi, hl, List.getD]
    · rw [List.getElem?_eq_none (by simp; omega), List.getElem?_eq_none (by omega)]
  · rintro ad rfl j u hu
    cases e
    have hadd : (⟨b, off, none⟩ : Addr).add j = ⟨b, off + j, none⟩ := by unfold Addr.add; split <;> simp_all
    rw [hadd]
    have g := get_cell2 ((List.range n).map f) (j / 2)
    have hj : j < n * 2 := by have := (List.getElem?_eq_some_iff.1 hu).1; rw [length_cell2] at this; simpa using this
    have hi : j / 2 < n := by omega
    have hf : ((List.range n).map f)[j / 2]? = some (f (j / 2)) := by simp [hi]
    rw [hf] at g
    obtain ⟨g1, g2⟩ := (each (j / 2)).choose_spec hi
    obtain ⟨Am, nm, cm, h1, h2, h3, h4⟩ := hc (j / 2) hi
    by_cases hp : j % 2 = 0
    · rw [show j / 2 * 2 = j by omega, hu] at g
      rw [show off + j = off + j / 2 * 2 by omega, g1]
      simpa [f] using g.1.symm
    · rw [show j / 2 * 2 + 1 = j by omega, hu] at g
      rw [show off + j = off + j / 2 * 2 + 1 by omega, h3]
      simpa [f] using g.2.symm
  · intro i x hx
    obtain ⟨hi, rfl⟩ := hget i x hx
    obtain ⟨g1, g2⟩ := (each i).choose_spec hi
    obtain ⟨Am, nm, cm, h1, h2, h3, h4⟩ := hc i hi
    exact ⟨g2, h4⟩

theorem one_cell2 {cs : List (Value × Row)} (h : ∀ (i : Nat) x, cs[i]? = some x → ∃ A n c, x.1 = .slice A n c) : ∀ u ∈ cs.flatMap cell2, u.oneCell' = true := by
  intro u hu
  obtain ⟨x, hx, hu⟩ := List.mem_flatMap.1 hu
  obtain ⟨i, hi⟩ := List.getElem?_of_mem hx
  obtain ⟨A, n, c, e⟩ := h i x hi
  simp only [cell2, List.mem_cons, List.not_mem_nil, or_false] at hu
  rcases hu with hu | hu
  · rw [hu, e]; rfl
  · rw [hu]; rfl

end Go.Proofs.YtkmcgpaoekphmaaGreat
