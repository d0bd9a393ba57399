/-
  The library's Clone, of numbers and of rows.
-/
import Derived.Test.YtolbceckbnifmaaGreatMem3
namespace Go.Proofs.YtolbceckbnifmaaGreat
open Go.RowKit Go.Proofs
attribute [local go_sem] cell?_more cell?_alloc_some cell?_setCell_far frozen?_alloc_some frozen?_more

/-- What Clone leaves: a slice of its own that reads the same. -/
def CloneI (w : World) (n : Nat) (xs : List Int) (e : Ending) (w' : World) : Prop :=
  ∃ A c, e = .returned (.slice A n c) ∧ RInts w' A n c xs ∧ (0 < n → ∃ b, A = some ⟨b, 0, none⟩ ∧ w.heap.size ≤ b ∧ ∀ i, i < n → w'.frozen? ⟨b, 0 + i, none⟩ = false) ∧ Below w.heap.size w w'

theorem Own.cloned {w w' : World} {v : Value} {xs : List Int} (hown : Own w' w.heap.size v xs) (hb : Below w.heap.size w w') (hx : ∀ x ∈ xs, -9223372036854775808 ≤ x ∧ x ≤ 9223372036854775807) : CloneI w xs.length xs (.returned v) w' := by
  obtain ⟨A, c, rfl⟩ := hown.slice
  refine ⟨A, c, rfl, hown.ints hx, fun hn => ?_, hb⟩
  obtain ⟨h1, h2⟩ := hown
  rcases h2 with ⟨e, h0⟩ | ⟨g, cap, cur, e, hb1, hg, r⟩
  · omega
  · cases e
    exact ⟨g, rfl, hb1, fun i _ => frozen_of_row w' g _ cur 3 hg⟩

theorem cloneI_any (A : Option Addr) (n c : Nat) (xs : List Int) (w : World) (h : RInts w A n c xs) (hn : n ≤ 1000000) :
    Calls Tryz.prog 85 #[.slice A n c] w (CloneI w n xs) := by
  have hl := hide h.len
  cases A with
  | none =>
    have h0 : n = 0 := by
      by_cases e : 0 < n
      · obtain ⟨b, off, e', _⟩ := h.2.2.2.2 e; cases e'
      · omega
    have hx : Hid (xs = []) := List.eq_nil_of_length_eq_zero (by rw [hl.out]; exact h0)
    subst h0
    have he := fun W : World => Lib.run_eql_slice_nil (P := Tryz.prog) W 28 3 none 0 c 0 0 Tryz.underlying28
    go_enter Tryz.func85, Tryz.ntmps85
    go_wp2
    go_ret
    exact ⟨none, 0, rfl, by rw [hx.out]; exact RInts.nil_ _, fun h => absurd h (by omega), Below.refl _ _⟩
  | some ad =>
    have he := fun W : World => Lib.run_eql_slice_nil (P := Tryz.prog) W 28 3 (some ad) n c 0 0 Tryz.underlying28
    have h' := h.below ((Below.refl w.heap.size w).alloc (Nat.le_refl _) (.cells #[] 3))
    have hown : Own (w.alloc (.cells #[] 3)) w.heap.size (.slice (some ⟨w.heap.size, 0, none⟩) 0 0) [] := World.ownsRow_made w #[] 0 (Nat.le_refl _) (by unfold maxLen; omega) rfl
    go_enter Tryz.func85, Tryz.ntmps85
    go_wp2_with (at_builtin; refine appInts rfl rfl rfl hown rfl h' (by simp; omega) (by simp) ?_)
    intro v' w' h1 h2 _
    go_wp2
    go_ret
    have hb : Below w.heap.size w w' := ((Below.refl w.heap.size w).alloc (Nat.le_refl _) (.cells #[] 3)).grown h2 (by simp) (fun k hk => by cases hk; exact Nat.le_refl _)
    have := Own.cloned (w := w) h1 hb (fun x hx => h.bd (by simpa using hx))
    rw [hl.out] at this
    exact this

/-- Rows that are owned; the marks of the first t too; those of the others lie below B0. -/
def CRows (w : World) (B0 B : Nat) (v : Value) (cs : List (Value × Row)) (t : Nat) : Prop :=
  w.ownsRow B 80 2 v cs.length (cs.flatMap cell2) ∧ ∀ (i : Nat) c, cs[i]? = some c → (if i < t then OMarks w B v.ownBlock c.1 c.2.1 else RMarks w B0 c.1 c.2.1) ∧ I64 c.2.2

theorem RMarks.frame {S : Nat → Prop} {w w' : World} {B0 : Nat} {u : Value} {xs : List Int} (h : RMarks w B0 u xs) (k : Frame' S w w') (hS : ∀ b, b < B0 → ¬ S b) : RMarks w' B0 u xs := by
  obtain ⟨A, n, c, e, h1, h2⟩ := h
  exact ⟨A, n, c, e, h1.frame k (fun hn => let ⟨b, off, e1, e2⟩ := h2 hn; ⟨b, off, e1, hS b e2⟩), h2⟩
theorem CRows.frame {S : Nat → Prop} {w w' : World} {B0 B : Nat} {v : Value} {cs : List (Value × Row)} {t : Nat} (h : CRows w B0 B v cs t) (k : Frame' S w w') (hS : ∀ b, b < B0 ∨ B ≤ b → b < w.heap.size → ¬ S b) (_hB : B0 ≤ w.heap.size) : CRows w' B0 B v cs t := by
  refine ⟨owns_frame h.1 k (fun b hb => hS b (.inr (h.1.lt b hb).1) (h.1.lt b hb).2), fun i c hc => ⟨?_, (h.2 i c hc).2⟩⟩
  have k' : Frame' (fun b => S b ∧ b < w.heap.size) w w' := ⟨k.os, k.tape, k.output, k.size, fun b hb hn => k.block b hb (fun hs => hn ⟨hs, hb⟩)⟩
  have := (h.2 i c hc).1
  split
  · rename_i hi; rw [if_pos hi] at this; exact this.frame k' (fun b hb _ hs => hS b (.inr hb) hs.2 hs.1)
  · rename_i hi; rw [if_neg hi] at this; exact this.frame k' (fun b hb hs => hS b (.inl hb) hs.2 hs.1)
theorem flat_set (cs : List (Value × Row)) : ∀ (t : Nat) (x : Value × Row) (u : Value), cs[t]? = some x → (cs.flatMap cell2).set (t * 2) u = (cs.set t (u, x.2)).flatMap cell2 := by
  induction cs with
  | nil => intro t x u h; simp at h
  | cons a r ih =>
    intro t x u h
    cases t with
    | zero => simp at h; subst h; simp [List.flatMap_cons, cell2]
    | succ t =>
      have := ih t x u (by simpa using h)
      rw [List.flatMap_cons, List.set_cons_succ, List.flatMap_cons, ← this, show (t + 1) * 2 = t * 2 + 1 + 1 by omega]
      simp [cell2]
theorem CRows.store {w : World} {B0 B g n cap t : Nat} {cs : List (Value × Row)} {x : Value × Row} {u : Value} (h : CRows w B0 B (.slice (some ⟨g, 0, none⟩) n cap) cs t) (hn : cs.length = n) (hx : cs[t]? = some x)
    (hu : OMarks w B (some g) u x.2.1) (hB : B0 ≤ g) : CRows (w.setCell ⟨g, t * 2, none⟩ u) B0 B (.slice (some ⟨g, 0, none⟩) n cap) (cs.set t (u, x.2)) (t + 1) := by
  obtain ⟨h1, h2⟩ := h
  rw [hn] at h1
  obtain ⟨h3, h4⟩ := h1.stored (t * 2) u
  rw [flat_set cs t x u hx] at h3
  have k : Frame' (fun b => b = g) w (w.setCell ⟨g, t * 2, none⟩ u) := Frame'.setCell (p := ⟨g, t * 2, none⟩) (Frame'.refl (fun b => b = g) w) (.inl rfl) u
  refine ⟨by rw [List.length_set, hn]; exact h3, fun i c hc => ?_⟩
  by_cases e : i = t
  · subst e
    rw [List.getElem?_set_self (List.getElem?_eq_some_iff.1 hx).1] at hc
    cases hc
    rw [if_pos (by omega)]
    exact ⟨hu.frame k (fun b _ hb e => hb (by rw [e])), (h2 i x hx).2⟩
  · rw [List.getElem?_set_ne (fun h => e h.symm)] at hc
    obtain ⟨h5, h6⟩ := h2 i c hc
    refine ⟨?_, h6⟩
    by_cases hi : i < t
    · rw [if_pos hi] at h5; rw [if_pos (by omega)]
      exact h5.frame k (fun b _ hb e => hb (by rw [e]; rfl))
    · rw [if_neg hi] at h5; rw [if_neg (by omega)]
      exact h5.frame k (fun b hb e => by omega)
theorem CRows.all {w : World} {B0 B : Nat} {v : Value} {cs : List (Value × Row)} (h : CRows w B0 B v cs cs.length) : ORows w B v (cs.map (·.2)) := by
  refine ⟨cs, rfl, by rw [List.length_map]; exact h.1, fun c hc => ?_⟩
  obtain ⟨i, hi⟩ := List.getElem?_of_mem hc
  obtain ⟨h1, h2⟩ := h.2 i c hi
  rw [if_pos (List.getElem?_eq_some_iff.1 hi).1] at h1
  exact ⟨h1, h2⟩

/-- What Clone of rows leaves: the same cells in a slice of its own. -/
def CloneR (w0 w : World) (n : Nat) (l : List Row) (e : Ending) (w' : World) : Prop :=
  ∃ A c cs, e = .returned (.slice A n c) ∧ cs.map (·.2) = l ∧ CRows w' w0.heap.size w.heap.size (.slice A n c) cs 0 ∧ Below w.heap.size w w'

theorem RRows.cells {w : World} {A : Option Addr} {n c : Nat} {l : List Row} (h : RRows w A n c l) (hA : 0 < n) :
    ∃ cs : List (Value × Row), cs.map (·.2) = l ∧ (∀ ad, A = some ad → ∀ j u, (cs.flatMap cell2)[j]? = some u → w.cell? (ad.add j) = some u) ∧ ∀ (i : Nat) x, cs[i]? = some x → (∃ Am nm cm, x.1 = .slice Am nm cm ∧ RInts w Am nm cm x.2.1) ∧ I64 x.2.2 := by
  obtain ⟨b, off, e, hc⟩ := h.2.2.2 hA
  have each : ∀ i : Nat, ∃ u : Value, i < n → w.cell? ⟨b, off + i * 2, none⟩ = some u ∧ (∃ Am nm cm, u = .slice Am nm cm ∧ RInts w Am nm cm (l.getD i ([], 0)).1) := fun i => by
    by_cases hi : i < n
    · obtain ⟨Am, nm, cm, h1, h2, _⟩ := hc i hi
      exact ⟨_, fun _ => ⟨h1, Am, nm, cm, rfl, h2⟩⟩
    · exact ⟨undef, fun h => absurd h hi⟩
  let f : Nat → Value × Row := fun i => ((each i).choose, l.getD i ([], 0))
  have hl := h.len
  have hget : ∀ i x, ((List.range n).map f)[i]? = some x → i < n ∧ x = f i := fun i x hx => by
    rw [List.getElem?_map] at hx
    by_cases hi : i < n
    · rw [List.getElem?_range hi] at hx; exact ⟨hi, by simpa using hx.symm⟩
    · rw [List.getElem?_eq_none (by simp; omega)] at hx; cases hx
  refine ⟨(List.range n).map f, ?_, ?_, ?_⟩
  · apply List.ext_getElem?
    intro i
    by_cases hi : i < n
    · simp [f, hi, hl, List.getD]
    · rw [List.getElem?_eq_none (by simp; omega), List.getElem?_eq_none (by omega)]
  · rintro ad rfl j u hu
    cases e
    have hadd : (⟨b, off, none⟩ : Addr).add j = ⟨b, off + j, none⟩ := by unfold Addr.add; split <;> simp_all
    rw [hadd]
    have g := get_cell2 ((List.range n).map f) (j / 2)
    have hj : j < n * 2 := by have := (List.getElem?_eq_some_iff.1 hu).1; rw [length_cell2] at this; simpa using this
    have hi : j / 2 < n := by omega
    have hf : ((List.range n).map f)[j / 2]? = some (f (j / 2)) := by simp [hi]
    rw [hf] at g
    obtain ⟨g1, g2⟩ := (each (j / 2)).choose_spec hi
    obtain ⟨Am, nm, cm, h1, h2, h3, h4⟩ := hc (j / 2) hi
    by_cases hp : j % 2 = 0
    · rw [show j / 2 * 2 = j by omega, hu] at g
      rw [show off + j = off + j / 2 * 2 by omega, g1]
      simpa [f] using g.1.symm
    · rw [show j / 2 * 2 + 1 = j by omega, hu] at g
      rw [show off + j = off + j / 2 * 2 + 1 by omega, h3]
      simpa [f] using g.2.symm
  · intro i x hx
    obtain ⟨hi, rfl⟩ := hget i x hx
    obtain ⟨g1, g2⟩ := (each i).choose_spec hi
    obtain ⟨Am, nm, cm, h1, h2, h3, h4⟩ := hc i hi
    exact ⟨g2, h4⟩

theorem one_cell2 {cs : List (Value × Row)} (h : ∀ (i : Nat) x, cs[i]? = some x → ∃ A n c, x.1 = .slice A n c) : ∀ u ∈ cs.flatMap cell2, u.oneCell' = true := by
  intro u hu
  obtain ⟨x, hx, hu⟩ := List.mem_flatMap.1 hu
  obtain ⟨i, hi⟩ := List.getElem?_of_mem hx
  obtain ⟨A, n, c, e⟩ := h i x hi
  simp only [cell2, List.mem_cons, List.not_mem_nil, or_false] at hu
  rcases hu with hu | hu
  · rw [hu, e]; rfl
  · rw [hu]; rfl

end Go.Proofs.YtolbceckbnifmaaGreat
