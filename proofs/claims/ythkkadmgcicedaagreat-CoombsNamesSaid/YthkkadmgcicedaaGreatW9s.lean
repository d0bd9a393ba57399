/-
  Slices of rows whose marks are shared; the reference's Of, Twin, whole.
-/
import Derived.Test.YthkkadmgcicedaaGreatW9l
import Derived.Deep.RegionHeld3
import Derived.Deep.AppendLies
namespace Go.Proofs.YthkkadmgcicedaaGreat
open Go.RowKit Go.Proofs
attribute [local go_sem] cell?_more cell?_alloc_some cell?_setCell_far frozen?_alloc_some frozen?_more

/-- Marks that are read alone, not in block g. -/
def SMarks (w : World) (g : Option Nat) (u : Value) (xs : List Int) : Prop :=
  ∃ A n c, u = .slice A n c ∧ RInts w A n c xs ∧ (0 < n → ∃ b off, A = some ⟨b, off, none⟩ ∧ some b ≠ g)
/-- A slice of rows that a call owns, in a block from B on; the marks may be anywhere else. -/
def SRows (w : World) (B : Nat) (v : Value) (l : List Row) : Prop :=
  ∃ cs : List (Value × Row), cs.map (·.2) = l ∧ w.ownsRow B 45 2 v l.length (cs.flatMap cell2) ∧ ∀ c ∈ cs, SMarks w v.ownBlock c.1 c.2.1 ∧ I64 c.2.2

theorem SRows.nil_ (w : World) (B : Nat) : SRows w B (.slice none 0 0) [] := ⟨[], rfl, World.ownsRow_nil _ _ _ _, by simp⟩
theorem ORows.shared {w : World} {B : Nat} {v : Value} {l : List Row} (h : ORows w B v l) : SRows w B v l := by
  obtain ⟨cs, e, h1, h2⟩ := h
  refine ⟨cs, e, h1, fun c hc => ⟨?_, (h2 c hc).2⟩⟩
  obtain ⟨A, n, c', e, r, f⟩ := (h2 c hc).1
  exact ⟨A, n, c', e, r, fun hn => let ⟨b, off, e1, _, e3, _⟩ := f hn; ⟨b, off, e1, e3⟩⟩
theorem SRows.rows {w : World} {B : Nat} {A : Option Addr} {n c : Nat} {l : List Row} (h : SRows w B (.slice A n c) l) : RRows w A n c l := by
  obtain ⟨cs, e, h1, h2⟩ := h
  rcases h1.2 with ⟨e1, e2⟩ | ⟨g, cap, cur, e1, hB, hg, hn, hc, hs, ht⟩
  · cases e1
    have : l = [] := List.eq_nil_of_length_eq_zero e2
    subst this
    exact RRows.nil_ w
  · cases e1
    refine ⟨rfl, hn, by unfold maxLen at hc; omega, fun _ => ⟨g, 0, rfl, fun i hi => ?_⟩⟩
    have hlc : cs.length = l.length := by rw [← e]; simp
    have hi' : i < cs.length := by omega
    obtain ⟨h3, h4⟩ := h2 cs[i] (List.getElem_mem hi')
    obtain ⟨Am, nm, cm, e5, h5, _⟩ := h3
    have hl : l.getD i ([], 0) = cs[i].2 := by subst e; simp [List.getD, hi']
    have hcell : ∀ j, j < l.length * 2 → w.cell? ⟨g, j, none⟩ = (cs.flatMap cell2)[j]? := fun j hj => by
      rw [cell_of_row w g j cur _ (0, 0) hg, ← Array.getElem?_toList, ← ht, List.getElem?_take_of_lt hj]
    have hg2 := get_cell2 cs i
    rw [List.getElem?_eq_getElem hi'] at hg2
    rw [hl, Nat.zero_add]
    refine ⟨Am, nm, cm, ?_, h5, ?_, h4⟩
    · rw [hcell _ (by omega), hg2.1, ← e5]; rfl
    · rw [hcell _ (by omega), hg2.2]; rfl
theorem SMarks.below {w w' : World} {g : Option Nat} {u : Value} {xs : List Int} (h : SMarks w g u xs) (hb : Below w.heap.size w w') : SMarks w' g u xs := by
  obtain ⟨A, n, c, e, r, f⟩ := h
  exact ⟨A, n, c, e, r.below hb, f⟩
theorem SRows.below {w w' : World} {B : Nat} {v : Value} {l : List Row} (h : SRows w B v l) (hb : Below w.heap.size w w') : SRows w' B v l := by
  obtain ⟨cs, e, h1, h2⟩ := h
  exact ⟨cs, e, owns_frame h1 (Frame'.of_below (S := fun _ => False) hb) (fun _ _ h => h), fun c hc => ⟨(h2 c hc).1.below hb, (h2 c hc).2⟩⟩
theorem SRows.slice {w : World} {B : Nat} {v : Value} {l : List Row} (h : SRows w B v l) : ∃ A c, v = .slice A l.length c := by
  obtain ⟨cs, e, h1, h2⟩ := h
  rcases h1.2 with ⟨e1, e2⟩ | ⟨g, cap, cur, e1, _⟩
  · exact ⟨none, 0, by rw [e1, e2]⟩
  · exact ⟨_, cap, e1⟩
theorem SRows.own_lt {w : World} {B : Nat} {v : Value} {l : List Row} (h : SRows w B v l) {k : Nat} (hk : v.ownBlock = some k) : B ≤ k ∧ k < w.heap.size := by
  obtain ⟨cs, e, h1, h2⟩ := h
  exact h1.lt k hk
/-- Marks outlive what is appended to the rows. -/
theorem SMarks.grown {w w' : World} {v v' : Value} {u : Value} {xs : List Int} (h : SMarks w v.ownBlock u xs) (hg : w.grownBy w' v.ownBlock) (hat : v'.ownBlock = v.ownBlock ∨ v'.ownBlock = none ∨ ∃ g, v'.ownBlock = some g ∧ w.heap.size ≤ g) : SMarks w' v'.ownBlock u xs := by
  obtain ⟨A, n, c, e, r, f⟩ := h
  refine ⟨A, n, c, e, r.frame (Frame'.of_grown hg) (fun hn => let ⟨b, off, e1, e2⟩ := f hn; ⟨b, off, e1, e2⟩), fun hn => ?_⟩
  obtain ⟨b, off, e1, e2⟩ := f hn
  refine ⟨b, off, e1, fun e3 => ?_⟩
  rcases hat with h | h | ⟨g, h, hge⟩
  · exact e2 (e3.trans h)
  · rw [h] at e3; cases e3
  · rw [h] at e3
    obtain ⟨b', off', e', hc⟩ := r.2.2.2.2 hn
    rw [e1] at e'
    cases e'
    have hlt : b < w.heap.size := World.block_lt_of_cell? w _ (hc 0 hn)
    cases e3
    omega
theorem SMarks.of {w : World} {g : Option Nat} {A : Option Addr} {n c : Nat} {xs : List Int} (h : RInts w A n c xs) (hg : 0 < n → ∃ b off, A = some ⟨b, off, none⟩ ∧ some b ≠ g) : SMarks w g (.slice A n c) xs := ⟨A, n, c, rfl, h, hg⟩

/-- Cells appended to owned rows, as owned rows. -/
theorem SRows.app {w w' : World} {B : Nat} {v v' : Value} {l : List Row} {cs : List (Value × Row)} (hcs : cs.map (·.2) = l) (hm : ∀ c ∈ cs, SMarks w v.ownBlock c.1 c.2.1 ∧ I64 c.2.2) {ds : List (Value × Row)} (hd : ∀ c ∈ ds, SMarks w v.ownBlock c.1 c.2.1 ∧ I64 c.2.2)
    (h1 : w'.ownsRow B 45 2 v' (l.length + ds.length) (cs.flatMap cell2 ++ ds.flatMap cell2)) (hg : w.grownBy w' v.ownBlock) (hat : v'.ownBlock = v.ownBlock ∨ v'.ownBlock = none ∨ ∃ g, v'.ownBlock = some g ∧ w.heap.size ≤ g) :
    SRows w' B v' (l ++ ds.map (·.2)) := by
  refine ⟨cs ++ ds, by rw [List.map_append, hcs], ?_, fun c hc => ?_⟩
  · rw [List.length_append, List.length_map, List.flatMap_append]; exact h1
  · rcases List.mem_append.1 hc with h | h
    · exact ⟨(hm c h).1.grown hg hat, (hm c h).2⟩
    · exact ⟨(hd c h).1.grown hg hat, (hd c h).2⟩

section
variable {ops : Array Oper} {rest : List Oper} {o : Oper} {a : Act} {w : World} {Q : Exit → Act → World → Prop}
/-- One row is appended. -/
theorem appRow (hgd : o.guard = none) {s x : Operand} (ho : o.op = .call { callee := .builtin .append, args := #[s, x], argTypes := #[22, 22] }) {B : Nat} {v : Value} {l : List Row} (hs : a.eval s = v) (hown : SRows w B v l)
    {gx : Nat} {u : Value} {y : Int} {ms : List Int} (hx : a.eval x = .slice (some ⟨gx, 0, none⟩) 1 1) (h0 : w.cell? ⟨gx, 0, none⟩ = some u) (h1 : w.cell? ⟨gx, 1, none⟩ = some (.int .i64 y)) (hu : SMarks w v.ownBlock u ms) (hy : I64 y) (hn : l.length + 1 ≤ 1000000) (hB : B ≤ w.heap.size)
    (h : ∀ v' w', SRows w' B v' (l ++ [(ms, y)]) → w.grownBy w' v.ownBlock → (v'.ownBlock = v.ownBlock ∨ ∃ g, v'.ownBlock = some g ∧ w.heap.size ≤ g) → wpList Tryz.prog ops Q rest (a.put o.dst v') w') : wpList Tryz.prog ops Q (o :: rest) a w := by
  obtain ⟨i0, hi, hz0, hz1, hz2⟩ := info_parts infoR
  obtain ⟨cs, hcs, hown, hm⟩ := hown
  have hu1 : u.oneCell' = true := by obtain ⟨A, n, c, e, _⟩ := hu; subst e; rfl
  refine wpList_append_own_at w hgd s x 22 ho B 45 i0 (.agg #[.slice none 0 0, .int .i64 0]) 2 32 Tryz.underlying22 hi hz0 hz1 hz2 rfl (by decide) v l.length (cs.flatMap cell2) hs hown ⟨gx, 0, none⟩ 1 1 [u, .int .i64 y] hx rfl (two_cells h0 h1) (two_one hu1 y) (by unfold maxLen; omega) (by omega) hB fun v' w' k1 k2 _ k3 => h v' w' ?_ k2 (k3.imp id fun e => ⟨_, e, Nat.le_refl _⟩)
  exact SRows.app hcs hm (ds := [(u, (ms, y))]) (by intro c hc; simp at hc; subst hc; exact ⟨hu, hy⟩) (by simpa [cell2] using k1) k2 (k3.imp id fun e => .inr ⟨_, e, Nat.le_refl _⟩)
end

end Go.Proofs.YthkkadmgcicedaaGreat
