/-
  Rows of one's own, whose numbers are written over: what stays. No program's function is named here.
-/
import Derived.Test.YtleniljhacnikaaTwi
namespace Go.Proofs.Ytleniljhacnikaa
open Go.RowKit Go.Proofs

/-- Rows whose numbers may be written: they lie in blocks from lo to hi; sl: each row's marks. -/
def Wip (w : World) (lo hi : Nat) (A : Option Addr) (n : Nat) (sl : Nat → Option Addr × Nat × Nat) : Prop :=
  0 < n → ∃ g off, A = some ⟨g, off, none⟩ ∧ lo ≤ g ∧ g < hi ∧ ∀ i, i < n → w.cell? ⟨g, off + i * 2, none⟩ = some (.slice (sl i).1 (sl i).2.1 (sl i).2.2) ∧ (∃ y, w.cell? ⟨g, off + i * 2 + 1, none⟩ = some (.int .i64 y)) ∧ w.frozen? ⟨g, off + i * 2 + 1, none⟩ = false ∧ (sl i).2.1 ≤ 9223372036854775807 ∧
    (0 < (sl i).2.1 → ∃ b ob, (sl i).1 = some ⟨b, ob, none⟩ ∧ lo ≤ b ∧ b < hi ∧ ∀ o, o < (sl i).2.1 → (∃ x, w.cell? ⟨b, ob + o, none⟩ = some (.int .i64 x)) ∧ w.frozen? ⟨b, ob + o, none⟩ = false)
theorem ORows.wip {w : World} {B : Nat} {A : Option Addr} {n c : Nat} {l : List Row} (h : ORows w B (.slice A n c) l) : ∃ sl, Wip w B w.heap.size A n sl := by
  have hr := h.rows
  have hz : l.length = n := hr.len
  obtain ⟨cs, e, h1, h2⟩ := h
  refine ⟨fun i => match cs[i]? with | some (.slice Am nm cm, _) => (Am, nm, cm) | _ => (none, 0, 0), fun hn => ?_⟩
  rcases h1.2 with ⟨e1, e2⟩ | ⟨g, cap, cur, e1, hB, hg, hn', hc, hs, ht⟩
  · cases e1; omega
  · cases e1
    have hgt : Has w g 48 cur := hg
    refine ⟨g, 0, rfl, hB, hgt.lt, fun i hi => ?_⟩
    have hlc : cs.length = l.length := by rw [← e]; simp
    have hi' : i < cs.length := by omega
    obtain ⟨⟨Am, nm, cm, e5, h5, h6⟩, _⟩ := h2 cs[i] (List.getElem_mem hi')
    have hcell : ∀ j, j < l.length * 2 → w.cell? ⟨g, j, none⟩ = (cs.flatMap cell2)[j]? := fun j hj => by
      rw [cell_of_row w g j cur _ (0, 0) hg, ← Array.getElem?_toList, ← ht, List.getElem?_take_of_lt hj]
    have hg2 := get_cell2 cs i
    have hci : cs[i]? = some (.slice Am nm cm, cs[i].2) := by rw [List.getElem?_eq_getElem hi', ← e5]
    rw [List.getElem?_eq_getElem hi'] at hg2
    simp only [hci]
    rw [Nat.zero_add]
    refine ⟨by rw [hcell _ (by omega), hg2.1, ← e5]; rfl, ⟨_, by rw [hcell _ (by omega), hg2.2]; rfl⟩, hgt.free _, h5.le, fun hm => ?_⟩
    obtain ⟨b, off, f1, f2, f3, f4⟩ := h6 hm
    subst f1
    have hx : ∀ o, o < nm → ∃ x, w.cell? ⟨b, off + o, none⟩ = some (.int .i64 x) := fun o ho => by
      obtain ⟨b', off', e', hc'⟩ := h5.2.2.2.2 hm
      cases e'
      exact ⟨_, hc' o ho⟩
    refine ⟨b, off, rfl, f2, ?_, fun o ho => ⟨hx o ho, f4 o ho⟩⟩
    obtain ⟨x, hx⟩ := hx 0 hm
    rcases Nat.lt_or_ge b w.heap.size with hb | hb
    · exact hb
    · unfold World.cell? at hx; simp only [Array.getElem?_eq_none hb] at hx; cases hx
/-- Row i. -/
theorem Wip.step {w : World} {lo hi : Nat} {A : Option Addr} {n : Nat} {sl : Nat → Option Addr × Nat × Nat} (h : Wip w lo hi A n sl) {i : Nat} (hn : i < n) {Am : Option Addr} {nm cm : Nat} (e : sl i = (Am, nm, cm)) : ∃ g off y, A = some ⟨g, off, none⟩ ∧ lo ≤ g ∧ g < hi ∧ w.cell? ⟨g, off + i * 2, none⟩ = some (.slice Am nm cm) ∧ w.cell? ⟨g, off + i * 2 + 1, none⟩ = some (.int .i64 y) ∧ w.frozen? ⟨g, off + i * 2 + 1, none⟩ = false ∧ nm ≤ 9223372036854775807 := by
  obtain ⟨g, off, e1, h1, h2, h3⟩ := h (by omega)
  obtain ⟨c0, ⟨y, c1⟩, c2, c3, _⟩ := h3 i hn
  rw [e] at c0 c3
  exact ⟨g, off, y, e1, h1, h2, c0, c1, c2, c3⟩
/-- Mark o of row i. -/
theorem Wip.mark {w : World} {lo hi : Nat} {A : Option Addr} {n : Nat} {sl : Nat → Option Addr × Nat × Nat} (h : Wip w lo hi A n sl) {i : Nat} (hn : i < n) {Am : Option Addr} {nm cm : Nat} (e : sl i = (Am, nm, cm)) {o : Nat} (ho : o < nm) : ∃ b off x, Am = some ⟨b, off, none⟩ ∧ lo ≤ b ∧ b < hi ∧ w.cell? ⟨b, off + o, none⟩ = some (.int .i64 x) ∧ w.frozen? ⟨b, off + o, none⟩ = false := by
  obtain ⟨g, off, e1, h1, h2, h3⟩ := h (by omega)
  obtain ⟨_, _, _, _, c4⟩ := h3 i hn
  rw [e] at c4
  obtain ⟨b, ob, f1, f2, f3, f4⟩ := c4 (show 0 < nm by omega)
  obtain ⟨⟨x, hx⟩, hf⟩ := f4 o ho
  exact ⟨b, ob, x, f1, f2, f3, hx, hf⟩
/-- A number is written over. -/
theorem Wip.put {w : World} {lo hi : Nat} {A : Option Addr} {n : Nat} {sl : Nat → Option Addr × Nat × Nat} (h : Wip w lo hi A n sl) {p : Addr} {x : Int} (hp : w.cell? p = some (.int .i64 x)) (y : Int) : Wip (w.setCell p (.int .i64 y)) lo hi A n sl := by
  have hint : ∀ {q : Addr}, (∃ z, w.cell? q = some (.int .i64 z)) → ∃ z', (w.setCell p (.int .i64 y)).cell? q = some (.int .i64 z') := fun {q} hq => by
    obtain ⟨z, hq⟩ := hq
    by_cases e : p = q
    · subst e; exact ⟨y, World.cell?_setCell_same w p _ hp⟩
    · exact ⟨z, by rw [World.cell?_setCell_other w p q _ e]; exact hq⟩
  intro hn
  obtain ⟨g, off, e, h1, h2, h3⟩ := h hn
  refine ⟨g, off, e, h1, h2, fun i hi => ?_⟩
  obtain ⟨c0, c1, c2, c3, c6⟩ := h3 i hi
  refine ⟨?_, hint c1, by rw [World.frozen?_setCell]; exact c2, c3, fun hm => ?_⟩
  · rw [World.cell?_setCell_other w p _ _ (fun e2 => by rw [← e2, hp] at c0; cases c0)]; exact c0
  · obtain ⟨b, ob, f1, f2, f3, f4⟩ := c6 hm
    refine ⟨b, ob, f1, f2, f3, fun o ho => ?_⟩
    obtain ⟨hu, hf⟩ := f4 o ho
    exact ⟨hint hu, by rw [World.frozen?_setCell]; exact hf⟩
theorem Wip.frame {S : Nat → Prop} {w w' : World} {lo hi : Nat} {A : Option Addr} {n : Nat} {sl : Nat → Option Addr × Nat × Nat} (h : Wip w lo hi A n sl) (k : Frame' S w w') (hS : ∀ b, lo ≤ b → b < hi → ¬ S b) (hs : hi ≤ w.heap.size) : Wip w' lo hi A n sl := by
  intro hn
  obtain ⟨g, off, e, h1, h2, h3⟩ := h hn
  have hg : ∀ b, lo ≤ b → b < hi → ∀ o, w'.cell? ⟨b, o, none⟩ = w.cell? ⟨b, o, none⟩ ∧ w'.frozen? ⟨b, o, none⟩ = w.frozen? ⟨b, o, none⟩ := fun b hb hb' o => by
    have := k.block b (by omega) (hS b hb hb')
    constructor
    · unfold World.cell?; simp only [this]
    · unfold World.frozen?; simp only [this]
  refine ⟨g, off, e, h1, h2, fun i hi => ?_⟩
  obtain ⟨c0, ⟨y, c1⟩, c2, c3, c6⟩ := h3 i hi
  refine ⟨by rw [(hg g h1 h2 _).1]; exact c0, ⟨y, by rw [(hg g h1 h2 _).1]; exact c1⟩, by rw [(hg g h1 h2 _).2]; exact c2, c3, fun hm => ?_⟩
  obtain ⟨b, ob, f1, f2, f3, f4⟩ := c6 hm
  exact ⟨b, ob, f1, f2, f3, fun o ho => ⟨by rw [(hg b f2 f3 _).1]; exact (f4 o ho).1, by rw [(hg b f2 f3 _).2]; exact (f4 o ho).2⟩⟩

/-- Rows that lie apart from the blocks from lo to hi. -/
def Aside (w : World) (lo hi : Nat) (A : Option Addr) (n c : Nat) (l : List Row) : Prop :=
  ∃ T B, ORows T B (.slice A n c) l ∧ Kept T B w ∧ (hi ≤ B ∨ T.heap.size ≤ lo)
theorem Aside.rows {w : World} {lo hi : Nat} {A : Option Addr} {n c : Nat} {l : List Row} (h : Aside w lo hi A n c l) : RRows w A n c l :=
  let ⟨_, _, h1, h2, _⟩ := h; h1.now h2
theorem Aside.below {w w' : World} {lo hi : Nat} {A : Option Addr} {n c : Nat} {l : List Row} (h : Aside w lo hi A n c l) (hb : Below w.heap.size w w') : Aside w' lo hi A n c l :=
  let ⟨T, B, h1, h2, h3⟩ := h; ⟨T, B, h1, h2.trans (Frame'.of_below hb), h3⟩
theorem Aside.wipe {w w' : World} {lo hi : Nat} {A : Option Addr} {n c : Nat} {l : List Row} (h : Aside w lo hi A n c l) (k : Frame' (fun b => lo ≤ b ∧ b < hi) w w') : Aside w' lo hi A n c l :=
  let ⟨T, B, h1, h2, h3⟩ := h; ⟨T, B, h1, h2.trans (k.mono fun b _ hb => by rcases h3 with h3 | h3 <;> omega), h3⟩
end Go.Proofs.Ytleniljhacnikaa
