/-
  The reference's With once more: its rows' marks are kept out of the blocks that X names.
-/
import Derived.Test.YtleniljhacnikaaGreatW9t
namespace Go.Proofs.YtleniljhacnikaaGreat
open Go.RowKit Go.Proofs
attribute [local go_sem] cell?_more cell?_alloc_some cell?_setCell_far frozen?_alloc_some frozen?_more

/-- Marks that are read alone, not in block g. -/
def XMarks (X : Nat → Prop) (w : World) (g : Option Nat) (u : Value) (xs : List Int) : Prop :=
  ∃ A n c, u = .slice A n c ∧ RInts w A n c xs ∧ (0 < n → ∃ b off, A = some ⟨b, off, none⟩ ∧ some b ≠ g ∧ ¬ X b)
/-- A slice of rows that a call owns, in a block from B on; the marks may be anywhere else. -/
def XRows (X : Nat → Prop) (w : World) (B : Nat) (v : Value) (l : List Row) : Prop :=
  ∃ cs : List (Value × Row), cs.map (·.2) = l ∧ w.ownsRow B 47 2 v l.length (cs.flatMap cell2) ∧ ∀ c ∈ cs, XMarks X w v.ownBlock c.1 c.2.1 ∧ I64 c.2.2

theorem XRows.nil_ {X : Nat → Prop} (w : World) (B : Nat) : XRows X w B (.slice none 0 0) [] := ⟨[], rfl, World.ownsRow_nil _ _ _ _, by simp⟩
theorem XRows.rows {X : Nat → Prop} {w : World} {B : Nat} {A : Option Addr} {n c : Nat} {l : List Row} (h : XRows X w B (.slice A n c) l) : RRows w A n c l := by
  obtain ⟨cs, e, h1, h2⟩ := h
  rcases h1.2 with ⟨e1, e2⟩ | ⟨g, cap, cur, e1, hB, hg, hn, hc, hs, ht⟩
  · cases e1
    have : l = [] := List.eq_nil_of_length_eq_zero e2
    subst this
    exact RRows.nil_ w
  · cases e1
    refine ⟨rfl, hn, by unfold maxLen at hc; omega, fun _ => ⟨g, 0, rfl, fun i hi => ?_⟩⟩
    have hlc : cs.length = l.length := by rw [← e]; simp
    have hi' : i < cs.length := by omega
    obtain ⟨h3, h4⟩ := h2 cs[i] (List.getElem_mem hi')
    obtain ⟨Am, nm, cm, e5, h5, _⟩ := h3
    have hl : l.getD i ([], 0) = cs[i].2 := by subst e; simp [List.getD, hi']
    have hcell : ∀ j, j < l.length * 2 → w.cell? ⟨g, j, none⟩ = (cs.flatMap cell2)[j]? := fun j hj => by
      rw [cell_of_row w g j cur _ (0, 0) hg, ← Array.getElem?_toList, ← ht, List.getElem?_take_of_lt hj]
    have hg2 := get_cell2 cs i
    rw [List.getElem?_eq_getElem hi'] at hg2
    rw [hl, Nat.zero_add]
    refine ⟨Am, nm, cm, ?_, h5, ?_, h4⟩
    · rw [hcell _ (by omega), hg2.1, ← e5]; rfl
    · rw [hcell _ (by omega), hg2.2]; rfl
theorem XMarks.below {X : Nat → Prop} {w w' : World} {g : Option Nat} {u : Value} {xs : List Int} (h : XMarks X w g u xs) (hb : Below w.heap.size w w') : XMarks X w' g u xs := by
  obtain ⟨A, n, c, e, r, f⟩ := h
  exact ⟨A, n, c, e, r.below hb, f⟩
theorem XRows.below {X : Nat → Prop} {w w' : World} {B : Nat} {v : Value} {l : List Row} (h : XRows X w B v l) (hb : Below w.heap.size w w') : XRows X w' B v l := by
  obtain ⟨cs, e, h1, h2⟩ := h
  exact ⟨cs, e, owns_frame h1 (Frame'.of_below (S := fun _ => False) hb) (fun _ _ h => h), fun c hc => ⟨(h2 c hc).1.below hb, (h2 c hc).2⟩⟩
theorem XRows.slice {X : Nat → Prop} {w : World} {B : Nat} {v : Value} {l : List Row} (h : XRows X w B v l) : ∃ A c, v = .slice A l.length c := by
  obtain ⟨cs, e, h1, h2⟩ := h
  rcases h1.2 with ⟨e1, e2⟩ | ⟨g, cap, cur, e1, _⟩
  · exact ⟨none, 0, by rw [e1, e2]⟩
  · exact ⟨_, cap, e1⟩
theorem XRows.own_lt {X : Nat → Prop} {w : World} {B : Nat} {v : Value} {l : List Row} (h : XRows X w B v l) {k : Nat} (hk : v.ownBlock = some k) : B ≤ k ∧ k < w.heap.size := by
  obtain ⟨cs, e, h1, h2⟩ := h
  exact h1.lt k hk
/-- Marks outlive what is appended to the rows. -/
theorem XMarks.grown {X : Nat → Prop} {w w' : World} {v v' : Value} {u : Value} {xs : List Int} (h : XMarks X w v.ownBlock u xs) (hg : w.grownBy w' v.ownBlock) (hat : v'.ownBlock = v.ownBlock ∨ v'.ownBlock = none ∨ ∃ g, v'.ownBlock = some g ∧ w.heap.size ≤ g) : XMarks X w' v'.ownBlock u xs := by
  obtain ⟨A, n, c, e, r, f⟩ := h
  refine ⟨A, n, c, e, r.frame (Frame'.of_grown hg) (fun hn => let ⟨b, off, e1, e2, _⟩ := f hn; ⟨b, off, e1, e2⟩), fun hn => ?_⟩
  obtain ⟨b, off, e1, e2, ex⟩ := f hn
  refine ⟨b, off, e1, fun e3 => ?_, ex⟩
  rcases hat with h | h | ⟨g, h, hge⟩
  · exact e2 (e3.trans h)
  · rw [h] at e3; cases e3
  · rw [h] at e3
    obtain ⟨b', off', e', hc⟩ := r.2.2.2.2 hn
    rw [e1] at e'
    cases e'
    have hlt : b < w.heap.size := World.block_lt_of_cell? w _ (hc 0 hn)
    cases e3
    omega
theorem XMarks.of {X : Nat → Prop} {w : World} {g : Option Nat} {A : Option Addr} {n c : Nat} {xs : List Int} (h : RInts w A n c xs) (hg : 0 < n → ∃ b off, A = some ⟨b, off, none⟩ ∧ some b ≠ g ∧ ¬ X b) : XMarks X w g (.slice A n c) xs := ⟨A, n, c, rfl, h, hg⟩

/-- Cells appended to owned rows, as owned rows. -/
theorem XRows.app {X : Nat → Prop} {w w' : World} {B : Nat} {v v' : Value} {l : List Row} {cs : List (Value × Row)} (hcs : cs.map (·.2) = l) (hm : ∀ c ∈ cs, XMarks X w v.ownBlock c.1 c.2.1 ∧ I64 c.2.2) {ds : List (Value × Row)} (hd : ∀ c ∈ ds, XMarks X w v.ownBlock c.1 c.2.1 ∧ I64 c.2.2)
    (h1 : w'.ownsRow B 47 2 v' (l.length + ds.length) (cs.flatMap cell2 ++ ds.flatMap cell2)) (hg : w.grownBy w' v.ownBlock) (hat : v'.ownBlock = v.ownBlock ∨ v'.ownBlock = none ∨ ∃ g, v'.ownBlock = some g ∧ w.heap.size ≤ g) :
    XRows X w' B v' (l ++ ds.map (·.2)) := by
  refine ⟨cs ++ ds, by rw [List.map_append, hcs], ?_, fun c hc => ?_⟩
  · rw [List.length_append, List.length_map, List.flatMap_append]; exact h1
  · rcases List.mem_append.1 hc with h | h
    · exact ⟨(hm c h).1.grown hg hat, (hm c h).2⟩
    · exact ⟨(hd c h).1.grown hg hat, (hd c h).2⟩

section
variable {ops : Array Oper} {rest : List Oper} {o : Oper} {a : Act} {w : World} {Q : Exit → Act → World → Prop}
/-- One row is appended. -/
theorem appRowX {X : Nat → Prop} (hgd : o.guard = none) {s x : Operand} (ho : o.op = .call { callee := .builtin .append, args := #[s, x], argTypes := #[22, 22] }) {B : Nat} {v : Value} {l : List Row} (hs : a.eval s = v) (hown : XRows X w B v l)
    {gx : Nat} {u : Value} {y : Int} {ms : List Int} (hx : a.eval x = .slice (some ⟨gx, 0, none⟩) 1 1) (h0 : w.cell? ⟨gx, 0, none⟩ = some u) (h1 : w.cell? ⟨gx, 1, none⟩ = some (.int .i64 y)) (hu : XMarks X w v.ownBlock u ms) (hy : I64 y) (hn : l.length + 1 ≤ 1000000) (hB : B ≤ w.heap.size)
    (h : ∀ v' w', XRows X w' B v' (l ++ [(ms, y)]) → w.grownBy w' v.ownBlock → (v'.ownBlock = v.ownBlock ∨ ∃ g, v'.ownBlock = some g ∧ w.heap.size ≤ g) → wpList Tryz.prog ops Q rest (a.put o.dst v') w') : wpList Tryz.prog ops Q (o :: rest) a w := by
  obtain ⟨i0, hi, hz0, hz1, hz2⟩ := info_parts infoR
  obtain ⟨cs, hcs, hown, hm⟩ := hown
  have hu1 : u.oneCell' = true := by obtain ⟨A, n, c, e, _⟩ := hu; subst e; rfl
  refine wpList_append_own_at w hgd s x 22 ho B 47 i0 (.agg #[.slice none 0 0, .int .i64 0]) 2 32 Tryz.underlying22 hi hz0 hz1 hz2 rfl (by decide) v l.length (cs.flatMap cell2) hs hown ⟨gx, 0, none⟩ 1 1 [u, .int .i64 y] hx rfl (two_cells h0 h1) (two_one hu1 y) (by unfold maxLen; omega) (by omega) hB fun v' w' k1 k2 _ k3 => h v' w' ?_ k2 (k3.imp id fun e => ⟨_, e, Nat.le_refl _⟩)
  exact XRows.app hcs hm (ds := [(u, (ms, y))]) (by intro c hc; simp at hc; subst hc; exact ⟨hu, hy⟩) (by simpa [cell2] using k1) k2 (k3.imp id fun e => .inr ⟨_, e, Nat.le_refl _⟩)
end

/-- Rows that lie anywhere appended to rows of one's own whose marks are shared. -/
theorem run_appRowsX {X : Nat → Prop} (w : World) (ty : TypeId) {B : Nat} {v : Value} {l : List Row} (hown : XRows X w B v l) {A : Option Addr} {n c : Nat} {l' : List Row} (hr : RRows w A n c l') (hne : ∀ c ∈ l', True) (hn : l.length + n ≤ 1000000) (hB : B ≤ w.heap.size)
    (hsh : ∀ i, i < n → ∀ b off, A = some ⟨b, off, none⟩ → ∀ Am nm cm, w.cell? ⟨b, off + i * 2, none⟩ = some (.slice Am nm cm) → 0 < nm → ∃ b' off', Am = some ⟨b', off', none⟩ ∧ some b' ≠ v.ownBlock ∧ ¬ X b') :
    ∃ v' w', (Builtin.append_ #[22, 22] ty #[v, .slice A n c]).run Tryz.prog w = .ok v' w' ∧ XRows X w' B v' (l ++ l') ∧ w.grownBy w' v.ownBlock ∧ (v'.ownBlock = v.ownBlock ∨ v'.ownBlock = some w.heap.size) := by
  obtain ⟨i0, hi, hz0, hz1, hz2⟩ := info_parts infoR
  obtain ⟨cs, hcs, hown, hm⟩ := hown
  by_cases h0 : 0 < n
  · obtain ⟨ds, hds, hcell, hmk⟩ := hr.cells h0
    have hdl : ds.length = n := by have := hr.len; rw [← hds] at this; simpa using this
    obtain ⟨b, off, eA, _⟩ := hr.2.2.2 h0
    obtain ⟨v', w', k1, k2, k3, k4⟩ := run_appU w B 22 ty 47 i0 (.agg #[.slice none 0 0, .int .i64 0]) 2 32 Tryz.underlying22 hi hz0 hz1 hz2 rfl (by decide) v l.length (cs.flatMap cell2) hown A n c (ds.flatMap cell2) (by rw [length_cell2, hdl]) (fun e => by rw [e] at eA; cases eA)
      hcell (one_cell2 fun i x hx => by obtain ⟨⟨Am, nm, cm, e, _⟩, _⟩ := hmk i x hx; exact ⟨Am, nm, cm, e⟩) (by unfold maxLen; omega) (by omega) hB
    refine ⟨v', w', k1, ?_, k3, k4⟩
    rw [← hds]
    refine XRows.app hcs hm (ds := ds) (fun c hc => ?_) (by rw [hdl]; exact k2) k3 (k4.imp id fun e => .inr ⟨_, e, Nat.le_refl _⟩)
    obtain ⟨i, hi⟩ := List.getElem?_of_mem hc
    obtain ⟨⟨Am, nm, cm, e, hrm⟩, hy⟩ := hmk i c hi
    refine ⟨⟨Am, nm, cm, e, hrm, fun hnm => ?_⟩, hy⟩
    have hin : i < n := by have := (List.getElem?_eq_some_iff.1 hi).1; omega
    refine hsh i hin b off eA Am nm cm ?_ hnm
    have g := get_cell2 ds i
    rw [hi] at g
    have := hcell _ eA (i * 2) _ (by rw [g.1]; rfl)
    have hadd : (⟨b, off, none⟩ : Addr).add (i * 2) = ⟨b, off + i * 2, none⟩ := by unfold Addr.add; split <;> simp_all
    rw [hadd] at this
    rw [this]
    exact congrArg some e
  · have hl' : l' = [] := List.eq_nil_of_length_eq_zero (by have := hr.len; omega)
    subst hl'
    obtain rfl : n = 0 := by omega
    obtain ⟨v', w', k1, k2, k3, k4⟩ := run_appU w B 22 ty 47 i0 (.agg #[.slice none 0 0, .int .i64 0]) 2 32 Tryz.underlying22 hi hz0 hz1 hz2 rfl (by decide) v l.length (cs.flatMap cell2) hown A 0 c [] rfl (fun _ => rfl) (fun a e j u h => by simp at h) (by simp) (by unfold maxLen; omega) (by omega) hB
    refine ⟨v', w', k1, ?_, k3, k4⟩
    have := XRows.app hcs hm (ds := []) (by simp) (by simpa using k2) k3 (k4.imp id fun e => .inr ⟨_, e, Nat.le_refl _⟩)
    simpa using this
theorem XRows.slice' {X : Nat → Prop} {w : World} {B : Nat} {v : Value} {l : List Row} (h : XRows X w B v l) : ∃ A n c, v = .slice A n c := let ⟨A, c, e⟩ := h.slice; ⟨A, _, c, e⟩
/-- The rows' marks are in no block that X names. -/
def Av (X : Nat → Prop) (w : World) (A : Option Addr) (n : Nat) : Prop := ∀ i, i < n → ∀ b off, A = some ⟨b, off, none⟩ → ∀ Am nm cm, w.cell? ⟨b, off + i * 2, none⟩ = some (.slice Am nm cm) → 0 < nm → ∀ b' off', Am = some ⟨b', off', none⟩ → ¬ X b'
theorem sliced_av {X : Nat → Prop} {w : World} {A A' : Option Addr} {n c i n2 c2 : Nat} {l : List Row} (hA : Hid (sliced A i n c 2 = .slice A' n2 c2)) (h : RRows w A n c l) (hav : Av X w A n) : Av X w A' n2 := by
  have e := hA.out
  unfold sliced at e
  injection e with e1 e2 e3
  intro j hj b off eA Am nm cm hc hn b' off' eb
  have hj' : i + j < n := by omega
  have hle := h.2.1
  obtain ⟨b0, off0, e0, _⟩ := h.2.2.2 (by omega)
  rw [if_neg (by omega), e0] at e1
  rw [eA] at e1
  have hadd : (⟨b0, off0, none⟩ : Addr).add (i * 2) = ⟨b0, off0 + i * 2, none⟩ := by unfold Addr.add; split <;> simp_all
  rw [Option.map_some, hadd] at e1
  injection e1 with e1
  injection e1 with x1 x2
  subst x1 x2
  exact hav (i + j) hj' b0 off0 e0 Am nm cm (by rw [← hc]; congr 2; omega) hn b' off' eb
/-- Owned rows' marks are in no block that X names. -/
theorem XRows.av {X : Nat → Prop} {w : World} {B : Nat} {A : Option Addr} {n c : Nat} {l : List Row} (h : XRows X w B (.slice A n c) l) : Av X w A n := by
  intro i hi b off eA Am nm cm hc hn b' off' eb
  have hz : l.length = n := h.rows.len
  obtain ⟨cs, e, h1, h2⟩ := h
  rcases h1.2 with ⟨e1, e2⟩ | ⟨g, cap, cur, e1, hB, hg, hn', hcc, hs, ht⟩
  · cases e1; omega
  · cases e1
    injection eA with eA
    injection eA with x1 x2
    subst x2
    subst x1
    have hlc : cs.length = l.length := by rw [← e]; simp
    have hi' : i < cs.length := by omega
    obtain ⟨⟨Ac, nc, cc, e5, h5, h6⟩, _⟩ := h2 cs[i] (List.getElem_mem hi')
    have hcell : w.cell? ⟨g, i * 2, none⟩ = (cs.flatMap cell2)[i * 2]? := by
      rw [cell_of_row w g (i * 2) cur _ (0, 0) hg, ← Array.getElem?_toList, ← ht, List.getElem?_take_of_lt (by omega)]
    have hg2 := get_cell2 cs i
    rw [List.getElem?_eq_getElem hi'] at hg2
    rw [Nat.zero_add, hcell, hg2.1] at hc
    simp only [Option.map_some, e5, Option.some.injEq, Value.slice.injEq] at hc
    obtain ⟨rfl, rfl, rfl⟩ := hc
    obtain ⟨b2, off2, e6, _, e7⟩ := h6 hn
    rw [eb] at e6
    cases e6
    exact e7
/-- Old rows appended to rows of one's own. -/
theorem run_appOldX {X : Nat → Prop} (w0 w : World) (ty : TypeId) {B : Nat} {v : Value} {l : List Row} (hown : XRows X w B v l) {A : Option Addr} {n c : Nat} {l' : List Row} (hr : RRows w0 A n c l') (hb : Below w0.heap.size w0 w) (hn : l.length + n ≤ 1000000) (hB : B ≤ w.heap.size) (hB0 : w0.heap.size ≤ B) (hav : Av X w0 A n) :
    ∃ v' w', (Builtin.append_ #[22, 22] ty #[v, .slice A n c]).run Tryz.prog w = .ok v' w' ∧ XRows X w' B v' (l ++ l') ∧ w.grownBy w' v.ownBlock ∧ (v'.ownBlock = v.ownBlock ∨ v'.ownBlock = some w.heap.size) := by
  refine run_appRowsX w ty hown (hr.below hb) (fun _ _ => trivial) hn hB fun i hi b off e Am nm cm hc hnm => ?_
  obtain ⟨b', off', e', hcs⟩ := hr.2.2.2 (by omega)
  rw [e] at e'
  cases e'
  obtain ⟨Am', nm', cm', k1, k2, _⟩ := hcs i hi
  have k1' := keep_cell hb k1
  rw [hc] at k1'
  cases k1'
  obtain ⟨b2, off2, e2, hc2⟩ := k2.2.2.2.2 hnm
  refine ⟨b2, off2, e2, fun e3 => ?_, hav i hi b off e _ _ _ k1 hnm b2 off2 e2⟩
  have h1 : b2 < w0.heap.size := World.block_lt_of_cell? w0 _ (hc2 0 hnm)
  have h2 := (hown.own_lt e3.symm).1
  omega

/-- What With hands back. -/
def WithPostX (X : Nat → Prop) (w : World) (l' : List Row) (e : Ending) (w' : World) : Prop := ∃ v, e = .returned v ∧ XRows X w' w.heap.size v l' ∧ Below w.heap.size w w'


set_option maxRecDepth 100000 in
set_option maxHeartbeats 4000000 in
theorem with_anyX {X : Nat → Prop} (A : Option Addr) (n cp : Nat) (l : List Row) (A' : Option Addr) (n' c' : Nat) (m : List Int) (y : Int) (w : World) (h : RRows w A n cp l) (h' : RInts w A' n' c' m) (hn : n ≤ 1000) (hn' : n' ≤ 1000) (hy : I64 y) (hX : ∀ b, X b → b < w.heap.size) (hav : Av X w A n) :
    Calls Tryz.prog 28 #[.slice A n cp, .slice A' n' c', .int .i64 y] w (WithPostX X w (withS l m y)) := by
  have hle := h.le
  have hl := h.len
  have hml := hide h'.len
  have hpl := plS_le l m
  go_enter Tryz.func28, Tryz.ntmps28
  go_wp2_with fail
  go_loopw [7, 8] (fun u i wr => ∃ (t : Nat) (v : Value), t ≤ plS l m ∧ v = u ∧ i = .int .i64 t ∧ XRows X wr w.heap.size v (l.take t) ∧ Below w.heap.size w wr) (fun _ i _ => n - (intOf i).toNat)
  case atStart => exact ⟨0, _, Nat.zero_le _, rfl, rfl, by rw [List.take_zero]; exact XRows.nil_ _ _, Below.refl _ _⟩
  case round =>
    obtain ⟨t, v, ht, rfl, rfl, hO, hb⟩ := hrel
    have hlt' : (l.take t).length = t := by rw [List.length_take]; omega
    have hB := hb.size
    by_cases hlp : t < plS l m
    · have hlt : t < n := by omega
      obtain ⟨b, off, Am, nm, cm, ms, y0, rfl, hc0, hm0, hc1, hd, hat, hy0⟩ := h.step hlt
      have hah : aheadB ms m = true := by
        have := plS_before hat.out hlp
        simpa [aheadB] using this
      have hat2 : Hid (l.take (t + 1) = l.take t ++ [(ms, y0)]) := by unfold Hid; rw [List.take_add_one, hat.out]; rfl
      have hmb : 0 < nm → ∃ b' off', Am = some ⟨b', off', none⟩ ∧ b' < w.heap.size := fun hnm => by
        obtain ⟨b', off', e, hc⟩ := hm0.2.2.2.2 hnm
        exact ⟨b', off', e, World.block_lt_of_cell? w _ (hc 0 hnm)⟩
      have Hmb := hide hmb
      clear hmb
      have q0 := keep_cell hb hc0
      go_wp2_with fail
      refine (ahead_any Am A' nm cm n' c' ms m _ (hm0.below hb) (h'.below hb)).mono ?_
      rintro e w2 ⟨rfl, hbw⟩
      rw [hah]
      have hb2 := Below_trans' hb hb.size hbw
      have hO2 := hO.below hbw
      have q0 := keep_cell hb2 hc0
      have q1 := keep_cell hb2 hc1
      have hu : XMarks X (w2.alloc (.cells #[.slice Am nm cm, .int .i64 y0] 47)) v.ownBlock (.slice Am nm cm) ms := XMarks.of ((hm0.below hb2).below ((Below.refl _ _).alloc (Nat.le_refl _) _)) (fun hnm => by
        obtain ⟨b', off', e, hlt⟩ := Hmb.out hnm
        exact ⟨b', off', e, fun e2 => by have := (hO.own_lt e2.symm).1; omega, hav t (by omega) _ _ rfl _ _ _ hc0 hnm _ _ e⟩)
      have hO3 := hO2.below ((Below.refl _ _).alloc (Nat.le_refl _) (.cells #[.slice Am nm cm, .int .i64 y0] 47))
      have hb3 := hb2.alloc hb2.size (.cells #[.slice Am nm cm, .int .i64 y0] 47)
      have hol := fun k hk => (hO3.own_lt (k := k) hk).1
      clear hO hb hO2 hbw
      go_wp2_with (at_builtin; refine appRowX rfl rfl rfl hO3 rfl ((Has.new w2 47 #[.slice Am nm cm, .int .i64 y0]).cell 0) ((Has.new w2 47 #[.slice Am nm cm, .int .i64 y0]).cell 1) hu ⟨by omega, by omega⟩ (by omega) hb3.size ?_; intro v4 w4 hO4 hg4 _)
      rw [← hat2.out] at hO4
      have hb4 := Below.grown' hb3 hg4 hb3.size (fun k hk => hol k hk)
      clear hb3 hO3 hg4 hb2 hu
      go_roundw
      case rel => exact ⟨t + 1, _, by omega, rfl, by go_num, hO4, hb4⟩
      case measure => simp [intOf] <;> omega
    · obtain rfl : t = plS l m := by omega
      have hpe : Hid (plS l m = plS l m) := rfl
      obtain ⟨p, hp⟩ : ∃ p, plS l m = p := ⟨_, rfl⟩
      have HW := hide (show withS l m y = l.take (plS l m) ++ ((if 0 < y then [(m, y)] else []) ++ l.drop (plS l m + if foundS l m = true then 1 else 0)) from rfl)
      have HF1 := hide (fun ms y0 (h : l[plS l m]? = some (ms, y0)) => foundS_at h)
      have HP := hide (fun r (h : l[plS l m]? = some r) => plS_at h)
      rw [hp] at HW HF1 HP hO hlt' hpl
      rw [hp]
      have hpp := hide hp
      clear hp hlp ht hpe
      by_cases hlt : p < n
      · obtain ⟨b, off, Am, nm, cm, ms, y0, rfl, hc0, hm0, hc1, hd, hat, hy0⟩ := h.step hlt
        have hah : aheadB ms m = false := by
          have := HP.out _ hat.out
          simpa [aheadB] using this
        have q0 := keep_cell hb hc0
        go_wp2_with fail
        refine (ahead_any Am A' nm cm n' c' ms m _ (hm0.below hb) (h'.below hb)).mono ?_
        rintro e w2 ⟨rfl, hbw⟩
        rw [hah]
        have hb2 := Below_trans' hb hb.size hbw
        have hO2 := hO.below hbw
        have q0 := keep_cell hb2 hc0
        clear hO hb hbw
        obtain ⟨W2, hW2⟩ : ∃ W2, W2 = w2 := ⟨_, rfl⟩
        subst hW2
        have Hf := HF1.out ms y0 hat.out
        clear q0
        by_cases hy1 : 0 < y
        · have hbz : Below W2.heap.size W2 (W2.alloc (.cells #[] 3)) := (Below.refl _ _).alloc (Nat.le_refl _) _
          have hOz : Own (W2.alloc (.cells #[] 3)) W2.heap.size (.slice (some ⟨W2.heap.size, 0, none⟩) 0 0) [] := World.ownsRow_made W2 #[] 0 (Nat.le_refl _) (by unfold maxLen; omega) rfl
          have h'2 := (h'.below hb2).below hbz
          obtain ⟨v4, w4, h41, h42, h43, h44⟩ := run_appInts _ 26 hOz h'2 (by simp; have := h'.len; omega) (by simp)
          have hF4 : Frame' (fun b => b = W2.heap.size) (W2.alloc (.cells #[] 3)) w4 := (Frame'.of_grown h43).mono (fun k _ e => by cases e; rfl)
          have hb4 : Below W2.heap.size W2 w4 := Frame'.below hbz hF4 (fun k e => by have e : k = W2.heap.size := e; omega) (by simp)
          rw [List.nil_append] at h42
          obtain ⟨A4, c4, rfl⟩ := h42.slice
          have hr4 := h42.ints (fun x hx => h'.bd hx)
          have hmk : Hid (0 < m.length → ∃ b off, A4 = some ⟨b, off, none⟩ ∧ W2.heap.size ≤ b) := fun hn => by
            rcases h42.2 with ⟨e, e2⟩ | ⟨g, cap, cur, e, hg, _⟩
            · omega
            · cases e; exact ⟨g, 0, rfl, hg⟩
          have hba : Below w4.heap.size w4 (w4.alloc (.cells #[.slice A4 m.length c4, .int .i64 y] 47)) := (Below.refl _ _).alloc (Nat.le_refl _) _
          have hb5 := Below_trans' hb2 hb2.size (Below_trans' hb4 hb4.size hba)
          have hO5 := hO2.below (Below_trans' hb4 hb4.size hba)
          have hu : XMarks X (w4.alloc (.cells #[.slice A4 m.length c4, .int .i64 y] 47)) v.ownBlock (.slice A4 m.length c4) m := XMarks.of (hr4.below hba) (fun hn => by
            obtain ⟨b, off, e, hb⟩ := hmk.out hn
            exact ⟨b, off, e, fun e2 => by have := (hO2.own_lt e2.symm).2; omega, fun hx => by have := hX b hx; have := hb2.size; omega⟩)
          have r0 := (Has.new w4 47 #[.slice A4 m.length c4, .int .i64 y]).cell 0
          have r1 := (Has.new w4 47 #[.slice A4 m.length c4, .int .i64 y]).cell 1
          have hol := fun k hk => (hO5.own_lt (k := k) hk).1
          clear hF4 hr4 h42 h43 h44 hmk hba h'2 hOz hbz hb4 hO2
          go_upto_region 8 with (first
            | (at_builtin; refine list_app (s := .tmp 34) (x := .tmp 35) rfl rfl rfl rfl h41 ?_)
            | (at_builtin; refine appRowX (s := .tmp 33) (x := .tmp 39) rfl rfl rfl hO5 rfl r0 r1 hu hy (by omega) hb5.size ?_; intro v6 w6 hO6 hg6 _))
          have hb6 := Below.grown' hb5 hg6 hb5.size hol
          obtain ⟨Av6, nv6, cv6, rfl⟩ := hO6.slice'
          clear hO5 hg6 hb5 hb2 h41 hu r0 r1 hol
          have q0 := keep_cell hb6 hc0
          go_wp2_with fail
          refine (ints_any Am A' nm cm n' c' ms m _ (hm0.below hb6) (h'.below hb6)).mono ?_
          rintro e w7 ⟨rfl, hbw⟩
          have hb7 := Below_trans' hb6 hb6.size hbw
          have hO7 := hO6.below hbw
          clear q0 hbw
          cases hme : ms == m with
          | true =>
            rw [hme] at Hf
            obtain ⟨A6, n6, c6, hA6, hn6, hr6⟩ := sliced_rows h (show (p + 1) ≤ n by omega)
            obtain ⟨v8, w8, h81, h82, h83, h84⟩ := run_appOldX w w7 22 hO7 hr6 hb7 (by simp; omega) hb7.size (Nat.le_refl _) (sliced_av hA6 h hav)
            have hB8 := Below.grown' hb7 h83 hb7.size (fun k hk => (hO7.own_lt hk).1)
            clear hO7 hO6 hb6 hr6 h83 h84
            go_upto_region 10 with fail
            go_wp2_with (first
              | (refine sliceRows (x := .tmp 57) (lo := .tmp 58) rfl rfl rfl rfl ?_ ?_ hA6 ?_; omega; omega)
              | (at_builtin; refine list_app (s := .tmp 56) (x := .tmp 59) rfl rfl rfl rfl h81 ?_))
            go_ret
            refine ⟨v8, rfl, ?_, hB8⟩
            rw [HW.out, if_pos (by omega), Hf]
            simpa using h82
          | false =>
            rw [hme] at Hf
            obtain ⟨A6, n6, c6, hA6, hn6, hr6⟩ := sliced_rows h (show p ≤ n by omega)
            obtain ⟨v8, w8, h81, h82, h83, h84⟩ := run_appOldX w w7 22 hO7 hr6 hb7 (by simp; omega) hb7.size (Nat.le_refl _) (sliced_av hA6 h hav)
            have hB8 := Below.grown' hb7 h83 hb7.size (fun k hk => (hO7.own_lt hk).1)
            clear hO7 hO6 hb6 hr6 h83 h84
            go_upto_region 10 with fail
            go_wp2_with (first
              | (refine sliceRows (x := .tmp 57) (lo := .tmp 58) rfl rfl rfl rfl ?_ ?_ hA6 ?_; omega; omega)
              | (at_builtin; refine list_app (s := .tmp 56) (x := .tmp 59) rfl rfl rfl rfl h81 ?_))
            go_ret
            refine ⟨v8, rfl, ?_, hB8⟩
            rw [HW.out, if_pos (by omega), Hf]
            simpa using h82
        · go_upto_region 8 with fail
          obtain ⟨w6, hw6⟩ : ∃ w6, w6 = W2 := ⟨_, rfl⟩
          subst hw6
          have hb6 := hb2
          have hO6 := hO2
          obtain ⟨Av6, nv6, cv6, rfl⟩ := hO6.slice'
          clear hb2 hO2
          have q0 := keep_cell hb6 hc0
          go_wp2_with fail
          refine (ints_any Am A' nm cm n' c' ms m _ (hm0.below hb6) (h'.below hb6)).mono ?_
          rintro e w7 ⟨rfl, hbw⟩
          have hb7 := Below_trans' hb6 hb6.size hbw
          have hO7 := hO6.below hbw
          clear q0 hbw
          cases hme : ms == m with
          | true =>
            rw [hme] at Hf
            obtain ⟨A6, n6, c6, hA6, hn6, hr6⟩ := sliced_rows h (show (p + 1) ≤ n by omega)
            obtain ⟨v8, w8, h81, h82, h83, h84⟩ := run_appOldX w w7 22 hO7 hr6 hb7 (by simp; omega) hb7.size (Nat.le_refl _) (sliced_av hA6 h hav)
            have hB8 := Below.grown' hb7 h83 hb7.size (fun k hk => (hO7.own_lt hk).1)
            clear hO7 hO6 hb6 hr6 h83 h84
            go_upto_region 10 with fail
            go_wp2_with (first
              | (refine sliceRows (x := .tmp 57) (lo := .tmp 58) rfl rfl rfl rfl ?_ ?_ hA6 ?_; omega; omega)
              | (at_builtin; refine list_app (s := .tmp 56) (x := .tmp 59) rfl rfl rfl rfl h81 ?_))
            go_ret
            refine ⟨v8, rfl, ?_, hB8⟩
            rw [HW.out, if_neg (by omega), Hf]
            simpa using h82
          | false =>
            rw [hme] at Hf
            obtain ⟨A6, n6, c6, hA6, hn6, hr6⟩ := sliced_rows h (show p ≤ n by omega)
            obtain ⟨v8, w8, h81, h82, h83, h84⟩ := run_appOldX w w7 22 hO7 hr6 hb7 (by simp; omega) hb7.size (Nat.le_refl _) (sliced_av hA6 h hav)
            have hB8 := Below.grown' hb7 h83 hb7.size (fun k hk => (hO7.own_lt hk).1)
            clear hO7 hO6 hb6 hr6 h83 h84
            go_upto_region 10 with fail
            go_wp2_with (first
              | (refine sliceRows (x := .tmp 57) (lo := .tmp 58) rfl rfl rfl rfl ?_ ?_ hA6 ?_; omega; omega)
              | (at_builtin; refine list_app (s := .tmp 56) (x := .tmp 59) rfl rfl rfl rfl h81 ?_))
            go_ret
            refine ⟨v8, rfl, ?_, hB8⟩
            rw [HW.out, if_neg (by omega), Hf]
            simpa using h82
      · have hpn : p = n := by omega
        have Hf : foundS l m = false := by
          have e : plS l m = p := hpp.out
          rw [← e] at hpn
          exact foundS_end (by omega)
        obtain ⟨W2, hW2⟩ : ∃ W2, W2 = wr := ⟨_, rfl⟩
        subst hW2
        have hb2 := hb
        have hO2 := hO
        have hpn1 : p ≤ n := by omega
        have hpn2 : n ≤ p := by omega
        have hpn3 : ¬ (p : Int) < (n : Int) := by omega
        clear hb hO hpp hpn hlt
        by_cases hy1 : 0 < y
        · have hbz : Below W2.heap.size W2 (W2.alloc (.cells #[] 3)) := (Below.refl _ _).alloc (Nat.le_refl _) _
          have hOz : Own (W2.alloc (.cells #[] 3)) W2.heap.size (.slice (some ⟨W2.heap.size, 0, none⟩) 0 0) [] := World.ownsRow_made W2 #[] 0 (Nat.le_refl _) (by unfold maxLen; omega) rfl
          have h'2 := (h'.below hb2).below hbz
          obtain ⟨v4, w4, h41, h42, h43, h44⟩ := run_appInts _ 26 hOz h'2 (by simp; have := h'.len; omega) (by simp)
          have hF4 : Frame' (fun b => b = W2.heap.size) (W2.alloc (.cells #[] 3)) w4 := (Frame'.of_grown h43).mono (fun k _ e => by cases e; rfl)
          have hb4 : Below W2.heap.size W2 w4 := Frame'.below hbz hF4 (fun k e => by have e : k = W2.heap.size := e; omega) (by simp)
          rw [List.nil_append] at h42
          obtain ⟨A4, c4, rfl⟩ := h42.slice
          have hr4 := h42.ints (fun x hx => h'.bd hx)
          have hmk : Hid (0 < m.length → ∃ b off, A4 = some ⟨b, off, none⟩ ∧ W2.heap.size ≤ b) := fun hn => by
            rcases h42.2 with ⟨e, e2⟩ | ⟨g, cap, cur, e, hg, _⟩
            · omega
            · cases e; exact ⟨g, 0, rfl, hg⟩
          have hba : Below w4.heap.size w4 (w4.alloc (.cells #[.slice A4 m.length c4, .int .i64 y] 47)) := (Below.refl _ _).alloc (Nat.le_refl _) _
          have hb5 := Below_trans' hb2 hb2.size (Below_trans' hb4 hb4.size hba)
          have hO5 := hO2.below (Below_trans' hb4 hb4.size hba)
          have hu : XMarks X (w4.alloc (.cells #[.slice A4 m.length c4, .int .i64 y] 47)) v.ownBlock (.slice A4 m.length c4) m := XMarks.of (hr4.below hba) (fun hn => by
            obtain ⟨b, off, e, hb⟩ := hmk.out hn
            exact ⟨b, off, e, fun e2 => by have := (hO2.own_lt e2.symm).2; omega, fun hx => by have := hX b hx; have := hb2.size; omega⟩)
          have r0 := (Has.new w4 47 #[.slice A4 m.length c4, .int .i64 y]).cell 0
          have r1 := (Has.new w4 47 #[.slice A4 m.length c4, .int .i64 y]).cell 1
          have hol := fun k hk => (hO5.own_lt (k := k) hk).1
          clear hF4 hr4 h42 h43 h44 hmk hba h'2 hOz hbz hb4 hO2
          go_upto_region 8 with (first
            | (at_builtin; refine list_app (s := .tmp 34) (x := .tmp 35) rfl rfl rfl rfl h41 ?_)
            | (at_builtin; refine appRowX (s := .tmp 33) (x := .tmp 39) rfl rfl rfl hO5 rfl r0 r1 hu hy (by omega) hb5.size ?_; intro v6 w6 hO6 hg6 _))
          have hb6 := Below.grown' hb5 hg6 hb5.size hol
          obtain ⟨Av6, nv6, cv6, rfl⟩ := hO6.slice'
          clear hO5 hg6 hb5 hb2 h41 hu r0 r1 hol
          obtain ⟨w7, hw7⟩ : ∃ w7, w7 = w6 := ⟨_, rfl⟩
          subst hw7
          have hb7 := hb6
          have hO7 := hO6
          obtain ⟨A6, n6, c6, hA6, hn6, hr6⟩ := sliced_rows h (show p ≤ n by omega)
          obtain ⟨v8, w8, h81, h82, h83, h84⟩ := run_appOldX w w7 22 hO7 hr6 hb7 (by simp; omega) hb7.size (Nat.le_refl _) (sliced_av hA6 h hav)
          have hB8 := Below.grown' hb7 h83 hb7.size (fun k hk => (hO7.own_lt hk).1)
          clear hO7 hO6 hb6 hr6 h83 h84
          go_upto_region 10 with fail
          go_wp2_with (first
            | (refine sliceRows (x := .tmp 57) (lo := .tmp 58) rfl rfl rfl rfl ?_ ?_ hA6 ?_; omega; omega)
            | (at_builtin; refine list_app (s := .tmp 56) (x := .tmp 59) rfl rfl rfl rfl h81 ?_))
          go_ret
          refine ⟨v8, rfl, ?_, hB8⟩
          rw [HW.out, if_pos (by omega), Hf]
          simpa using h82
        · go_upto_region 8 with fail
          obtain ⟨w6, hw6⟩ : ∃ w6, w6 = W2 := ⟨_, rfl⟩
          subst hw6
          have hb6 := hb2
          have hO6 := hO2
          obtain ⟨Av6, nv6, cv6, rfl⟩ := hO6.slice'
          clear hb2 hO2
          obtain ⟨w7, hw7⟩ : ∃ w7, w7 = w6 := ⟨_, rfl⟩
          subst hw7
          have hb7 := hb6
          have hO7 := hO6
          obtain ⟨A6, n6, c6, hA6, hn6, hr6⟩ := sliced_rows h (show p ≤ n by omega)
          obtain ⟨v8, w8, h81, h82, h83, h84⟩ := run_appOldX w w7 22 hO7 hr6 hb7 (by simp; omega) hb7.size (Nat.le_refl _) (sliced_av hA6 h hav)
          have hB8 := Below.grown' hb7 h83 hb7.size (fun k hk => (hO7.own_lt hk).1)
          clear hO7 hO6 hb6 hr6 h83 h84
          go_upto_region 10 with fail
          go_wp2_with (first
            | (refine sliceRows (x := .tmp 57) (lo := .tmp 58) rfl rfl rfl rfl ?_ ?_ hA6 ?_; omega; omega)
            | (at_builtin; refine list_app (s := .tmp 56) (x := .tmp 59) rfl rfl rfl rfl h81 ?_))
          go_ret
          refine ⟨v8, rfl, ?_, hB8⟩
          rw [HW.out, if_neg (by omega), Hf]
          simpa using h82
end Go.Proofs.YtleniljhacnikaaGreat
