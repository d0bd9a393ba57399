/-
  Slices of rows whose marks are shared; the reference's Of, Twin, whole.
  append to slices that a call owns, in one form for plain regions and for regions that draw their order.
-/
import Derived.Test.YtolbceckbnifmaaGreatW9i
import Derived.Deep.RegionHeld3
import Derived.Deep.AppendLies
namespace Go.Proofs.YtolbceckbnifmaaGreat
open Go.RowKit Go.Proofs
attribute [local go_sem] cell?_more cell?_alloc_some cell?_setCell_far frozen?_alloc_some frozen?_more

/-- Marks that are read alone, not in block g. -/
def SMarks (w : World) (g : Option Nat) (u : Value) (xs : List Int) : Prop :=
  ∃ A n c, u = .slice A n c ∧ RInts w A n c xs ∧ (0 < n → ∃ b off, A = some ⟨b, off, none⟩ ∧ some b ≠ g)
/-- A slice of rows that a call owns, in a block from B on; the marks may be anywhere else. -/
def SRows (w : World) (B : Nat) (v : Value) (l : List Row) : Prop :=
  ∃ cs : List (Value × Row), cs.map (·.2) = l ∧ w.ownsRow B 80 2 v l.length (cs.flatMap cell2) ∧ ∀ c ∈ cs, SMarks w v.ownBlock c.1 c.2.1 ∧ I64 c.2.2

theorem SRows.nil_ (w : World) (B : Nat) : SRows w B (.slice none 0 0) [] := ⟨[], rfl, World.ownsRow_nil _ _ _ _, by simp⟩
theorem ORows.shared {w : World} {B : Nat} {v : Value} {l : List Row} (h : ORows w B v l) : SRows w B v l := by
  obtain ⟨cs, e, h1, h2⟩ := h
  refine ⟨cs, e, h1, fun c hc => ⟨?_, (h2 c hc).2⟩⟩
  obtain ⟨A, n, c', e, r, f⟩ := (h2 c hc).1
  exact ⟨A, n, c', e, r, fun hn => let ⟨b, off, e1, _, e3, _⟩ := f hn; ⟨b, off, e1, e3⟩⟩
theorem SRows.rows {w : World} {B : Nat} {A : Option Addr} {n c : Nat} {l : List Row} (h : SRows w B (.slice A n c) l) : RRows w A n c l := by
  obtain ⟨cs, e, h1, h2⟩ := h
  rcases h1.2 with ⟨e1, e2⟩ | ⟨g, cap, cur, e1, hB, hg, hn, hc, hs, ht⟩
  · cases e1
    have : l = [] := List.eq_nil_of_length_eq_zero e2
    subst this
    exact RRows.nil_ w
  · cases e1
    refine ⟨rfl, hn, by unfold maxLen at hc; omega, fun _ => ⟨g, 0, rfl, fun i hi => ?_⟩⟩
    have hlc : cs.length = l.length := by rw [← e]; simp
    have hi' : i < cs.length := by omega
    obtain ⟨h3, h4⟩ := h2 cs[i] (List.getElem_mem hi')
    obtain ⟨Am, nm, cm, e5, h5, _⟩ := h3
    have hl : l.getD i ([], 0) = cs[i].2 := by subst e; simp [List.getD, hi']
    have hcell : ∀ j, j < l.length * 2 → w.cell? ⟨g, j, none⟩ = (cs.flatMap cell2)[j]? := fun j hj => by
      rw [cell_of_row w g j cur _ (0, 0) hg, ← Array.getElem?_toList, ← ht, List.getElem?_take_of_lt hj]
    have hg2 := get_cell2 cs i
    rw [List.getElem?_eq_getElem hi'] at hg2
    rw [hl, Nat.zero_add]
    refine ⟨Am, nm, cm, ?_, h5, ?_, h4⟩
    · rw [hcell _ (by omega), hg2.1, ← e5]; rfl
    · rw [hcell _ (by omega), hg2.2]; rfl
theorem SMarks.below {w w' : World} {g : Option Nat} {u : Value} {xs : List Int} (h : SMarks w g u xs) (hb : Below w.heap.size w w') : SMarks w' g u xs := by
  obtain ⟨A, n, c, e, r, f⟩ := h
  exact ⟨A, n, c, e, r.below hb, f⟩
theorem SRows.below {w w' : World} {B : Nat} {v : Value} {l : List Row} (h : SRows w B v l) (hb : Below w.heap.size w w') : SRows w' B v l := by
  obtain ⟨cs, e, h1, h2⟩ := h
  exact ⟨cs, e, owns_frame h1 (Frame'.of_below (S := fun _ => False) hb) (fun _ _ h => h), fun c hc => ⟨(h2 c hc).1.below hb, (h2 c hc).2⟩⟩
theorem SRows.slice {w : World} {B : Nat} {v : Value} {l : List Row} (h : SRows w B v l) : ∃ A c, v = .slice A l.length c := by
  obtain ⟨cs, e, h1, h2⟩ := h
  rcases h1.2 with ⟨e1, e2⟩ | ⟨g, cap, cur, e1, _⟩
  · exact ⟨none, 0, by rw [e1, e2]⟩
  · exact ⟨_, cap, e1⟩
theorem SRows.own_lt {w : World} {B : Nat} {v : Value} {l : List Row} (h : SRows w B v l) {k : Nat} (hk : v.ownBlock = some k) : B ≤ k ∧ k < w.heap.size := by
  obtain ⟨cs, e, h1, h2⟩ := h
  exact h1.lt k hk
/-- Marks outlive what is appended to the rows. -/
theorem SMarks.grown {w w' : World} {v v' : Value} {u : Value} {xs : List Int} (h : SMarks w v.ownBlock u xs) (hg : w.grownBy w' v.ownBlock) (hat : v'.ownBlock = v.ownBlock ∨ v'.ownBlock = none ∨ ∃ g, v'.ownBlock = some g ∧ w.heap.size ≤ g) : SMarks w' v'.ownBlock u xs := by
  obtain ⟨A, n, c, e, r, f⟩ := h
  refine ⟨A, n, c, e, r.frame (Frame'.of_grown hg) (fun hn => let ⟨b, off, e1, e2⟩ := f hn; ⟨b, off, e1, e2⟩), fun hn => ?_⟩
  obtain ⟨b, off, e1, e2⟩ := f hn
  refine ⟨b, off, e1, fun e3 => ?_⟩
  rcases hat with h | h | ⟨g, h, hge⟩
  · exact e2 (e3.trans h)
  · rw [h] at e3; cases e3
  · rw [h] at e3
    obtain ⟨b', off', e', hc⟩ := r.2.2.2.2 hn
    rw [e1] at e'
    cases e'
    have hlt : b < w.heap.size := World.block_lt_of_cell? w _ (hc 0 hn)
    cases e3
    omega
theorem SMarks.of {w : World} {g : Option Nat} {A : Option Addr} {n c : Nat} {xs : List Int} (h : RInts w A n c xs) (hg : 0 < n → ∃ b off, A = some ⟨b, off, none⟩ ∧ some b ≠ g) : SMarks w g (.slice A n c) xs := ⟨A, n, c, rfl, h, hg⟩

/-- Cells appended to owned rows, as owned rows. -/
theorem SRows.app {w w' : World} {B : Nat} {v v' : Value} {l : List Row} {cs : List (Value × Row)} (hcs : cs.map (·.2) = l) (hm : ∀ c ∈ cs, SMarks w v.ownBlock c.1 c.2.1 ∧ I64 c.2.2) {ds : List (Value × Row)} (hd : ∀ c ∈ ds, SMarks w v.ownBlock c.1 c.2.1 ∧ I64 c.2.2)
    (h1 : w'.ownsRow B 80 2 v' (l.length + ds.length) (cs.flatMap cell2 ++ ds.flatMap cell2)) (hg : w.grownBy w' v.ownBlock) (hat : v'.ownBlock = v.ownBlock ∨ v'.ownBlock = none ∨ ∃ g, v'.ownBlock = some g ∧ w.heap.size ≤ g) :
    SRows w' B v' (l ++ ds.map (·.2)) := by
  refine ⟨cs ++ ds, by rw [List.map_append, hcs], ?_, fun c hc => ?_⟩
  · rw [List.length_append, List.length_map, List.flatMap_append]; exact h1
  · rcases List.mem_append.1 hc with h | h
    · exact ⟨(hm c h).1.grown hg hat, (hm c h).2⟩
    · exact ⟨(hd c h).1.grown hg hat, (hd c h).2⟩

section
variable {ops : Array Oper} {rest : List Oper} {o : Oper} {a : Act} {w : World} {Q : Exit → Act → World → Prop}
/-- One row is appended. -/
theorem appRow (hgd : o.guard = none) {s x : Operand} (ho : o.op = .call { callee := .builtin .append, args := #[s, x], argTypes := #[25, 25] }) {B : Nat} {v : Value} {l : List Row} (hs : a.eval s = v) (hown : SRows w B v l)
    {gx : Nat} {u : Value} {y : Int} {ms : List Int} (hx : a.eval x = .slice (some ⟨gx, 0, none⟩) 1 1) (h0 : w.cell? ⟨gx, 0, none⟩ = some u) (h1 : w.cell? ⟨gx, 1, none⟩ = some (.int .i64 y)) (hu : SMarks w v.ownBlock u ms) (hy : I64 y) (hn : l.length + 1 ≤ 1000000) (hB : B ≤ w.heap.size)
    (h : ∀ v' w', SRows w' B v' (l ++ [(ms, y)]) → w.grownBy w' v.ownBlock → (v'.ownBlock = v.ownBlock ∨ ∃ g, v'.ownBlock = some g ∧ w.heap.size ≤ g) → wpList Tryz.prog ops Q rest (a.put o.dst v') w') : wpList Tryz.prog ops Q (o :: rest) a w := by
  obtain ⟨i0, hi, hz0, hz1, hz2⟩ := info_parts infoR
  obtain ⟨cs, hcs, hown, hm⟩ := hown
  have hu1 : u.oneCell' = true := by obtain ⟨A, n, c, e, _⟩ := hu; subst e; rfl
  refine wpList_append_own_at w hgd s x 25 ho B 80 i0 (.agg #[.slice none 0 0, .int .i64 0]) 2 32 Tryz.underlying25 hi hz0 hz1 hz2 rfl (by decide) v l.length (cs.flatMap cell2) hs hown ⟨gx, 0, none⟩ 1 1 [u, .int .i64 y] hx rfl (two_cells h0 h1) (two_one hu1 y) (by unfold maxLen; omega) (by omega) hB fun v' w' k1 k2 _ k3 => h v' w' ?_ k2 (k3.imp id fun e => ⟨_, e, Nat.le_refl _⟩)
  exact SRows.app hcs hm (ds := [(u, (ms, y))]) (by intro c hc; simp at hc; subst hc; exact ⟨hu, hy⟩) (by simpa [cell2] using k1) k2 (k3.imp id fun e => .inr ⟨_, e, Nat.le_refl _⟩)
end

end Go.Proofs.YtolbceckbnifmaaGreat

namespace Go.Proofs.YtolbceckbnifmaaGreat
open Go.RowKit Go.Proofs

/-- append of what may be nil. -/
theorem run_appU (w : World) (base : Nat) (t ty e : TypeId) (i : TypeInfo) (z : Value) (size bytes : Nat) (ht : Tryz.prog.underlying t = some (.slice e)) (hi : Tryz.prog.info? e = some i) (hz : i.zero = some z)
    (hsize : i.size = size) (hby : i.bytes = bytes) (hzs : z.cells.size = size) (hsz : 0 < size)
    (v : Value) (n : Nat) (xs : List Value) (hown : w.ownsRow base e size v n xs)
    (A : Option Addr) (m c : Nat) (news : List Value) (hl : news.length = m * size) (hA : A = none → m = 0) (hnews : ∀ a, A = some a → ∀ j u, news[j]? = some u → w.cell? (a.add j) = some u) (h1 : ∀ u ∈ news, u.oneCell' = true)
    (h63 : n + m ≤ maxLen) (hbytes : (n + m) * bytes ≤ 140737488355328) (hbase : base ≤ w.heap.size) :
    ∃ v' w', (Builtin.append_ #[t, t] ty #[v, .slice A m c]).run Tryz.prog w = .ok v' w' ∧ w'.ownsRow base e size v' (n + m) (xs ++ news) ∧ w.grownBy w' v.ownBlock ∧ (v'.ownBlock = v.ownBlock ∨ v'.ownBlock = some w.heap.size) := by
  cases A with
  | some a =>
    obtain ⟨v', w', h2, h3, h4, _, h5⟩ := run_append_own_at (P := Tryz.prog) w base t ty e i z size bytes ht hi hz hsize hby hzs hsz v n xs hown a m c news hl (hnews a rfl) h1 h63 hbytes hbase
    exact ⟨v', w', h2, h3, h4, h5⟩
  | none =>
    obtain rfl := hA rfl
    have hn : news = [] := List.eq_nil_of_length_eq_zero (by rw [hl]; omega)
    subst hn
    refine ⟨v, w, ?_, by simpa using hown, ⟨rfl, rfl, rfl, Nat.le_refl _, fun _ _ _ => rfl⟩, .inl rfl⟩
    rcases hown.2 with ⟨rfl, rfl⟩ | ⟨g, cap, cur, rfl, _, _, hnc, _⟩
    · simp [Builtin.append_, run_underlying ht, sizeOf, typeInfo, hi, Builtin.lenOf, Builtin.firstCells]
    · simp [Builtin.append_, run_underlying ht, sizeOf, typeInfo, hi, Builtin.lenOf, Builtin.firstCells, hnc, storeCells]

theorem run_appInts (w : World) (ty : TypeId) {base : Nat} {v : Value} {xs : List Int} (hown : Own w base v xs) {A : Option Addr} {n c : Nat} {ys : List Int} (hr : RInts w A n c ys) (hn : xs.length + n ≤ 1000000) (hbase : base ≤ w.heap.size) :
    ∃ v' w', (Builtin.append_ #[28, 28] ty #[v, .slice A n c]).run Tryz.prog w = .ok v' w' ∧ Own w' base v' (xs ++ ys) ∧ w.grownBy w' v.ownBlock ∧ (v'.ownBlock = v.ownBlock ∨ v'.ownBlock = some w.heap.size) := by
  obtain ⟨i0, hi, hz0, hz1, hz2⟩ := info_parts info3
  obtain ⟨v', w', h1, h2, h3, h4⟩ := run_appU w base 28 ty 3 i0 (.int .i64 0) 1 8 Tryz.underlying28 hi hz0 hz1 hz2 rfl (by decide) v xs.length _ hown A n c (ys.map (Value.int .i64)) (by simp [hr.len]) (fun e => by
    by_cases h0 : 0 < n
    · obtain ⟨b, off, e', _⟩ := hr.2.2.2.2 h0; rw [e] at e'; cases e'
    · omega) (fun a e j u hj => by
    have hjn : j < n := by
      have := (List.getElem?_eq_some_iff.1 hj).1
      rw [List.length_map, hr.len] at this; exact this
    obtain ⟨b, off, e', hc⟩ := hr.2.2.2.2 (by omega)
    rw [e] at e'
    cases e'
    have hadd : (⟨b, off, none⟩ : Addr).add j = ⟨b, off + j, none⟩ := by unfold Addr.add; split <;> simp_all
    rw [hadd, hc j hjn]
    rw [List.getElem?_map] at hj
    have hjl : j < ys.length := by rw [hr.len]; exact hjn
    rw [List.getElem?_eq_getElem hjl] at hj
    simp at hj
    simp [List.getD, hjl, hj]) (fun u hu => by obtain ⟨y, _, rfl⟩ := List.mem_map.1 hu; rfl) (by unfold maxLen; omega) (by omega) hbase
  exact ⟨v', w', h1, by unfold Own; simpa [hr.len] using h2, h3, h4⟩

section
variable {ops : Array Oper} {rest : List Oper} {o : Oper} {a : Act} {w : World} {Q : Exit → Act → World → Prop} {K : Act → World → Prop} {E : Prop}
/-- At a step of a region that draws: an append whose run is known. -/
theorem step_app (hg : o.guard = none) {s x : Operand} {t : TypeId} (ho : o.op = .call { callee := .builtin .append, args := #[s, x], argTypes := #[t, t] }) {v u v' : Value} {w' : World} (hs : a.eval s = v) (hx : a.eval x = u)
    (hr : (Builtin.append_ #[t, t] o.type #[v, u]).run Tryz.prog w = .ok v' w') (hK : K (a.put o.dst v') w') : if Region.wanted o (yielded ops a.tmps) = true then Oper.wp Tryz.prog o a w K Q else E := by
  have hw : Region.wanted o (yielded ops a.tmps) = true := by simp [Region.wanted, hg]
  rw [if_pos hw]
  unfold Oper.wp execOp
  simp only [ho, resolve, invoke, builtin, Sem.run_bind, Sem.run_pure, Result.andThen_ok, List.map_toArray, List.map_cons, List.map_nil, hs, hx, hr]
  exact hK
theorem list_app (hgd : o.guard = none) {s x : Operand} {t : TypeId} (ho : o.op = .call { callee := .builtin .append, args := #[s, x], argTypes := #[t, t] }) {v u v' : Value} {w' : World} (hs : a.eval s = v) (hx : a.eval x = u)
    (hr : (Builtin.append_ #[t, t] o.type #[v, u]).run Tryz.prog w = .ok v' w') (h : wpList Tryz.prog ops Q rest (a.put o.dst v') w') : wpList Tryz.prog ops Q (o :: rest) a w :=
  wpList_plain hgd fun _ hK => by
    unfold Oper.wp execOp
    simp only [ho, resolve, invoke, builtin, Sem.run_bind, Sem.run_pure, Result.andThen_ok, List.map_toArray, List.map_cons, List.map_nil, hs, hx, hr]
    exact hK _ _ h

/-- Numbers are appended, at a step of a region that draws. -/
theorem stepInts (hg : o.guard = none) {s x : Operand} (ho : o.op = .call { callee := .builtin .append, args := #[s, x], argTypes := #[28, 28] }) {base : Nat} {v : Value} {xs : List Int} {A : Option Addr} {n c : Nat} {ys : List Int} (hs : a.eval s = v) (hx : a.eval x = .slice A n c) (hown : Own w base v xs)
    (hr : RInts w A n c ys) (hn : xs.length + n ≤ 1000000) (hbase : base ≤ w.heap.size)
    (hK : ∀ v' w', Own w' base v' (xs ++ ys) → w.grownBy w' v.ownBlock → (v'.ownBlock = v.ownBlock ∨ v'.ownBlock = some w.heap.size) → K (a.put o.dst v') w') : if Region.wanted o (yielded ops a.tmps) = true then Oper.wp Tryz.prog o a w K Q else E := by
  obtain ⟨v', w', h1, h2, h3, h4⟩ := run_appInts w o.type hown hr hn hbase
  exact step_app hg ho hs hx h1 (hK v' w' h2 h3 h4)
/-- Numbers are appended, at a plain region's operation. -/
theorem listInts (hg : o.guard = none) {s x : Operand} (ho : o.op = .call { callee := .builtin .append, args := #[s, x], argTypes := #[28, 28] }) {base : Nat} {v : Value} {xs : List Int} {A : Option Addr} {n c : Nat} {ys : List Int} (hs : a.eval s = v) (hx : a.eval x = .slice A n c) (hown : Own w base v xs)
    (hr : RInts w A n c ys) (hn : xs.length + n ≤ 1000000) (hbase : base ≤ w.heap.size)
    (hK : ∀ v' w', Own w' base v' (xs ++ ys) → w.grownBy w' v.ownBlock → (v'.ownBlock = v.ownBlock ∨ v'.ownBlock = some w.heap.size) → wpList Tryz.prog ops Q rest (a.put o.dst v') w') : wpList Tryz.prog ops Q (o :: rest) a w := by
  obtain ⟨v', w', h1, h2, h3, h4⟩ := run_appInts w o.type hown hr hn hbase
  exact list_app hg ho hs hx h1 (hK v' w' h2 h3 h4)
end

/-- A row of one's own appended to rows of one's own. -/
theorem run_appOwn (w : World) (ty : TypeId) {B : Nat} {v : Value} {l : List Row} (hown : ORows w B v l) {gx : Nat} {u : Value} {y : Int} {ms : List Int} (h0 : w.cell? ⟨gx, 0, none⟩ = some u) (h1 : w.cell? ⟨gx, 1, none⟩ = some (.int .i64 y)) (hu : OMarks w B v.ownBlock u ms) (hy : I64 y)
    (hn : l.length + 1 ≤ 1000000) (hB : B ≤ w.heap.size) :
    ∃ v' w', (Builtin.append_ #[25, 25] ty #[v, .slice (some ⟨gx, 0, none⟩) 1 1]).run Tryz.prog w = .ok v' w' ∧ ORows w' B v' (l ++ [(ms, y)]) ∧ w.grownBy w' v.ownBlock ∧ (v'.ownBlock = v.ownBlock ∨ v'.ownBlock = some w.heap.size) := by
  obtain ⟨i0, hi, hz0, hz1, hz2⟩ := info_parts infoR
  obtain ⟨cs, hcs, hown, hm⟩ := hown
  have hu1 : u.oneCell' = true := by obtain ⟨A, n, c, e, _⟩ := hu; subst e; rfl
  obtain ⟨v', w', k1, k2, k3, k4⟩ := run_appU w B 25 ty 80 i0 (.agg #[.slice none 0 0, .int .i64 0]) 2 32 Tryz.underlying25 hi hz0 hz1 hz2 rfl (by decide) v l.length (cs.flatMap cell2) hown (some ⟨gx, 0, none⟩) 1 1 [u, .int .i64 y] rfl (fun e => by cases e)
    (fun a e => by cases e; exact two_cells h0 h1) (two_one hu1 y) (by unfold maxLen; omega) (by omega) hB
  refine ⟨v', w', k1, ⟨cs ++ [(u, (ms, y))], by rw [List.map_append, hcs]; rfl, ?_, ?_⟩, k3, k4⟩
  · rw [List.length_append, List.flatMap_append]; simpa [cell2] using k2
  · have keep : ∀ u xs, OMarks w B v.ownBlock u xs → OMarks w' B v'.ownBlock u xs := fun u xs h => by
      have h1 := h.frame (Frame'.of_grown k3) (fun b _ hb e => hb e)
      obtain ⟨A, n', c', e, r, f⟩ := h
      obtain ⟨A', n'', c'', e', r', f'⟩ := h1
      rw [e] at e'
      cases e'
      refine ⟨A, n', c', e, r', fun hn => ?_⟩
      obtain ⟨b, off, e1, e2, e3, e4⟩ := f hn
      obtain ⟨b', off', e1', _, _, e4'⟩ := f' hn
      rw [e1] at e1'
      cases e1'
      obtain ⟨b'', off'', e1'', hc⟩ := r.2.2.2.2 hn
      rw [e1] at e1''
      cases e1''
      have hlt : b < w.heap.size := World.block_lt_of_cell? w _ (hc 0 hn)
      refine ⟨b, off, e1, e2, fun e5 => ?_, e4'⟩
      rcases k4 with h | h
      · exact e3 (e5.trans h)
      · rw [h] at e5; cases e5; omega
    intro c hc
    rcases List.mem_append.1 hc with h | h
    · exact ⟨keep _ _ (hm c h).1, (hm c h).2⟩
    · simp at h; subst h; exact ⟨keep _ _ hu, hy⟩

/-- Rows that lie anywhere appended to rows of one's own whose marks are shared. -/
theorem run_appRows (w : World) (ty : TypeId) {B : Nat} {v : Value} {l : List Row} (hown : SRows w B v l) {A : Option Addr} {n c : Nat} {l' : List Row} (hr : RRows w A n c l') (hne : ∀ c ∈ l', True) (hn : l.length + n ≤ 1000000) (hB : B ≤ w.heap.size)
    (hsh : ∀ i, i < n → ∀ b off, A = some ⟨b, off, none⟩ → ∀ Am nm cm, w.cell? ⟨b, off + i * 2, none⟩ = some (.slice Am nm cm) → 0 < nm → ∃ b' off', Am = some ⟨b', off', none⟩ ∧ some b' ≠ v.ownBlock) :
    ∃ v' w', (Builtin.append_ #[25, 25] ty #[v, .slice A n c]).run Tryz.prog w = .ok v' w' ∧ SRows w' B v' (l ++ l') ∧ w.grownBy w' v.ownBlock ∧ (v'.ownBlock = v.ownBlock ∨ v'.ownBlock = some w.heap.size) := by
  obtain ⟨i0, hi, hz0, hz1, hz2⟩ := info_parts infoR
  obtain ⟨cs, hcs, hown, hm⟩ := hown
  by_cases h0 : 0 < n
  · obtain ⟨ds, hds, hcell, hmk⟩ := hr.cells h0
    have hdl : ds.length = n := by have := hr.len; rw [← hds] at this; simpa using this
    obtain ⟨b, off, eA, _⟩ := hr.2.2.2 h0
    obtain ⟨v', w', k1, k2, k3, k4⟩ := run_appU w B 25 ty 80 i0 (.agg #[.slice none 0 0, .int .i64 0]) 2 32 Tryz.underlying25 hi hz0 hz1 hz2 rfl (by decide) v l.length (cs.flatMap cell2) hown A n c (ds.flatMap cell2) (by rw [length_cell2, hdl]) (fun e => by rw [e] at eA; cases eA)
      hcell (one_cell2 fun i x hx => by obtain ⟨⟨Am, nm, cm, e, _⟩, _⟩ := hmk i x hx; exact ⟨Am, nm, cm, e⟩) (by unfold maxLen; omega) (by omega) hB
    refine ⟨v', w', k1, ?_, k3, k4⟩
    rw [← hds]
    refine SRows.app hcs hm (ds := ds) (fun c hc => ?_) (by rw [hdl]; exact k2) k3 (k4.imp id fun e => .inr ⟨_, e, Nat.le_refl _⟩)
    obtain ⟨i, hi⟩ := List.getElem?_of_mem hc
    obtain ⟨⟨Am, nm, cm, e, hrm⟩, hy⟩ := hmk i c hi
    refine ⟨⟨Am, nm, cm, e, hrm, fun hnm => ?_⟩, hy⟩
    have hin : i < n := by have := (List.getElem?_eq_some_iff.1 hi).1; omega
    refine hsh i hin b off eA Am nm cm ?_ hnm
    have g := get_cell2 ds i
    rw [hi] at g
    have := hcell _ eA (i * 2) _ (by rw [g.1]; rfl)
    have hadd : (⟨b, off, none⟩ : Addr).add (i * 2) = ⟨b, off + i * 2, none⟩ := by unfold Addr.add; split <;> simp_all
    rw [hadd] at this
    rw [this]
    exact congrArg some e
  · have hl' : l' = [] := List.eq_nil_of_length_eq_zero (by have := hr.len; omega)
    subst hl'
    obtain rfl : n = 0 := by omega
    obtain ⟨v', w', k1, k2, k3, k4⟩ := run_appU w B 25 ty 80 i0 (.agg #[.slice none 0 0, .int .i64 0]) 2 32 Tryz.underlying25 hi hz0 hz1 hz2 rfl (by decide) v l.length (cs.flatMap cell2) hown A 0 c [] rfl (fun _ => rfl) (fun a e j u h => by simp at h) (by simp) (by unfold maxLen; omega) (by omega) hB
    refine ⟨v', w', k1, ?_, k3, k4⟩
    have := SRows.app hcs hm (ds := []) (by simp) (by simpa using k2) k3 (k4.imp id fun e => .inr ⟨_, e, Nat.le_refl _⟩)
    simpa using this
end Go.Proofs.YtolbceckbnifmaaGreat
