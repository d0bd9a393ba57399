/-
  Slices of rows whose marks are shared; the reference's Of, Twin, whole.
  append to slices that a call owns, in one form for plain regions and for regions that draw their order.
-/
import Derived.Test.YtkmcgpaoekphmaaW9i
import Derived.Deep.RegionHeld3
import Derived.Deep.AppendLies
namespace Go.Proofs.Ytkmcgpaoekphmaa
open Go.RowKit Go.Proofs
attribute [local go_sem] cell?_more cell?_alloc_some cell?_setCell_far frozen?_alloc_some frozen?_more
/-- Marks that are read alone, not in block g. -/
def SMarks (w : World) (g : Option Nat) (u : Value) (xs : List Int) : Prop :=
  ∃ A n c, u = .slice A n c ∧ RInts w A n c xs ∧ (0 < n → ∃ b off, A = some ⟨b, off, none⟩ ∧ some b ≠ g)
theorem SMarks.below {w w' : World} {g : Option Nat} {u : Value} {xs : List Int} (h : SMarks w g u xs) (hb : Below w.heap.size w w') : SMarks w' g u xs := by
  obtain ⟨A, n, c, e, r, f⟩ := h
  exact ⟨A, n, c, e, r.below hb, f⟩
/-- Marks outlive what is appended to the rows. -/
theorem SMarks.grown {w w' : World} {v v' : Value} {u : Value} {xs : List Int} (h : SMarks w v.ownBlock u xs) (hg : w.grownBy w' v.ownBlock) (hat : v'.ownBlock = v.ownBlock ∨ v'.ownBlock = none ∨ ∃ g, v'.ownBlock = some g ∧ w.heap.size ≤ g) : SMarks w' v'.ownBlock u xs := by
  obtain ⟨A, n, c, e, r, f⟩ := h
  refine ⟨A, n, c, e, r.frame (Frame'.of_grown hg) (fun hn => let ⟨b, off, e1, e2⟩ := f hn; ⟨b, off, e1, e2⟩), fun hn => ?_⟩
  obtain ⟨b, off, e1, e2⟩ := f hn
  refine ⟨b, off, e1, fun e3 => ?_⟩
  rcases hat with h | h | ⟨g, h, hge⟩
  · exact e2 (e3.trans h)
  · rw [h] at e3; cases e3
  · rw [h] at e3
    obtain ⟨b', off', e', hc⟩ := r.2.2.2.2 hn
    rw [e1] at e'
    cases e'
    have hlt : b < w.heap.size := World.block_lt_of_cell? w _ (hc 0 hn)
    cases e3
    omega
theorem SMarks.of {w : World} {g : Option Nat} {A : Option Addr} {n c : Nat} {xs : List Int} (h : RInts w A n c xs) (hg : 0 < n → ∃ b off, A = some ⟨b, off, none⟩ ∧ some b ≠ g) : SMarks w g (.slice A n c) xs := ⟨A, n, c, rfl, h, hg⟩

section
variable {ops : Array Oper} {rest : List Oper} {o : Oper} {a : Act} {w : World} {Q : Exit → Act → World → Prop}
end

end Go.Proofs.Ytkmcgpaoekphmaa

namespace Go.Proofs.Ytkmcgpaoekphmaa
open Go.RowKit Go.Proofs

/-- append of what may be nil. -/
theorem run_appU (w : World) (base : Nat) (t ty e : TypeId) (i : TypeInfo) (z : Value) (size bytes : Nat) (ht : Try.prog.underlying t = some (.slice e)) (hi : Try.prog.info? e = some i) (hz : i.zero = some z)
    (hsize : i.size = size) (hby : i.bytes = bytes) (hzs : z.cells.size = size) (hsz : 0 < size)
    (v : Value) (n : Nat) (xs : List Value) (hown : w.ownsRow base e size v n xs)
    (A : Option Addr) (m c : Nat) (news : List Value) (hl : news.length = m * size) (hA : A = none → m = 0) (hnews : ∀ a, A = some a → ∀ j u, news[j]? = some u → w.cell? (a.add j) = some u) (h1 : ∀ u ∈ news, u.oneCell' = true)
    (h63 : n + m ≤ maxLen) (hbytes : (n + m) * bytes ≤ 140737488355328) (hbase : base ≤ w.heap.size) :
    ∃ v' w', (Builtin.append_ #[t, t] ty #[v, .slice A m c]).run Try.prog w = .ok v' w' ∧ w'.ownsRow base e size v' (n + m) (xs ++ news) ∧ w.grownBy w' v.ownBlock ∧ (v'.ownBlock = v.ownBlock ∨ v'.ownBlock = some w.heap.size) := by
  cases A with
  | some a =>
    obtain ⟨v', w', h2, h3, h4, _, h5⟩ := run_append_own_at (P := Try.prog) w base t ty e i z size bytes ht hi hz hsize hby hzs hsz v n xs hown a m c news hl (hnews a rfl) h1 h63 hbytes hbase
    exact ⟨v', w', h2, h3, h4, h5⟩
  | none =>
    obtain rfl := hA rfl
    have hn : news = [] := List.eq_nil_of_length_eq_zero (by rw [hl]; omega)
    subst hn
    refine ⟨v, w, ?_, by simpa using hown, ⟨rfl, rfl, rfl, Nat.le_refl _, fun _ _ _ => rfl⟩, .inl rfl⟩
    rcases hown.2 with ⟨rfl, rfl⟩ | ⟨g, cap, cur, rfl, _, _, hnc, _⟩
    · simp [Builtin.append_, run_underlying ht, sizeOf, typeInfo, hi, Builtin.lenOf, Builtin.firstCells]
    · simp [Builtin.append_, run_underlying ht, sizeOf, typeInfo, hi, Builtin.lenOf, Builtin.firstCells, hnc, storeCells]

theorem run_appInts (w : World) (ty : TypeId) {base : Nat} {v : Value} {xs : List Int} (hown : Own w base v xs) {A : Option Addr} {n c : Nat} {ys : List Int} (hr : RInts w A n c ys) (hn : xs.length + n ≤ 1000000) (hbase : base ≤ w.heap.size) :
    ∃ v' w', (Builtin.append_ #[22, 22] ty #[v, .slice A n c]).run Try.prog w = .ok v' w' ∧ Own w' base v' (xs ++ ys) ∧ w.grownBy w' v.ownBlock ∧ (v'.ownBlock = v.ownBlock ∨ v'.ownBlock = some w.heap.size) := by
  obtain ⟨i0, hi, hz0, hz1, hz2⟩ := info_parts info3
  obtain ⟨v', w', h1, h2, h3, h4⟩ := run_appU w base 22 ty 3 i0 (.int .i64 0) 1 8 Try.underlying22 hi hz0 hz1 hz2 rfl (by decide) v xs.length _ hown A n c (ys.map (Value.int .i64)) (by simp [hr.len]) (fun e => by
    by_cases h0 : 0 < n
    · obtain ⟨b, off, e', _⟩ := hr.2.2.2.2 h0; rw [e] at e'; cases e'
    · omega) (fun a e j u hj => by
    have hjn : j < n := by
      have := (List.getElem?_eq_some_iff.1 hj).1
      rw [List.length_map, hr.len] at this; exact this
    obtain ⟨b, off, e', hc⟩ := hr.2.2.2.2 (by omega)
    rw [e] at e'
    cases e'
    have hadd : (⟨b, off, none⟩ : Addr).add j = ⟨b, off + j, none⟩ := by unfold Addr.add; split <;> simp_all
    rw [hadd, hc j hjn]
    rw [List.getElem?_map] at hj
    have hjl : j < ys.length := by rw [hr.len]; exact hjn
    rw [List.getElem?_eq_getElem hjl] at hj
    simp at hj
    simp [List.getD, hjl, hj]) (fun u hu => by obtain ⟨y, _, rfl⟩ := List.mem_map.1 hu; rfl) (by unfold maxLen; omega) (by omega) hbase
  exact ⟨v', w', h1, by unfold Own; simpa [hr.len] using h2, h3, h4⟩

section
variable {ops : Array Oper} {rest : List Oper} {o : Oper} {a : Act} {w : World} {Q : Exit → Act → World → Prop} {K : Act → World → Prop} {E : Prop}
/-- At a step of a region that draws: an append whose run is known. -/
theorem step_app (hg : o.guard = none) {s x : Operand} {t : TypeId} (ho : o.op = .call { callee := .builtin .append, args := #[s, x], argTypes := #[t, t] }) {v u v' : Value} {w' : World} (hs : a.eval s = v) (hx : a.eval x = u)
    (hr : (Builtin.append_ #[t, t] o.type #[v, u]).run Try.prog w = .ok v' w') (hK : K (a.put o.dst v') w') : if Region.wanted o (yielded ops a.tmps) = true then Oper.wp Try.prog o a w K Q else E := by
  have hw : Region.wanted o (yielded ops a.tmps) = true := by simp [Region.wanted, hg]
  rw [if_pos hw]
  unfold Oper.wp execOp
  simp only [ho, resolve, invoke, builtin, Sem.run_bind, Sem.run_pure, Result.andThen_ok, List.map_toArray, List.map_cons, List.map_nil, hs, hx, hr]
  exact hK
theorem list_app (hgd : o.guard = none) {s x : Operand} {t : TypeId} (ho : o.op = .call { callee := .builtin .append, args := #[s, x], argTypes := #[t, t] }) {v u v' : Value} {w' : World} (hs : a.eval s = v) (hx : a.eval x = u)
    (hr : (Builtin.append_ #[t, t] o.type #[v, u]).run Try.prog w = .ok v' w') (h : wpList Try.prog ops Q rest (a.put o.dst v') w') : wpList Try.prog ops Q (o :: rest) a w :=
  wpList_plain hgd fun _ hK => by
    unfold Oper.wp execOp
    simp only [ho, resolve, invoke, builtin, Sem.run_bind, Sem.run_pure, Result.andThen_ok, List.map_toArray, List.map_cons, List.map_nil, hs, hx, hr]
    exact hK _ _ h

/-- Numbers are appended, at a step of a region that draws. -/
theorem stepInts (hg : o.guard = none) {s x : Operand} (ho : o.op = .call { callee := .builtin .append, args := #[s, x], argTypes := #[22, 22] }) {base : Nat} {v : Value} {xs : List Int} {A : Option Addr} {n c : Nat} {ys : List Int} (hs : a.eval s = v) (hx : a.eval x = .slice A n c) (hown : Own w base v xs)
    (hr : RInts w A n c ys) (hn : xs.length + n ≤ 1000000) (hbase : base ≤ w.heap.size)
    (hK : ∀ v' w', Own w' base v' (xs ++ ys) → w.grownBy w' v.ownBlock → (v'.ownBlock = v.ownBlock ∨ v'.ownBlock = some w.heap.size) → K (a.put o.dst v') w') : if Region.wanted o (yielded ops a.tmps) = true then Oper.wp Try.prog o a w K Q else E := by
  obtain ⟨v', w', h1, h2, h3, h4⟩ := run_appInts w o.type hown hr hn hbase
  exact step_app hg ho hs hx h1 (hK v' w' h2 h3 h4)
/-- Numbers are appended, at a plain region's operation. -/
theorem listInts (hg : o.guard = none) {s x : Operand} (ho : o.op = .call { callee := .builtin .append, args := #[s, x], argTypes := #[22, 22] }) {base : Nat} {v : Value} {xs : List Int} {A : Option Addr} {n c : Nat} {ys : List Int} (hs : a.eval s = v) (hx : a.eval x = .slice A n c) (hown : Own w base v xs)
    (hr : RInts w A n c ys) (hn : xs.length + n ≤ 1000000) (hbase : base ≤ w.heap.size)
    (hK : ∀ v' w', Own w' base v' (xs ++ ys) → w.grownBy w' v.ownBlock → (v'.ownBlock = v.ownBlock ∨ v'.ownBlock = some w.heap.size) → wpList Try.prog ops Q rest (a.put o.dst v') w') : wpList Try.prog ops Q (o :: rest) a w := by
  obtain ⟨v', w', h1, h2, h3, h4⟩ := run_appInts w o.type hown hr hn hbase
  exact list_app hg ho hs hx h1 (hK v' w' h2 h3 h4)
end

end Go.Proofs.Ytkmcgpaoekphmaa
