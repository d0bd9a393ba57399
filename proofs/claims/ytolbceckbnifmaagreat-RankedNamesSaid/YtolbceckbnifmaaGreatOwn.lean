/-
  Numbers that a call owns; several variables in memory at once.
  Words of 32 bits: slices that are read, slices that a call owns. No function is named here.
-/
import Derived.Test.YtolbceckbnifmaaGreatChecked
import Derived.Test.YtolbceckbnifmaaGreatSpecA
import Derived.StillTailTactics
import Derived.Deep.OwnRows
namespace Go.Proofs.YtolbceckbnifmaaGreat
open Go.RowKit Go.Proofs
theorem info3 : (Tryz.prog.info? 3).map (fun i => (i.zero, i.size, i.bytes)) = some (some (.int .i64 0), 1, 8) := by kernel_rfl

/-- Each of the blocks is a variable of the cells beside it. -/
def Hs (w : World) : List (Nat × TypeId × Array Value) → Prop
  | [] => True
  | x :: r => Has w x.1 x.2.1 x.2.2 ∧ Hs w r

theorem Hs.below {w w' : World} : ∀ {S : List (Nat × TypeId × Array Value)}, Hs w S → Below w.heap.size w w' → Hs w' S
  | [], _, _ => trivial
  | _ :: _, h, hb => ⟨h.1.below hb h.1.lt, Hs.below h.2 hb⟩
theorem Hs.nil (w : World) : Hs w [] := trivial
theorem Hs.alloc {w : World} {S : List (Nat × TypeId × Array Value)} (h : Hs w S) (t : TypeId) (C : Array Value) : Hs (w.alloc (.cells C t)) ((w.heap.size, t, C) :: S) :=
  ⟨Has.new _ _ _, h.below ((Below.refl _ _).alloc (Nat.le_refl _) _)⟩
theorem Hs.newRow {w : World} {S : List (Nat × TypeId × Array Value)} (h : Hs w S) (t : TypeId) (Z D : Array Value) : Hs ((w.alloc (.cells Z t)).setRow w.heap.size D) ((w.heap.size, t, D) :: S) :=
  ⟨(Has.new _ _ _).setRow _, h.below (below_setRow ((Below.refl _ _).alloc (Nat.le_refl _) _) (Nat.le_refl _) _)⟩
theorem below_newRow {B : Nat} {w0 w : World} (hb : Below B w0 w) (hB : B ≤ w.heap.size) (o : Obj) (D : Array Value) : Below B w0 ((w.alloc o).setRow w.heap.size D) :=
  below_setRow (hb.alloc hB _) hB _

/-- The slice value v owns the numbers xs, in a block from base on. -/
def Own (w : World) (base : Nat) (v : Value) (xs : List Int) : Prop := w.ownsRow base 3 1 v xs.length (xs.map (Value.int .i64))

theorem Own.nil_ (w : World) (base : Nat) : Own w base (.slice none 0 0) [] := World.ownsRow_nil _ _ _ _
theorem Own.below {w w' : World} {base : Nat} {v : Value} {xs : List Int} (h : Own w base v xs) (hb : Below w.heap.size w w') : Own w' base v xs := by
  obtain ⟨h1, h2⟩ := h
  refine ⟨h1, ?_⟩
  rcases h2 with h2 | ⟨g, cap, cur, e, hb1, hg, r⟩
  · exact .inl h2
  · refine .inr ⟨g, cap, cur, e, hb1, ?_, r⟩
    have hlt : g < w.heap.size := by
      rcases Nat.lt_or_ge g w.heap.size with hlt | hge
      · exact hlt
      · rw [Array.getElem?_eq_none hge] at hg; cases hg
    exact (hb.block g hlt).trans hg
theorem Own.slice {w : World} {base : Nat} {v : Value} {xs : List Int} (h : Own w base v xs) : ∃ A c, v = .slice A xs.length c := by
  obtain ⟨h1, h2⟩ := h
  rcases h2 with ⟨e, h0⟩ | ⟨g, cap, cur, e, _⟩
  · exact ⟨none, 0, by rw [e, h0]⟩
  · exact ⟨_, cap, e⟩
theorem Own.ints {w : World} {base : Nat} {A : Option Addr} {n c : Nat} {xs : List Int} (h : Own w base (.slice A n c) xs) (hx : ∀ x ∈ xs, -9223372036854775808 ≤ x ∧ x ≤ 9223372036854775807) : RInts w A n c xs := by
  obtain ⟨h1, h2⟩ := h
  rcases h2 with ⟨e, h0⟩ | ⟨g, cap, cur, e, _, hg, hnc, hcm, hcs, ht⟩
  · cases e
    exact ⟨h0, Nat.le_refl _, by omega, hx, fun h => absurd h (by omega)⟩
  · cases e
    refine ⟨rfl, hnc, hcm, hx, fun _ => ⟨g, 0, rfl, fun i hi => ?_⟩⟩
    rw [Nat.zero_add, cell_of_row w g i cur 3 (0, 0) hg, ← Array.getElem?_toList]
    have h3 : (cur.toList.take (xs.length * 1))[i]? = (xs.map (Value.int .i64))[i]? := by rw [ht]
    rw [List.getElem?_take_of_lt (by omega)] at h3
    rw [h3]
    simp [List.getD, hi]

section
variable {ops : Array Oper} {rest : List Oper} {o : Oper} {a : Act} {w : World} {Q : Exit → Act → World → Prop}
/-- One number is appended. -/
theorem appInt (hgd : o.guard = none) {s x : Operand} (ho : o.op = .call { callee := .builtin .append, args := #[s, x], argTypes := #[28, 28] }) {base : Nat} {v : Value} {xs : List Int} (hs : a.eval s = v) (hown : Own w base v xs)
    {b : Nat} (hx : a.eval x = .slice (some ⟨b, 0, none⟩) 1 1) {k : Int} (hc : w.cell? ⟨b, 0, none⟩ = some (.int .i64 k)) (hn : xs.length + 1 ≤ 1000000) (hbase : base ≤ w.heap.size)
    (h : ∀ v' w', Own w' base v' (xs ++ [k]) → w.grownBy w' v.ownBlock → wpList Tryz.prog ops Q rest (a.put o.dst v') w') : wpList Tryz.prog ops Q (o :: rest) a w := by
  obtain ⟨i0, hi, hz0, hz1, hz2⟩ := info_parts info3
  refine wpList_append_own w hgd s x 28 ho base 3 i0 (.int .i64 0) 1 8 Tryz.underlying28 hi hz0 hz1 hz2 rfl (by decide) v xs.length _ hs hown ⟨b, 0, none⟩ 1 1 [.int .i64 k] hx rfl ?_ ?_ (by unfold maxLen; omega) (by omega) hbase fun v' w' h1 h2 _ => h v' w' ?_ h2
  · intro j u hj
    match j, hj with
    | 0, hj => simp at hj; subst hj; simpa [Addr.add] using hc
  · intro u hu; simp at hu; subst hu; rfl
  · unfold Own
    simpa using h1
end

theorem grown_has {w w' : World} {v : Value} {base : Nat} {xs : List Int} (hown : Own w base v xs) (hg : w.grownBy w' v.ownBlock) {g : Nat} {t : TypeId} {C : Array Value} (h : Has w g t C) (hlt : g < base) : Has w' g t C := by
  have hl := h.lt
  unfold Has at *
  rw [← h]
  exact hg.block g hl (fun e => by have := hown.lt g e.symm; omega)

end Go.Proofs.YtolbceckbnifmaaGreat

namespace Go.Proofs.YtolbceckbnifmaaGreat
open Go.RowKit Go.Proofs

/-- The slice value (A, n, c) reads as the numbers xs in the world w. -/
def RWrds (w : World) (A : Option Addr) (n c : Nat) (xs : List Int) : Prop :=
  xs.length = n ∧ n ≤ c ∧ c ≤ 9223372036854775807 ∧ (∀ x ∈ xs, 0 ≤ x ∧ x ≤ 4294967295) ∧
    (0 < n → ∃ b off, A = some ⟨b, off, none⟩ ∧ ∀ i, i < n → w.cell? ⟨b, off + i, none⟩ = some (.int .u32 (xs.getD i 0)))

namespace RWrds
variable {w w' : World} {A : Option Addr} {n c k : Nat} {xs : List Int}
theorem nil_ (w : World) : RWrds w none 0 0 [] := ⟨rfl, Nat.le_refl _, by omega, by simp, fun h => absurd h (by omega)⟩
theorem len (h : RWrds w A n c xs) : xs.length = n := h.1
theorem le (h : RWrds w A n c xs) : n ≤ 9223372036854775807 := Nat.le_trans h.2.1 h.2.2.1
theorem bd (h : RWrds w A n c xs) {x : Int} (hx : x ∈ xs) : 0 ≤ x ∧ x ≤ 4294967295 := h.2.2.2.1 x hx
theorem step (h : RWrds w A n c xs) (hk : k < n) : ∃ b off v, A = some ⟨b, off, none⟩ ∧ w.cell? ⟨b, off + k, none⟩ = some (.int .u32 v) ∧
    Hid (xs.drop k = v :: xs.drop (k + 1)) ∧ Hid (xs[k]? = some v) ∧ 0 ≤ v ∧ v ≤ 4294967295 := by
  have hl : k < xs.length := by have := h.1; omega
  obtain ⟨b, off, e, hc⟩ := h.2.2.2.2 (by omega)
  have hg : xs.getD k 0 = xs[k] := by simp [List.getD, hl]
  have hb := h.bd (x := xs.getD k 0) (by rw [hg]; exact List.getElem_mem hl)
  exact ⟨b, off, xs.getD k 0, e, hc k hk, drop_step hl 0, by rw [hg]; exact List.getElem?_eq_getElem hl, hb.1, hb.2⟩
theorem done (h : RWrds w A n c xs) (hk : ¬ k < n) : xs.drop k = [] := List.drop_eq_nil_of_le (by have := h.1; omega)
theorem below (h : RWrds w A n c xs) (hb : Below w.heap.size w w') : RWrds w' A n c xs :=
  ⟨h.1, h.2.1, h.2.2.1, h.2.2.2.1, fun hn => let ⟨b, off, e, hc⟩ := h.2.2.2.2 hn; ⟨b, off, e, fun i hi => keep_cell hb (hc i hi)⟩⟩
theorem take (h : RWrds w A n c xs) (hk : k ≤ n) : RWrds w A k c (xs.take k) := by
  refine ⟨by have := h.1; simp; omega, by have := h.2.1; omega, h.2.2.1, fun x hx => h.bd (List.mem_of_mem_take hx), fun hn => ?_⟩
  obtain ⟨b, off, e, hc⟩ := h.2.2.2.2 (by omega)
  refine ⟨b, off, e, fun i hi => ?_⟩
  rw [hc i (by omega)]
  simp [List.getD, hi]
end RWrds

theorem infoU : (Tryz.prog.info? 150).map (fun i => (i.zero, i.size, i.bytes)) = some (some (.int .u32 0), 1, 4) := by kernel_rfl


/-- The slice value v owns the numbers xs, in a block from base on. -/
def OwnW (w : World) (base : Nat) (v : Value) (xs : List Int) : Prop := w.ownsRow base 150 1 v xs.length (xs.map (Value.int .u32))

theorem OwnW.nil_ (w : World) (base : Nat) : OwnW w base (.slice none 0 0) [] := World.ownsRow_nil _ _ _ _
theorem OwnW.below {w w' : World} {base : Nat} {v : Value} {xs : List Int} (h : OwnW w base v xs) (hb : Below w.heap.size w w') : OwnW w' base v xs := by
  obtain ⟨h1, h2⟩ := h
  refine ⟨h1, ?_⟩
  rcases h2 with h2 | ⟨g, cap, cur, e, hb1, hg, r⟩
  · exact .inl h2
  · refine .inr ⟨g, cap, cur, e, hb1, ?_, r⟩
    have hlt : g < w.heap.size := by
      rcases Nat.lt_or_ge g w.heap.size with hlt | hge
      · exact hlt
      · rw [Array.getElem?_eq_none hge] at hg; cases hg
    exact (hb.block g hlt).trans hg
theorem OwnW.slice {w : World} {base : Nat} {v : Value} {xs : List Int} (h : OwnW w base v xs) : ∃ A c, v = .slice A xs.length c := by
  obtain ⟨h1, h2⟩ := h
  rcases h2 with ⟨e, h0⟩ | ⟨g, cap, cur, e, _⟩
  · exact ⟨none, 0, by rw [e, h0]⟩
  · exact ⟨_, cap, e⟩
theorem OwnW.wrds {w : World} {base : Nat} {A : Option Addr} {n c : Nat} {xs : List Int} (h : OwnW w base (.slice A n c) xs) (hx : ∀ x ∈ xs, 0 ≤ x ∧ x ≤ 4294967295) : RWrds w A n c xs := by
  obtain ⟨h1, h2⟩ := h
  rcases h2 with ⟨e, h0⟩ | ⟨g, cap, cur, e, _, hg, hnc, hcm, hcs, ht⟩
  · cases e
    exact ⟨h0, Nat.le_refl _, by omega, hx, fun h => absurd h (by omega)⟩
  · cases e
    refine ⟨rfl, hnc, hcm, hx, fun _ => ⟨g, 0, rfl, fun i hi => ?_⟩⟩
    rw [Nat.zero_add, cell_of_row w g i cur 150 (0, 0) hg, ← Array.getElem?_toList]
    have h3 : (cur.toList.take (xs.length * 1))[i]? = (xs.map (Value.int .u32))[i]? := by rw [ht]
    rw [List.getElem?_take_of_lt (by omega)] at h3
    rw [h3]
    simp [List.getD, hi]

section
variable {ops : Array Oper} {rest : List Oper} {o : Oper} {a : Act} {w : World} {Q : Exit → Act → World → Prop}
/-- One number is appended. -/
theorem appWrd (hgd : o.guard = none) {s x : Operand} (ho : o.op = .call { callee := .builtin .append, args := #[s, x], argTypes := #[61, 61] }) {base : Nat} {v : Value} {xs : List Int} (hs : a.eval s = v) (hown : OwnW w base v xs)
    {b : Nat} (hx : a.eval x = .slice (some ⟨b, 0, none⟩) 1 1) {k : Int} (hc : w.cell? ⟨b, 0, none⟩ = some (.int .u32 k)) (hn : xs.length + 1 ≤ 1000000) (hbase : base ≤ w.heap.size)
    (h : ∀ v' w', OwnW w' base v' (xs ++ [k]) → w.grownBy w' v.ownBlock → wpList Tryz.prog ops Q rest (a.put o.dst v') w') : wpList Tryz.prog ops Q (o :: rest) a w := by
  obtain ⟨i0, hi, hz0, hz1, hz2⟩ := info_parts infoU
  refine wpList_append_own w hgd s x 61 ho base 150 i0 (.int .u32 0) 1 4 Tryz.underlying61 hi hz0 hz1 hz2 rfl (by decide) v xs.length _ hs hown ⟨b, 0, none⟩ 1 1 [.int .u32 k] hx rfl ?_ ?_ (by unfold maxLen; omega) (by omega) hbase fun v' w' h1 h2 _ => h v' w' ?_ h2
  · intro j u hj
    match j, hj with
    | 0, hj => simp at hj; subst hj; simpa [Addr.add] using hc
  · intro u hu; simp at hu; subst hu; rfl
  · unfold OwnW
    simpa using h1
end

theorem grownW_has {w w' : World} {v : Value} {base : Nat} {xs : List Int} (hown : OwnW w base v xs) (hg : w.grownBy w' v.ownBlock) {g : Nat} {t : TypeId} {C : Array Value} (h : Has w g t C) (hlt : g < base) : Has w' g t C := by
  have hl := h.lt
  unfold Has at *
  rw [← h]
  exact hg.block g hl (fun e => by have := hown.lt g e.symm; omega)
end Go.Proofs.YtolbceckbnifmaaGreat
