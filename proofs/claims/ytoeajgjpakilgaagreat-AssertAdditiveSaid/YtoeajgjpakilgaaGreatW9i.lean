/-
  The program's Twin.
  The library's BinarySearchFunc over rows; the program's place.
  The library's Insert of one row.
  The program's put.
  The program's whole, both, Sum.
  The program's Sum.
-/
import Derived.Test.YtoeajgjpakilgaaGreatW9f
import Derived.Test.YtoeajgjpakilgaaGreatSpecA
import Derived.Deep.RegionHeld3
import Derived.Maps.AppendAt
import Derived.Laws.CopyOwn
import Derived.Laws.Externs
import Derived.Deep.RegionWith
namespace Go.Proofs.YtoeajgjpakilgaaGreat
open Go.RowKit Go.Proofs
attribute [local go_sem] cell?_more cell?_alloc_some cell?_setCell_far frozen?_alloc_some frozen?_more
/-- What Twin leaves: a profile whose rows are its own. -/
def TwinPost (w : World) (c k : Int) (l : List Row) (e : Ending) (w' : World) : Prop :=
  ∃ v, e = .returned (.agg #[.int .i64 c, .int .u8 k, v]) ∧ ORows w' w.heap.size v l ∧ Below w.heap.size w w'

end Go.Proofs.YtoeajgjpakilgaaGreat

namespace Go.Proofs.YtoeajgjpakilgaaGreat
open Go.RowKit Go.Proofs
attribute [local go_sem] cell?_more cell?_alloc_some cell?_setCell_far frozen?_alloc_some frozen?_more
/-- Are there ballots of the marks m? -/
def foundS (l : List Row) (m : List Int) : Bool := match l[plS l m]? with | some r => decide (r.1 = m) | none => false

theorem ret_ib {a a' : Int} {b b' : Bool} (h1 : a = a') (h2 : b = b') : Ending.returned (.tuple #[.int .i64 a, .bool b]) = .returned (.tuple #[.int .i64 a', .bool b']) := by rw [h1, h2]

end Go.Proofs.YtoeajgjpakilgaaGreat

namespace Go.Proofs.YtoeajgjpakilgaaGreat
open Go.RowKit Go.Proofs
attribute [local go_sem] cell?_more cell?_alloc_some cell?_setCell_far frozen?_alloc_some frozen?_more
section
variable {ops : Array Oper} {rest : List Oper} {o : Oper} {a : Act} {w : World} {Q : Exit → Act → World → Prop}
/-- A copy whose run is known. -/
theorem wpList_copy_eq (hgd : o.guard = none) (d s : Operand) (t t' : TypeId) (ho : o.op = .call { callee := .builtin .copy, args := #[d, s], argTypes := #[t, t'] }) (v u : Value) (hd : a.eval d = v) (hs : a.eval s = u) {v' : Value} {w' : World}
    (hr : (Builtin.copy_ #[t, t'] o.type #[v, u]).run Tryz.prog w = .ok v' w') (h : wpList Tryz.prog ops Q rest (a.put o.dst v') w') : wpList Tryz.prog ops Q (o :: rest) a w :=
  wpList_plain hgd fun _ hK => by
    unfold Oper.wp execOp
    simp only [ho, resolve, invoke, builtin, Sem.run_bind, Sem.run_pure, Result.andThen_ok, List.map_toArray, List.map_cons, List.map_nil, hd, hs, hr]
    exact hK _ _ h
end

/-- copy at elements of two cells. -/
theorem run_copy2 (w : World) (ty : TypeId) (g off dLen dCap : Nat) (ad : Addr) (sLen sCap : Nat) (cur : Array Value) (t : TypeId) (cs : List Value) (hg : Has w g t cur) (hn : cs.length = Nat.min sLen dLen * 2)
    (hsrc : ∀ j v, cs[j]? = some v → w.cell? (ad.add j) = some v) (hfit : off + cs.length ≤ cur.size) (h1 : ∀ v ∈ cs, v.oneCell' = true) :
    (Builtin.copy_ #[25, 25] ty #[.slice (some ⟨g, off, none⟩) dLen dCap, .slice (some ad) sLen sCap]).run Tryz.prog w = .ok (goInt (Nat.min sLen dLen)) (w.setRow g (splice cur.toList off cs).toArray) := by
  have hl := run_loadCells_list (P := Tryz.prog) w ad cs hsrc
  have hst := run_storeCells_at Tryz.prog g off t cs 0 cur w hg (by simpa using hfit) h1
  obtain ⟨i0, hi, _, hz1, _⟩ := info_parts infoR
  rw [hn] at hl
  unfold splice
  simp [Builtin.copy_, run_underlying Tryz.underlying25, Builtin.lenOf, Builtin.firstCells, sizeOf, typeInfo, hi, hz1, hl, hst, List.append_assoc]

/-- append of zero rows where there is no room. -/
theorem run_append_zeros (w : World) (ty : TypeId) (b : Addr) (sLen sCap : Nat) (olds : List Value) (hlo : olds.length = sLen * 2) (holds : ∀ j v, olds[j]? = some v → w.cell? (b.add j) = some v) (n : Nat) (z : Int) (hzn : z = (n : Int)) (h0 : 0 < n) (hg : sCap < sLen + n) (hb : sLen + n ≤ 1000001) :
    (Builtin.append_ #[25, 3] ty #[.slice (some b) sLen sCap, .int .i64 z]).run Tryz.prog w =
      .ok (.slice (some ⟨w.heap.size, 0, none⟩) (sLen + n) (grownCap w (sLen + n) sCap 55))
        (w.drew.alloc (.cells (olds.toArray ++ Builtin.zeroCells #[.slice none 0 0, .int .i64 0] n ++ Builtin.zeroCells #[.slice none 0 0, .int .i64 0] (grownCap w (sLen + n) sCap 55 - (sLen + n))) 55)) := by
  obtain ⟨i0, hi, hz0, hz1, hz2⟩ := info_parts infoR
  subst hzn
  have hn : ¬ (sLen + n ≤ sCap) := by omega
  have hw : IntKind.i64.wrap (n : Int) = n := IntWalk.i64_in _ (by omega)
  have h63' : ¬ (9223372036854775807 < ((sLen : Int) + (n : Int))) := by omega
  have h48' : ¬ (281474976710656 < Builtin.nextslicecap (sLen + n) sCap * 32) := by
    have := growslice_fits (bytes := 32) hg (by omega); omega
  have h48i : ¬ (281474976710656 < (n : Int) * 32) := by omega
  have hneg : ¬ ((n : Int) < 0) := by omega
  have hns : ¬ (n * 2 = 0) := by omega
  have hf := run_firstCells_some (P := Tryz.prog) w.drew 2 sLen b sLen sCap olds hlo (by simpa using holds)
  simp [Builtin.append_, run_underlying Tryz.underlying25, run_underlying Tryz.underlying3, sizeOf, typeInfo, zeroValue, hi, hz0, hz1, hz2, asInt, asIntOf, hw, hn, hneg, hns, h63', h48', h48i, Question.forced, hf, newRow, grownCap, Value.cells]

/-- What Insert leaves: the slice with the new cells in their place. -/
def InsPost (w : World) (B : Nat) (v : Value) (n i : Nat) (xs ys : List Value) (e : Ending) (w' : World) : Prop :=
  ∃ v', e = .returned v' ∧ w'.ownsRow B 55 2 v' (n + 1) (xs.take (i * 2) ++ (ys ++ xs.drop (i * 2))) ∧ w.grownBy w' v.ownBlock ∧ (v'.ownBlock = v.ownBlock ∨ ∃ g, v'.ownBlock = some g ∧ w.heap.size ≤ g)

theorem two_cells {w : World} {gx : Nat} {u z : Value} (h0 : w.cell? ⟨gx, 0, none⟩ = some u) (h1 : w.cell? ⟨gx, 1, none⟩ = some z) : ∀ j x, ([u, z] : List Value)[j]? = some x → w.cell? ((⟨gx, 0, none⟩ : Addr).add j) = some x := by
  intro j x hj
  match j, hj with
  | 0, hj => simp at hj; subst hj; exact h0
  | 1, hj => simp at hj; subst hj; exact h1
theorem two_one {u : Value} (hu : u.oneCell' = true) (y : Int) : ∀ x ∈ ([u, .int .i64 y] : List Value), x.oneCell' = true := by
  intro x hx
  simp only [List.mem_cons, List.not_mem_nil, or_false] at hx
  rcases hx with rfl | rfl
  · exact hu
  · rfl

theorem splice_ins (xs ys rest : List Value) (k m : Nat) (hk : k + 2 ≤ m) (hx : xs.length = m) (hy : ys.length = 2) (_hr : 2 ≤ rest.length) :
    (splice (splice (xs ++ rest) (k + 2) (xs.drop k)) k ys).take (m + 2) = xs.take k ++ (ys ++ xs.drop k) := by
  unfold splice
  have hd : (xs.drop k).length = m - k := by simp [hx]
  have h1 : (xs ++ rest).take (k + 2) = xs.take (k + 2) := by rw [List.take_append_of_le_length (by omega)]
  rw [h1, hy, hd]
  have h2 : (xs.take (k + 2) ++ (xs.drop k ++ (xs ++ rest).drop (k + 2 + (m - k)))).take k = xs.take k := by
    rw [List.take_append_of_le_length (by simp; omega), List.take_take, Nat.min_eq_left (by omega)]
  have h3 : (xs.take (k + 2) ++ (xs.drop k ++ (xs ++ rest).drop (k + 2 + (m - k)))).drop (k + 2) = xs.drop k ++ (xs ++ rest).drop (k + 2 + (m - k)) := by
    rw [List.drop_append_of_le_length (by simp; omega), List.drop_eq_nil_of_le (by simp; omega)]; rfl
  rw [h2, h3]
  rw [← List.append_assoc ys, ← List.append_assoc (xs.take k), List.take_append_of_le_length (by simp; omega), List.take_of_length_le (by simp; omega)]

theorem splice_new (Z xs ys : List Value) (k m : Nat) (hx : xs.length = m) (hk : k ≤ m) (hy : ys.length = 2) (hZ : Z.take k = xs.take k) (_hl : m + 2 ≤ Z.length) :
    (splice (splice Z k ys) (k + 2) (xs.drop k)).take (m + 2) = xs.take k ++ (ys ++ xs.drop k) := by
  unfold splice
  have hd : (xs.drop k).length = m - k := by simp [hx]
  rw [hy, hd, hZ]
  have hkl : (xs.take k).length = k := by simp; omega
  have h2 : (xs.take k ++ (ys ++ Z.drop (k + 2))).take (k + 2) = xs.take k ++ ys := by
    rw [← List.append_assoc, List.take_append_of_le_length (by simp; omega), List.take_of_length_le (by simp; omega)]
  rw [h2, ← List.append_assoc (xs.take k ++ ys), List.take_append_of_le_length (by simp; omega), List.take_of_length_le (by simp; omega), List.append_assoc]
theorem grown_setRow {w w1 : World} {g : Nat} (h : w.grownBy w1 (some g)) (D : Array Value) : w.grownBy (w1.setRow g D) (some g) :=
  ⟨h.os, h.tape, h.output, by simpa using h.size, fun k hk hn => (setRow_other w1 g k D (fun e => hn (by rw [e]))).trans (h.block k hk hn)⟩
theorem grown_newRow {w w1 : World} {r : Option Nat} {g : Nat} (h : w.grownBy w1 r) (hg : w.heap.size ≤ g) (D : Array Value) : w.grownBy (w1.setRow g D) r :=
  ⟨h.os, h.tape, h.output, by simpa using h.size, fun k hk hn => (setRow_other w1 g k D (by omega)).trans (h.block k hk hn)⟩

end Go.Proofs.YtoeajgjpakilgaaGreat

namespace Go.Proofs.YtoeajgjpakilgaaGreat
open Go.RowKit Go.Proofs
attribute [local go_sem] cell?_more cell?_alloc_some cell?_setCell_far frozen?_alloc_some frozen?_more
/-- What put and drop leave: the profile behind the pointer has the rows l', its own. -/
def PutPost (w : World) (g B : Nat) (c k : Int) (v : Value) (l' : List Row) (v' : Value) (w' : World) : Prop :=
  Has w' g 27 #[.int .i64 c, .int .u8 k, v'] ∧ ORows w' B v' l' ∧ Frame' (fun b => b = g ∨ some b = v.ownBlock) w w'

theorem foundS_true {l : List Row} {m : List Int} (h : foundS l m = true) : ∃ z, l[plS l m]? = some (m, z) := by
  unfold foundS at h
  split at h
  · rename_i r e
    have := of_decide_eq_true h
    exact ⟨r.2, by rw [e, ← this]⟩
  · cases h
theorem foundS_false {l : List Row} {m : List Int} (h : foundS l m = false) : ∀ z, l[plS l m]? ≠ some (m, z) := by
  intro z hz
  unfold foundS at h
  rw [hz] at h
  simp at h

theorem flat_set2 (cs : List (Value × Row)) : ∀ (t : Nat) (x : Value × Row) (y : Int), cs[t]? = some x → (cs.flatMap cell2).set (t * 2 + 1) (.int .i64 y) = (cs.set t (x.1, (x.2.1, y))).flatMap cell2 := by
  induction cs with
  | nil => intro t x u h; simp at h
  | cons a r ih =>
    intro t x u h
    cases t with
    | zero => simp at h; subst h; simp [List.flatMap_cons, cell2]
    | succ t =>
      have := ih t x u (by simpa using h)
      rw [List.flatMap_cons, List.set_cons_succ, List.flatMap_cons, ← this, show (t + 1) * 2 + 1 = t * 2 + 1 + 1 + 1 by omega]
      simp [cell2]
theorem owns_slice {w : World} {B n : Nat} {v : Value} {t : TypeId} {s : Nat} {xs : List Value} (h : w.ownsRow B t s v n xs) : ∃ A n' c, v = .slice A n' c := by
  rcases h.2 with ⟨e, _⟩ | ⟨g, cap, cur, e, _⟩
  · exact ⟨_, _, _, e⟩
  · exact ⟨_, _, _, e⟩
/-- The count of a row is changed. -/
theorem ORows.setMany {w : World} {B g n cap t : Nat} {l : List Row} {m : List Int} {z y : Int} (h : ORows w B (.slice (some ⟨g, 0, none⟩) n cap) l) (hn : l.length = n) (ht : l[t]? = some (m, z)) (hy : I64 y) :
    ORows (w.setCell ⟨g, t * 2 + 1, none⟩ (.int .i64 y)) B (.slice (some ⟨g, 0, none⟩) n cap) (l.set t (m, y)) := by
  obtain ⟨cs, e, h1, h2⟩ := h
  rw [hn] at h1
  have hx : ∃ u, cs[t]? = some (u, (m, z)) := by
    rw [← e, List.getElem?_map] at ht
    cases hc : cs[t]? with
    | none => rw [hc] at ht; cases ht
    | some x => rw [hc] at ht; cases x; simp at ht; subst ht; exact ⟨_, rfl⟩
  obtain ⟨u, hx⟩ := hx
  obtain ⟨h3, h4⟩ := h1.stored (t * 2 + 1) (.int .i64 y)
  rw [flat_set2 cs t _ y hx] at h3
  have k : Frame' (fun b => b = g) w (w.setCell ⟨g, t * 2 + 1, none⟩ (.int .i64 y)) := Frame'.setCell (p := ⟨g, t * 2 + 1, none⟩) (Frame'.refl (fun b => b = g) w) (.inl rfl) _
  refine ⟨cs.set t (u, (m, y)), by rw [← e, List.map_set], by rw [List.length_set, hn]; exact h3, fun c hc => ?_⟩
  rcases List.mem_or_eq_of_mem_set hc with hc | rfl
  · exact ⟨(h2 c hc).1.frame k (fun b _ hb e => hb (by rw [e]; rfl)), (h2 c hc).2⟩
  · exact ⟨(h2 _ (List.mem_of_getElem? hx)).1.frame k (fun b _ hb e => hb (by rw [e]; rfl)), hy⟩

theorem cells_ins (cs : List (Value × Row)) (p : Nat) (u : Value) (m : List Int) (y : Int) :
    (cs.flatMap cell2).take (p * 2) ++ ([u, .int .i64 y] ++ (cs.flatMap cell2).drop (p * 2)) = (cs.take p ++ (u, (m, y)) :: cs.drop p).flatMap cell2 := by
  rw [take_cell2, drop_cell2, List.flatMap_append, List.flatMap_cons]
  rfl
theorem put_end {w w1 w2 w3 : World} {g B n c2 : Nat} {c k y : Int} {v v3 : Value} {l : List Row} {ms : List Int} {A2 : Option Addr} {o : Obj} {cs : List (Value × Row)} (hgB : g < B) (hB1 : B ≤ w1.heap.size) (hbw : Below w.heap.size w w1) (hb2 : Below w1.heap.size w1 w2)
    (hcs : cs.map (·.2) = l) (hmk : ∀ x ∈ cs, OMarks w1 B v.ownBlock x.1 x.2.1 ∧ I64 x.2.2) (hol : ∀ k, v.ownBlock = some k → B ≤ k ∧ k < w1.heap.size) (hy : I64 y)
    (hr2 : RInts w2 A2 n c2 ms) (hf2 : 0 < n → ∃ b, A2 = some ⟨b, 0, none⟩ ∧ w1.heap.size ≤ b ∧ ∀ i, i < n → w2.frozen? ⟨b, 0 + i, none⟩ = false)
    (hown3 : w3.ownsRow B 55 2 v3 (l.length + 1) ((cs.flatMap cell2).take (plS l ms * 2) ++ ([.slice A2 n c2, .int .i64 y] ++ (cs.flatMap cell2).drop (plS l ms * 2))))
    (hgr3 : (w2.alloc o).grownBy w3 v.ownBlock) (hat3 : v3.ownBlock = v.ownBlock ∨ ∃ g, v3.ownBlock = some g ∧ (w2.alloc o).heap.size ≤ g)
    (hP3 : Has w3 g 27 #[.int .i64 c, .int .u8 k, v]) (hput : putS l ms y = l.take (plS l ms) ++ (ms, y) :: l.drop (plS l ms)) :
    PutPost w g B c k v (putS l ms y) v3 (w3.setCell ⟨g, 2, none⟩ v3) := by
  have hba : Below w2.heap.size w2 (w2.alloc o) := (Below.refl _ _).alloc (Nat.le_refl _) o
  have k1 : Frame' (fun _ => False) w1 (w2.alloc o) := (Frame'.of_below hb2).trans (Frame'.of_below (S := fun _ => False) (Below_trans' (Below.refl _ _) (Nat.le_refl _) hba) |>.mono (fun _ _ h => h))
  have k3 := Frame'.of_grown hgr3
  have k4 : Frame' (fun b => b = g) w3 (w3.setCell ⟨g, 2, none⟩ v3) := Frame'.setCell (p := ⟨g, 2, none⟩) (Frame'.refl (fun b => b = g) w3) (.inl rfl) v3
  have hz2 := hb2.size
  have hother : ∀ b, b < (w2.alloc o).heap.size → some b = v3.ownBlock → some b = v.ownBlock := fun b hb e => by
    rcases hat3 with e2 | ⟨g', e2, hg'⟩
    · rw [e, e2]
    · rw [e2] at e; cases e; omega
  have keep : ∀ u xs, OMarks (w2.alloc o) B v.ownBlock u xs → OMarks (w3.setCell ⟨g, 2, none⟩ v3) B v3.ownBlock u xs := fun u xs h => by
    have h1 := h.frame k3 (fun b _ hb e => hb e)
    have h2 : OMarks w3 B v3.ownBlock u xs := by
      obtain ⟨A, n', c', e, r, f⟩ := h
      obtain ⟨A', n'', c'', e', r', f'⟩ := h1
      rw [e] at e'
      cases e'
      refine ⟨A, n', c', e, r', fun hn => ?_⟩
      obtain ⟨b, off, e1, e2, e3, e4⟩ := f hn
      obtain ⟨b', off', e1', _, _, e4'⟩ := f' hn
      rw [e1] at e1'
      cases e1'
      obtain ⟨b'', off'', e1'', hc⟩ := r.2.2.2.2 hn
      rw [e1] at e1''
      cases e1''
      exact ⟨b, off, e1, e2, fun e5 => e3 (hother b (World.block_lt_of_cell? _ _ (hc 0 hn)) e5), e4'⟩
    exact h2.frame k4 (fun b hb _ e => by omega)
  refine ⟨hP3.put 2 v3, ⟨cs.take (plS l ms) ++ (.slice A2 n c2, (ms, y)) :: cs.drop (plS l ms), ?_, ?_, ?_⟩, ?_⟩
  · rw [hput, ← hcs, List.map_append, List.map_cons, List.map_take, List.map_drop]
  · rw [← cells_ins]
    have hl : (putS l ms y).length = l.length + 1 := by rw [hput]; have := plS_le l ms; simp; omega
    rw [hl]
    exact owns_frame hown3 k4 (fun b hb e => by
      rcases hat3 with e2 | ⟨g', e2, hg'⟩
      · have := (hol b (by rw [← e2]; exact hb)).1; omega
      · rw [e2] at hb; cases hb; simp at hg'; omega)
  · intro x hx
    have hin : x = (.slice A2 n c2, (ms, y)) ∨ x ∈ cs := by
      rcases List.mem_append.1 hx with h | h
      · exact .inr (List.mem_of_mem_take h)
      · rcases List.mem_cons.1 h with h | h
        · exact .inl h
        · exact .inr (List.mem_of_mem_drop h)
    rcases hin with rfl | hin
    · refine ⟨keep _ _ ?_, hy⟩
      have : OMarks w2 B v.ownBlock (.slice A2 n c2) ms := ⟨A2, n, c2, rfl, hr2, fun hn => by
        obtain ⟨b, e, hb, hz⟩ := hf2 hn
        exact ⟨b, 0, e, by omega, fun e => by have := (hol b e.symm).2; omega, hz⟩⟩
      exact this.frame (Frame'.of_below (S := fun _ => False) hba) (fun _ _ _ h => h)
    · exact ⟨keep _ _ ((hmk x hin).1.frame k1 (fun _ _ _ h => h)), (hmk x hin).2⟩
  · have f1 : Frame' (fun b => b = g ∨ some b = v.ownBlock) w (w2.alloc o) := (Frame'.of_below hbw).trans ((Frame'.of_below hb2).trans (Frame'.of_below hba))
    exact (f1.trans (k3.mono fun b _ h => .inr h)).trans (k4.mono fun b _ h => .inl h)

end Go.Proofs.YtoeajgjpakilgaaGreat

namespace Go.Proofs.YtoeajgjpakilgaaGreat
open Go.RowKit Go.Proofs
attribute [local go_sem] cell?_more cell?_alloc_some cell?_setCell_far frozen?_alloc_some frozen?_more
/-- A profile and an error are handed back. -/
def PPost (w : World) (r : PR) (e : Ending) (w' : World) : Prop :=
  ∃ A n cp, e = .returned (.tuple #[.agg #[.int .i64 r.c, .int .u8 r.k, .slice A n cp], .int .i64 r.err]) ∧ RRows w' A n cp r.l ∧ Below w.heap.size w w'


/-- What whole hands back: its argument, or an error. -/
def WholePost (w : World) (c k : Int) (A : Option Addr) (n cp : Nat) (l : List Row) (e : Ending) (w' : World) : Prop :=
  (if checkS c k l = 0 then e = .returned (.tuple #[.agg #[.int .i64 c, .int .u8 k, .slice A n cp], .int .i64 0]) else e = .returned (.tuple #[.agg #[.int .i64 0, .int .u8 0, .slice none 0 0], .int .i64 (checkS c k l)])) ∧ Below w.heap.size w w'

end Go.Proofs.YtoeajgjpakilgaaGreat

namespace Go.Proofs.YtoeajgjpakilgaaGreat
open Go.RowKit Go.Proofs
attribute [local go_sem] cell?_more cell?_alloc_some cell?_setCell_far frozen?_alloc_some frozen?_more
theorem row_small {c k : Int} {l : List Row} (h : checkS c k l = 0) {x : Row} (hx : x ∈ l) : x.1.length ≤ 10 ∧ 0 < x.2 ∧ x.2 ≤ 1000000 := by
  obtain ⟨h1, h2, h3, h4, h5, h6, h7, h8, h9⟩ := check_iff.1 h
  have hb := h9 x hx
  refine ⟨?_, h8 x hx, Int.le_trans (le_tot h8 hx) h6⟩
  unfold bcheckS at hb
  split at hb
  · cases hb
  split at hb
  · rename_i hf
    unfold fineS at hf
    split at hf
    · simp only [Bool.and_eq_true, decide_eq_true_eq] at hf; omega
    split at hf
    · simp only [Bool.and_eq_true, List.all_eq_true] at hf
      have hn : x.1.Nodup := of_decide_eq_true hf.2
      have := hn.length_le_of_subset (fun z hz => mem_rangeI.2 (show 0 ≤ z ∧ z < ((10 : Nat) : Int) from by have := inR_iff.1 (hf.1.1 z hz); omega))
      rwa [length_rangeI] at this
    split at hf
    · simp only [Bool.and_eq_true, List.all_eq_true] at hf
      have hn : x.1.Nodup := of_decide_eq_true hf.2
      have := hn.length_le_of_subset (fun z hz => mem_rangeI.2 (show 0 ≤ z ∧ z < ((10 : Nat) : Int) from by have := inR_iff.1 (hf.1 z hz); omega))
      rwa [length_rangeI] at this
    · cases hf
  · cases hb

/-- A profile of its own and an error are handed back. -/
def PPostO (w : World) (r : PR) (e : Ending) (w' : World) : Prop :=
  ∃ A n cp, e = .returned (.tuple #[.agg #[.int .i64 r.c, .int .u8 r.k, .slice A n cp], .int .i64 r.err]) ∧ ORows w' w.heap.size (.slice A n cp) r.l ∧ Below w.heap.size w w'

end Go.Proofs.YtoeajgjpakilgaaGreat
