/-
  Slices of ballots: their parts, a copy of one's own, two of them exchanged.
-/
import Derived.Test.YtleniljhacnikaaW9t
import Derived.Test.YtleniljhacnikaaW9x
namespace Go.Proofs.Ytleniljhacnikaa
open Go.RowKit Go.Proofs

theorem infoB : (Try.prog.info? 63).map (fun i => (i.zero, i.size, i.bytes)) = some (some (.agg #[.int .u8 0, .slice none 0 0]), 2, 32) := by kernel_rfl

theorem sliced_hi {w : World} {A : Option Addr} {n c i : Nat} {l : List Bal} (h : RBals w A n c l) (hi : i ≤ n) : ∃ A' n2 c2, Hid (sliced A i n c 2 = .slice A' n2 c2) ∧ RBals w A' n2 c2 (l.drop i) := by
  obtain ⟨h1, h2, h3, h4⟩ := h
  refine ⟨_, _, _, rfl, by rw [List.length_drop, h1], by omega, by omega, fun hn => ?_⟩
  obtain ⟨b, off, rfl, hc⟩ := h4 (by omega)
  refine ⟨b, off + i * 2, ?_, fun j hj => ?_⟩
  · have hci : ¬ (c = i) := by omega
    simp [hci, Addr.add]
  · obtain ⟨Am, nm, cm, k1, k2, k3⟩ := hc (i + j) (by omega)
    have hg : (l.drop i).getD j (0, []) = l.getD (i + j) (0, []) := by simp [List.getD, List.getElem?_drop]
    rw [hg]
    exact ⟨Am, nm, cm, by rw [← k1]; congr 2; omega, by rw [← k2]; congr 2; omega, k3⟩
theorem sliced_lo {w : World} {A : Option Addr} {n c i : Nat} {l : List Bal} (h : RBals w A n c l) (hi : i ≤ n) : ∃ A' n2 c2, Hid (sliced A 0 i c 2 = .slice A' n2 c2) ∧ RBals w A' n2 c2 (l.take i) := by
  obtain ⟨h1, h2, h3, h4⟩ := h
  refine ⟨_, _, _, rfl, by rw [List.length_take, h1]; omega, by omega, by omega, fun hn => ?_⟩
  obtain ⟨b, off, rfl, hc⟩ := h4 (by omega)
  refine ⟨b, off, ?_, fun j hj => ?_⟩
  · have hci : ¬ (c = 0) := by omega
    simp [hci, Addr.add]
  · obtain ⟨Am, nm, cm, k1, k2, k3⟩ := hc j (by omega)
    have hg : (l.take i).getD j (0, []) = l.getD j (0, []) := by simp [List.getD, List.getElem?_take, show j < i by omega]
    rw [hg]
    exact ⟨Am, nm, cm, k1, k2, k3⟩

section
variable {ops : Array Oper} {rest : List Oper} {o : Oper} {a : Act} {w : World} {Q : Exit → Act → World → Prop}
theorem sliceBalsHi (hg : o.guard = none) {x lo : Operand} (ho : o.op = .slice 60 x (some lo) none none) {A A' : Option Addr} {n c i n2 c2 : Nat} (hx : a.eval x = .slice A n c) (hlo : a.eval lo = .int .i64 (i : Int)) (hi : i ≤ n) (hA : Hid (sliced A i n c 2 = .slice A' n2 c2))
    (h : wpList Try.prog ops Q rest (a.put o.dst (.slice A' n2 c2)) w) : wpList Try.prog ops Q (o :: rest) a w :=
  wpList_plain hg fun _ hK => by
    have he : Try.prog.elem 60 = 63 := by kernel_rfl
    have hu : Try.prog.underlying 60 = some (.slice (Try.prog.elem 60)) := by rw [he]; exact Try.underlying60
    have hs : (sizeOf 63).run Try.prog w = .ok 2 w := Try.sizeOf63 w
    have hr : (Instr.sliceAt 60 (.slice A n c) (some (.int .i64 (i : Int))) none none).run Try.prog w = .ok (.slice A' n2 c2) w := by
      rw [run_sliceAt_slice w _ _ _ _ _ hu, run_slice_l w _ _ _ _ hu .i64 (i : Int) (by omega) (by omega)]
      rw [Int.toNat_natCast, ← hA.out, he, hs]; rfl
    unfold Oper.wp execOp
    simp only [ho, Option.map_some, Option.map_none, hx, hlo, Sem.run_bind, hr, Result.andThen_ok]
    exact hK _ _ h
theorem sliceBalsLo (hg : o.guard = none) {x hi : Operand} (ho : o.op = .slice 60 x none (some hi) none) {A A' : Option Addr} {n c i n2 c2 : Nat} (hx : a.eval x = .slice A n c) (hhi : a.eval hi = .int .i64 (i : Int)) (hi : i ≤ c) (hA : Hid (sliced A 0 i c 2 = .slice A' n2 c2))
    (h : wpList Try.prog ops Q rest (a.put o.dst (.slice A' n2 c2)) w) : wpList Try.prog ops Q (o :: rest) a w :=
  wpList_plain hg fun _ hK => by
    have he : Try.prog.elem 60 = 63 := by kernel_rfl
    have hu : Try.prog.underlying 60 = some (.slice (Try.prog.elem 60)) := by rw [he]; exact Try.underlying60
    have hs : (sizeOf 63).run Try.prog w = .ok 2 w := Try.sizeOf63 w
    have hr : (Instr.sliceAt 60 (.slice A n c) none (some (.int .i64 (i : Int))) none).run Try.prog w = .ok (.slice A' n2 c2) w := by
      rw [run_sliceAt_slice w _ _ _ _ _ hu, run_slice_h w _ _ _ _ hu .i64 (i : Int) (by omega) (by omega)]
      rw [Int.toNat_natCast, ← hA.out, he, hs]; rfl
    unfold Oper.wp execOp
    simp only [ho, Option.map_some, Option.map_none, hx, hhi, Sem.run_bind, hr, Result.andThen_ok]
    exact hK _ _ h
end

/-- Old ballots copied. -/
theorem copy_bals (w0 w : World) (ty : TypeId) {gb : Nat} (hgb : Has w gb 63 #[]) (hB0 : w0.heap.size ≤ gb) {A : Option Addr} {n c : Nat} {bl : List Bal} (hr : RBals w0 A n c bl) (hb : Below w0.heap.size w0 w) (hn : n ≤ 1000) :
    ∃ A1 c1 w', (Builtin.append_ #[60, 60] ty #[.slice (some ⟨gb, 0, none⟩) 0 0, .slice A n c]).run Try.prog w = .ok (.slice A1 n c1) w' ∧ RBals w' A1 n c1 bl ∧ Below w0.heap.size w0 w' ∧ (0 < n → ∃ g cur, A1 = some ⟨g, 0, none⟩ ∧ w0.heap.size ≤ g ∧ Has w' g 63 cur) := by
  obtain ⟨i0, hi, hz0, hz1, hz2⟩ := info_parts infoB
  have hrw := hr.below hb
  have hlen := hr.len
  have hown : w.ownsRow w0.heap.size 63 2 (.slice (some ⟨gb, 0, none⟩) 0 0) 0 [] := ⟨rfl, .inr ⟨gb, 0, #[], rfl, hB0, hgb, Nat.le_refl _, Nat.zero_le _, rfl, rfl⟩⟩
  have hcell : ∀ b off, A = some ⟨b, off, none⟩ → ∀ j, j < n * 2 → ∃ u, w.cell? ⟨b, off + j, none⟩ = some u ∧ u.oneCell' = true := fun b off e j hj => by
    obtain ⟨b', off', e', hc⟩ := hrw.2.2.2 (by omega)
    rw [e] at e'
    cases e'
    obtain ⟨Am, nm, cm, k1, k2, _⟩ := hc (j / 2) (by omega)
    rcases (show j = j / 2 * 2 ∨ j = j / 2 * 2 + 1 by omega) with e1 | e1
    · exact ⟨_, by rw [e1]; exact k1, rfl⟩
    · exact ⟨_, by rw [e1, ← Nat.add_assoc]; exact k2, rfl⟩
  have hadd : ∀ b off j, (⟨b, off, none⟩ : Addr).add j = ⟨b, off + j, none⟩ := fun b off j => by unfold Addr.add; split <;> simp_all
  obtain ⟨news, hnews⟩ : ∃ news : List Value, news = (List.range (n * 2)).map fun j => A.elim undef fun a => (w.cell? (a.add j)).getD undef := ⟨_, rfl⟩
  have hl : news.length = n * 2 := by rw [hnews]; simp
  have hA0 : A = none → n = 0 := fun e => by
    rcases Nat.eq_zero_or_pos n with h0 | h0
    · exact h0
    · obtain ⟨b, off, e', _⟩ := hrw.2.2.2 h0; rw [e] at e'; cases e'
  have hget : ∀ j, j < n * 2 → ∃ b off u, A = some ⟨b, off, none⟩ ∧ news[j]? = some u ∧ w.cell? ⟨b, off + j, none⟩ = some u ∧ u.oneCell' = true := fun j hj => by
    obtain ⟨b, off, e, _⟩ := hrw.2.2.2 (by omega)
    obtain ⟨u, hu, h1⟩ := hcell b off e j hj
    refine ⟨b, off, u, e, ?_, hu, h1⟩
    rw [hnews, List.getElem?_map, List.getElem?_range hj, e]
    simp only [Option.map_some, Option.elim_some, hadd, hu, Option.getD_some]
  obtain ⟨v', w', k1, k2, k3, k4⟩ := run_appU w w0.heap.size 60 ty 63 i0 (.agg #[.int .u8 0, .slice none 0 0]) 2 32 Try.underlying60 hi hz0 hz1 hz2 rfl (by decide) _ 0 [] hown A n c news hl hA0 (fun a e j u hj => by
      have hjn : j < n * 2 := by have := (List.getElem?_eq_some_iff.1 hj).1; omega
      obtain ⟨b, off, u', e', h1, h2, _⟩ := hget j hjn
      rw [e] at e'
      cases e'
      rw [h1] at hj
      cases hj
      rw [hadd]; exact h2) (fun u hu => by
      obtain ⟨j, hj⟩ := List.getElem?_of_mem hu
      have hjn : j < n * 2 := by have := (List.getElem?_eq_some_iff.1 hj).1; omega
      obtain ⟨b, off, u', _, h1, _, h3⟩ := hget j hjn
      rw [h1] at hj
      cases hj
      exact h3) (by unfold maxLen; omega) (by omega) hb.size
  have hb' : Below w0.heap.size w0 w' := hb.trans ⟨k3.os, k3.tape, k3.output, k3.size, fun i hi => k3.block i (by have := hb.size; omega) (fun e => by have e' : some i = some gb := e; have := Option.some.inj e'; omega)⟩
  rw [Nat.zero_add, List.nil_append] at k2
  rcases k2.2 with ⟨e, h0⟩ | ⟨g, cap, cur, e, hB, hg, hnc, hcm, hcs, ht⟩
  · subst h0 e
    exact ⟨none, 0, w', k1, ⟨hlen, Nat.le_refl _, by omega, fun h => absurd h (by omega)⟩, hb', fun h => absurd h (by omega)⟩
  · subst e
    have hgt : Has w' g 63 cur := hg
    refine ⟨_, cap, w', k1, ⟨hlen, hnc, by unfold maxLen at hcm; omega, fun h0 => ⟨g, 0, rfl, fun i hi => ?_⟩⟩, hb', fun _ => ⟨g, cur, rfl, hB, hgt⟩⟩
    have hc2 : ∀ j, j < n * 2 → w'.cell? ⟨g, j, none⟩ = news[j]? := fun j hj => by
      rw [cell_of_row w' g j cur _ (0, 0) hg, ← Array.getElem?_toList, ← ht, List.getElem?_take_of_lt hj]
    obtain ⟨b, off, eA, hc⟩ := hrw.2.2.2 h0
    obtain ⟨Am, nm, cm, c0, c1, _⟩ := hc i hi
    obtain ⟨b0, off0, eA0, hc0⟩ := hr.2.2.2 h0
    obtain ⟨Am0, nm0, cm0, d0, d1, d2⟩ := hc0 i hi
    rw [eA] at eA0
    cases eA0
    have d1' := keep_cell hb d1
    rw [c1] at d1'
    cases d1'
    obtain ⟨x1, x2, u, x3, x4, x5, _⟩ := hget (i * 2) (by omega)
    rw [eA] at x3
    cases x3
    rw [c0] at x5
    cases x5
    obtain ⟨y1, y2, v, y3, y4, y5, _⟩ := hget (i * 2 + 1) (by omega)
    rw [eA] at y3
    cases y3
    rw [← Nat.add_assoc, c1] at y5
    cases y5
    rw [Nat.zero_add]
    exact ⟨Am, nm, cm, by rw [hc2 _ (by omega), x4], by rw [hc2 _ (by omega), y4], d2.below hb'⟩

/-- Numbers outlive a store to a cell that holds no number of theirs. -/
theorem RInts.setNot {w : World} {A : Option Addr} {n c : Nat} {xs : List Int} (h : RInts w A n c xs) {p : Addr} {u : Value} (hp : w.cell? p = some u) (hu : ∀ x, u ≠ .int .i64 x) (v : Value) : RInts (w.setCell p v) A n c xs := by
  refine ⟨h.1, h.2.1, h.2.2.1, h.2.2.2.1, fun hn => ?_⟩
  obtain ⟨b, off, e, hc⟩ := h.2.2.2.2 hn
  refine ⟨b, off, e, fun i hi => ?_⟩
  rw [World.cell?_setCell_other w p _ v (fun e2 => by have := hc i hi; rw [← e2, hp] at this; cases this; exact hu _ rfl)]
  exact hc i hi
/-- One ballot is stored. -/
theorem RBals.set {w : World} {g n c : Nat} {bl : List Bal} (h : RBals w (some ⟨g, 0, none⟩) n c bl) {i : Nat} (hi : i < n) {kb : Int} {Am : Option Addr} {nm cm : Nat} {ms : List Int} (hm : RInts w Am nm cm ms) :
    RBals ((w.setCell ⟨g, i * 2, none⟩ (.int .u8 kb)).setCell ⟨g, i * 2 + 1, none⟩ (.slice Am nm cm)) (some ⟨g, 0, none⟩) n c (bl.set i (kb, ms)) ∧
      ∀ A' n' c' xs, RInts w A' n' c' xs → RInts ((w.setCell ⟨g, i * 2, none⟩ (.int .u8 kb)).setCell ⟨g, i * 2 + 1, none⟩ (.slice Am nm cm)) A' n' c' xs := by
  obtain ⟨h1, h2, h3, h4⟩ := h
  obtain ⟨b, off, e, hc⟩ := h4 (by omega)
  cases e
  simp only [Nat.zero_add] at hc
  obtain ⟨Ai, ni, ci, a0, a1, a2⟩ := hc i hi
  have hne : ∀ {x y : Nat}, x ≠ y → (⟨g, x, none⟩ : Addr) ≠ ⟨g, y, none⟩ := fun h e => h (by cases e; rfl)
  have a1' : (w.setCell ⟨g, i * 2, none⟩ (.int .u8 kb)).cell? ⟨g, i * 2 + 1, none⟩ = some (.slice Ai ni ci) := by
    rw [World.cell?_setCell_other w _ _ _ (hne (by omega))]; exact a1
  have keep : ∀ A' n' c' xs, RInts w A' n' c' xs → RInts ((w.setCell ⟨g, i * 2, none⟩ (.int .u8 kb)).setCell ⟨g, i * 2 + 1, none⟩ (.slice Am nm cm)) A' n' c' xs := fun A' n' c' xs hx =>
    (hx.setNot a0 (fun x e => by cases e) _).setNot a1' (fun x e => by cases e) _
  refine ⟨⟨by rw [List.length_set]; exact h1, h2, h3, fun _ => ⟨g, 0, rfl, fun j hj => ?_⟩⟩, keep⟩
  rw [Nat.zero_add]
  by_cases hij : j = i
  · subst hij
    have hg : (bl.set j (kb, ms)).getD j (0, []) = (kb, ms) := by simp [List.getD, List.getElem?_set_self (show j < bl.length by omega)]
    rw [hg]
    refine ⟨Am, nm, cm, ?_, World.cell?_setCell_same _ _ _ a1', keep _ _ _ _ hm⟩
    rw [World.cell?_setCell_other _ _ _ _ (hne (by omega))]
    exact World.cell?_setCell_same _ _ _ a0
  · have hg : (bl.set i (kb, ms)).getD j (0, []) = bl.getD j (0, []) := by simp [List.getD, List.getElem?_set_ne (Ne.symm hij)]
    rw [hg]
    obtain ⟨Aj, nj, cj, b0, b1, b2⟩ := hc j hj
    refine ⟨Aj, nj, cj, ?_, ?_, keep _ _ _ _ b2⟩
    · rw [World.cell?_setCell_other _ _ _ _ (hne (by omega)), World.cell?_setCell_other _ _ _ _ (hne (by omega))]; exact b0
    · rw [World.cell?_setCell_other _ _ _ _ (hne (by omega)), World.cell?_setCell_other _ _ _ _ (hne (by omega))]; exact b1
/-- Two ballots are exchanged. -/
theorem RBals.swap {w : World} {g n c : Nat} {bl : List Bal} (h : RBals w (some ⟨g, 0, none⟩) n c bl) {i k : Nat} (hi : i < n) (hk : k < n) : ∃ ki Ai ni ci kk Ak nk ck bl', w.cell? ⟨g, i * 2, none⟩ = some (.int .u8 ki) ∧ w.cell? ⟨g, i * 2 + 1, none⟩ = some (.slice Ai ni ci) ∧ w.cell? ⟨g, k * 2, none⟩ = some (.int .u8 kk) ∧ w.cell? ⟨g, k * 2 + 1, none⟩ = some (.slice Ak nk ck) ∧ bl'.Perm bl ∧
    RBals ((((w.setCell ⟨g, i * 2, none⟩ (.int .u8 kk)).setCell ⟨g, i * 2 + 1, none⟩ (.slice Ak nk ck)).setCell ⟨g, k * 2, none⟩ (.int .u8 ki)).setCell ⟨g, k * 2 + 1, none⟩ (.slice Ai ni ci)) (some ⟨g, 0, none⟩) n c bl' := by
  obtain ⟨b, off, e, hc⟩ := h.2.2.2 (by omega)
  cases e
  simp only [Nat.zero_add] at hc
  obtain ⟨Ai, ni, ci, a0, a1, a2⟩ := hc i hi
  obtain ⟨Ak, nk, ck, b0, b1, b2⟩ := hc k hk
  have hli : i < bl.length := by have := h.len; omega
  have hlk : k < bl.length := by have := h.len; omega
  have e1 : bl.getD i (0, []) = bl[i] := by simp [List.getD, hli]
  have e2 : bl.getD k (0, []) = bl[k] := by simp [List.getD, hlk]
  rw [e1] at a0 a2
  rw [e2] at b0 b2
  obtain ⟨s1, s2⟩ := h.set hi (kb := bl[k].1) b2
  obtain ⟨s3, _⟩ := s1.set hk (kb := bl[i].1) (s2 _ _ _ _ a2)
  exact ⟨_, Ai, ni, ci, _, Ak, nk, ck, _, a0, a1, b0, b1, List.set_set_perm hli hlk, s3⟩
end Go.Proofs.Ytleniljhacnikaa
