/-
  What speaks of some blocks alone (On); slices of structs: owned (OAgg), read (RAgg); one more is appended.
-/
import Derived.Test.YtolbceckbnifmaaGreatApp
import Derived.Test.YtolbceckbnifmaaGreatOwn
import Derived.Test.YtolbceckbnifmaaGreatSpecC
namespace Go.Proofs.YtolbceckbnifmaaGreat
open Go.RowKit Go.Proofs

/-- R speaks of the blocks of fp alone, and holds. -/
def On (fp : Nat → Prop) (w : World) (R : World → Prop) : Prop := (∀ b, fp b → b < w.heap.size) ∧ ∀ w', (∀ b, fp b → w'.heap[b]? = w.heap[b]?) → R w'
namespace On
variable {fp fp' S : Nat → Prop} {w w' : World} {R R' : World → Prop}
theorem get (h : On fp w R) : R w := h.2 w fun _ _ => rfl
theorem keep (h : On fp w R) (k : ∀ b, fp b → w'.heap[b]? = w.heap[b]?) : On fp w' R := by
  refine ⟨fun b hb => ?_, fun w2 h2 => h.2 w2 fun b hb => (h2 b hb).trans (k b hb)⟩
  have h1 := h.1 b hb
  have e := k b hb
  rw [Array.getElem?_eq_getElem h1] at e
  exact (Array.getElem?_eq_some_iff.1 e).1
theorem below (h : On fp w R) (hb : Below w.heap.size w w') : On fp w' R := h.keep fun b hb' => hb.block b (h.1 b hb')
theorem frame (h : On fp w R) (k : Frame' S w w') (hS : ∀ b, fp b → ¬ S b) : On fp w' R := h.keep fun b hb => k.block b (h.1 b hb) (hS b hb)
theorem and (h : On fp w R) (h' : On fp' w R') : On (fun b => fp b ∨ fp' b) w fun W => R W ∧ R' W :=
  ⟨fun b hb => hb.elim (h.1 b) (h'.1 b), fun w2 k => ⟨h.2 w2 fun b hb => k b (.inl hb), h'.2 w2 fun b hb => k b (.inr hb)⟩⟩
theorem imp (h : On fp w R) (hR : ∀ W, R W → R' W) : On fp w R' := ⟨h.1, fun w2 k => hR _ (h.2 w2 k)⟩
theorem wide (h : On fp w R) (hf : ∀ b, fp b → fp' b) (hl : ∀ b, fp' b → b < w.heap.size) : On fp' w R := ⟨hl, fun w2 k => h.2 w2 fun b hb => k b (hf b hb)⟩
theorem none_ {w : World} {p : Prop} (h : p) : On (fun _ => False) w fun _ => p := ⟨fun _ h => h.elim, fun _ _ => h⟩
end On

/-- The block of a slice. -/
def fpS (A : Option Addr) (n : Nat) (b : Nat) : Prop := 0 < n ∧ ∃ off, A = some ⟨b, off, none⟩
theorem RInts.on {w : World} {A : Option Addr} {n c : Nat} {xs : List Int} (h : RInts w A n c xs) : On (fpS A n) w fun W => RInts W A n c xs := by
  refine ⟨?_, fun w2 k => ⟨h.1, h.2.1, h.2.2.1, h.2.2.2.1, fun hn => ?_⟩⟩
  · rintro b ⟨hn, off, e⟩
    obtain ⟨b', off', e', hc⟩ := h.2.2.2.2 hn
    rw [e] at e'; cases e'
    exact World.block_lt_of_cell? w _ (hc 0 hn)
  · obtain ⟨b, off, e, hc⟩ := h.2.2.2.2 hn
    refine ⟨b, off, e, fun i hi => ?_⟩
    rw [World.cell?_of_block (w := w) (k b ⟨hn, off, e⟩)]
    exact hc i hi
theorem RWrds.on {w : World} {A : Option Addr} {n c : Nat} {xs : List Int} (h : RWrds w A n c xs) : On (fpS A n) w fun W => RWrds W A n c xs := by
  refine ⟨?_, fun w2 k => ⟨h.1, h.2.1, h.2.2.1, h.2.2.2.1, fun hn => ?_⟩⟩
  · rintro b ⟨hn, off, e⟩
    obtain ⟨b', off', e', hc⟩ := h.2.2.2.2 hn
    rw [e] at e'; cases e'
    exact World.block_lt_of_cell? w _ (hc 0 hn)
  · obtain ⟨b, off, e, hc⟩ := h.2.2.2.2 hn
    refine ⟨b, off, e, fun i hi => ?_⟩
    rw [World.cell?_of_block (w := w) (k b ⟨hn, off, e⟩)]
    exact hc i hi

/-- Two lists of as many elements, each pair of which is in E. -/
def All2 {α β : Type} (E : α → β → Prop) (xs : List α) (ys : List β) : Prop := xs.length = ys.length ∧ ∀ (i : Nat) x y, xs[i]? = some x → ys[i]? = some y → E x y
theorem All2.nil_ {α β : Type} (E : α → β → Prop) : All2 E [] [] := ⟨rfl, fun i x y h => by simp at h⟩
theorem All2.snoc {α β : Type} {E : α → β → Prop} {xs : List α} {ys : List β} (h : All2 E xs ys) {x : α} {y : β} (hx : E x y) : All2 E (xs ++ [x]) (ys ++ [y]) := by
  refine ⟨by simp [h.1], fun i a b ha hb => ?_⟩
  rcases Nat.lt_or_ge i xs.length with hi | hi
  · rw [List.getElem?_append_left hi] at ha
    rw [List.getElem?_append_left (by rw [← h.1]; exact hi)] at hb
    exact h.2 i a b ha hb
  · rw [List.getElem?_append_right hi] at ha
    rw [List.getElem?_append_right (by rw [← h.1]; exact hi), ← h.1] at hb
    rcases Nat.eq_zero_or_pos (i - xs.length) with e | e
    · rw [e] at ha hb; simp at ha hb; subst ha hb; exact hx
    · rw [List.getElem?_eq_none (by simp; omega)] at ha; cases ha

theorem get_flatten {α : Type} {s : Nat} : ∀ {vs : List (List α)}, (∀ x ∈ vs, x.length = s) → ∀ {i j : Nat} {x : List α}, vs[i]? = some x → j < s → vs.flatten[i * s + j]? = x[j]?
  | [], _, i, j, x, h, _ => by simp at h
  | a :: r, hl, i, j, x, h, hj => by
    have ha := hl a (List.mem_cons_self ..)
    cases i with
    | zero =>
      simp at h; subst h
      rw [List.flatten_cons, List.getElem?_append_left (by omega)]
      simp
    | succ i =>
      simp at h
      rw [List.flatten_cons, List.getElem?_append_right (by rw [ha, Nat.succ_mul]; omega), ha, show (i + 1) * s + j - s = i * s + j by rw [Nat.succ_mul]; omega]
      exact get_flatten (fun y hy => hl y (List.mem_cons_of_mem _ hy)) h hj

/-- The slice value v owns elements of type e, of size cells each; what they say is l (E), and they speak of fp's blocks alone, v's own block not among them. -/
def OAgg {α : Type} (E : World → List Value → α → Prop) (e : TypeId) (size : Nat) (fp : Nat → Prop) (w : World) (B : Nat) (v : Value) (l : List α) : Prop :=
  ∃ vs : List (List Value), (∀ x ∈ vs, x.length = size) ∧ w.ownsRow B e size v l.length vs.flatten ∧ On fp w (fun W => All2 (E W) vs l) ∧ ∀ b, v.ownBlock = some b → ¬ fp b
/-- The slice value (A, n, c) reads as the elements l. -/
def RAgg {α : Type} (E : World → List Value → α → Prop) (size : Nat) (w : World) (A : Option Addr) (n c : Nat) (l : List α) : Prop :=
  l.length = n ∧ n ≤ c ∧ c ≤ 9223372036854775807 ∧ (0 < n → ∃ b off, A = some ⟨b, off, none⟩ ∧ ∀ i, i < n → ∃ vs x, l[i]? = some x ∧ vs.length = size ∧ (∀ j u, vs[j]? = some u → w.cell? ⟨b, off + i * size + j, none⟩ = some u) ∧ E w vs x)
/-- E reads old memory alone. -/
def BelowE {α : Type} (E : World → List Value → α → Prop) : Prop := ∀ w w' vs x, E w vs x → Below w.heap.size w w' → E w' vs x

section
variable {α : Type} {E : World → List Value → α → Prop} {e : TypeId} {size : Nat} {fp S : Nat → Prop} {w w' : World} {B : Nat} {v : Value} {l : List α} {A : Option Addr} {n c k : Nat}
theorem OAgg.nil_ (E : World → List Value → α → Prop) (e : TypeId) (size : Nat) (w : World) (B : Nat) : OAgg E e size (fun _ => False) w B (.slice none 0 0) [] :=
  ⟨[], by simp, World.ownsRow_nil _ _ _ _, ⟨fun _ h => h.elim, fun _ _ => All2.nil_ _⟩, fun _ h => by cases h⟩
theorem OAgg.keep (h : OAgg E e size fp w B v l) (k : ∀ b, fp b ∨ v.ownBlock = some b → w'.heap[b]? = w.heap[b]?) : OAgg E e size fp w' B v l := by
  obtain ⟨vs, h1, h2, h3, h4⟩ := h
  refine ⟨vs, h1, ?_, h3.keep fun b hb => k b (.inl hb), h4⟩
  obtain ⟨k1, k2⟩ := h2
  refine ⟨k1, ?_⟩
  rcases k2 with k2 | ⟨g, cap, cur, e1, hb1, hg, r⟩
  · exact .inl k2
  · exact .inr ⟨g, cap, cur, e1, hb1, (k g (.inr (by rw [e1]; rfl))).trans hg, r⟩
theorem OAgg.lt (h : OAgg E e size fp w B v l) {b : Nat} (hb : v.ownBlock = some b) : B ≤ b ∧ b < w.heap.size := by
  obtain ⟨vs, h1, h2, h3, h4⟩ := h
  exact World.ownsRow.lt h2 b hb
theorem OAgg.fp_lt (h : OAgg E e size fp w B v l) {b : Nat} (hb : fp b) : b < w.heap.size := by
  obtain ⟨vs, h1, h2, h3, h4⟩ := h
  exact h3.1 b hb
theorem OAgg.below (h : OAgg E e size fp w B v l) (hb : Below w.heap.size w w') : OAgg E e size fp w' B v l :=
  h.keep fun b hb' => hb.block b (hb'.elim h.fp_lt fun e => (h.lt e).2)
theorem OAgg.frame (h : OAgg E e size fp w B v l) (k : Frame' S w w') (hS : ∀ b, fp b → ¬ S b) (hv : ∀ b, v.ownBlock = some b → ¬ S b) : OAgg E e size fp w' B v l :=
  h.keep fun b hb' => k.block b (hb'.elim h.fp_lt fun e => (h.lt e).2) (hb'.elim (hS b) (hv b))
theorem OAgg.mono {B' : Nat} (h : OAgg E e size fp w B v l) (hB : B' ≤ B) : OAgg E e size fp w B' v l := by
  obtain ⟨vs, h1, ⟨k1, k2⟩, h3⟩ := h
  refine ⟨vs, h1, ⟨k1, ?_⟩, h3⟩
  rcases k2 with k2 | ⟨g, cap, cur, e1, hb1, r⟩
  · exact .inl k2
  · exact .inr ⟨g, cap, cur, e1, by omega, r⟩
theorem OAgg.slice (h : OAgg E e size fp w B v l) : ∃ A c, v = .slice A l.length c := by
  obtain ⟨vs, h1, ⟨k1, k2⟩, h3⟩ := h
  rcases k2 with ⟨e1, h0⟩ | ⟨g, cap, cur, e1, _⟩
  · exact ⟨none, 0, by rw [e1, h0]⟩
  · exact ⟨_, cap, e1⟩
theorem OAgg.reads (h : OAgg E e size fp w B (.slice A n c) l) : RAgg E size w A n c l := by
  obtain ⟨vs, h1, ⟨k1, k2⟩, h3, h4⟩ := h
  have hA := h3.get
  rcases k2 with ⟨e1, h0⟩ | ⟨g, cap, cur, e1, hb1, hg, hnc, hcm, hcs, ht⟩
  · cases e1
    exact ⟨h0, Nat.le_refl _, by omega, fun h => absurd h (by omega)⟩
  · cases e1
    refine ⟨rfl, hnc, hcm, fun _ => ⟨g, 0, rfl, fun i hi => ?_⟩⟩
    obtain ⟨x, hx⟩ : ∃ x, l[i]? = some x := ⟨l[i], List.getElem?_eq_getElem hi⟩
    obtain ⟨us, hu⟩ : ∃ us, vs[i]? = some us := ⟨vs[i]'(by rw [hA.1]; exact hi), List.getElem?_eq_getElem _⟩
    have hul := h1 us (List.mem_of_getElem? hu)
    refine ⟨us, x, hx, hul, fun j u hj => ?_, hA.2 i us x hu hx⟩
    have hjs : j < size := by have := (List.getElem?_eq_some_iff.1 hj).1; omega
    have hlt : i * size + j < l.length * size := by
      have : (i + 1) * size ≤ l.length * size := Nat.mul_le_mul_right _ hi
      rw [Nat.succ_mul] at this; omega
    rw [Nat.zero_add, cell_of_row w g (i * size + j) cur e (0, 0) hg, ← Array.getElem?_toList]
    have h5 : (cur.toList.take (l.length * size))[i * size + j]? = vs.flatten[i * size + j]? := by rw [ht]
    rw [List.getElem?_take_of_lt hlt, get_flatten h1 hu hjs, hj] at h5
    exact h5
theorem OAgg.on (h : OAgg E e size fp w B (.slice A n c) l) : On (fun b => fp b ∨ (Value.slice A n c).ownBlock = some b) w fun W => RAgg E size W A n c l :=
  ⟨fun _ hb => hb.elim h.fp_lt fun e => (h.lt e).2, fun _ k => (h.keep k).reads⟩
theorem RAgg.len (h : RAgg E size w A n c l) : l.length = n := h.1
theorem RAgg.le (h : RAgg E size w A n c l) : n ≤ 9223372036854775807 := Nat.le_trans h.2.1 h.2.2.1
theorem RAgg.below (hE : BelowE E) (h : RAgg E size w A n c l) (hb : Below w.heap.size w w') : RAgg E size w' A n c l :=
  ⟨h.1, h.2.1, h.2.2.1, fun hn => let ⟨b, off, e, hc⟩ := h.2.2.2 hn; ⟨b, off, e, fun i hi => let ⟨vs, x, h1, h2, h3, h4⟩ := hc i hi; ⟨vs, x, h1, h2, fun j u hj => keep_cell hb (h3 j u hj), hE _ _ _ _ h4 hb⟩⟩⟩
theorem RAgg.nil_ (E : World → List Value → α → Prop) (size : Nat) (w : World) : RAgg E size w none 0 0 [] := ⟨rfl, Nat.le_refl _, by omega, fun h => absurd h (by omega)⟩
theorem RAgg.step (h : RAgg E size w A n c l) (hk : k < n) : ∃ b off vs x, A = some ⟨b, off, none⟩ ∧ vs.length = size ∧ (∀ j u, vs[j]? = some u → w.cell? ⟨b, off + k * size + j, none⟩ = some u) ∧ E w vs x ∧
    Hid (l.drop k = x :: l.drop (k + 1)) ∧ Hid (l[k]? = some x) := by
  obtain ⟨b, off, e, hc⟩ := h.2.2.2 (by omega)
  obtain ⟨vs, x, h1, h2, h3, h4⟩ := hc k hk
  have hl : k < l.length := by have := h.1; omega
  refine ⟨b, off, vs, x, e, h2, h3, h4, ?_, h1⟩
  have hg : l[k] = x := by rw [List.getElem?_eq_getElem hl] at h1; exact Option.some.inj h1
  unfold Hid
  rw [List.drop_eq_getElem_cons hl, hg]
theorem RAgg.done (h : RAgg E size w A n c l) (hk : ¬ k < n) : l.drop k = [] := List.drop_eq_nil_of_le (by have := h.1; omega)

/-- One more is appended. -/
theorem run_appAgg {t : TypeId} {z : Value} {bytes : Nat} (hinfo : (Tryz.prog.info? e).map (fun i => (i.zero, i.size, i.bytes)) = some (some z, size, bytes)) (ht : Tryz.prog.underlying t = some (.slice e)) (hzs : z.cells.size = size) (hsz : 0 < size) (hby : bytes ≤ 1000)
    (ty : TypeId) (h : OAgg E e size fp w B v l) {gx : Nat} {us : List Value} {x : α} {fx : Nat → Prop} (hc : ∀ j u, us[j]? = some u → w.cell? ⟨gx, j, none⟩ = some u) (hlen : us.length = size) (h1 : ∀ u ∈ us, u.oneCell' = true)
    (hx : On fx w (fun W => E W us x)) (hfx : ∀ b, v.ownBlock = some b → ¬ fx b) (hn : l.length + 1 ≤ 1000000) (hB : B ≤ w.heap.size) :
    ∃ v' w', (Builtin.append_ #[t, t] ty #[v, .slice (some ⟨gx, 0, none⟩) 1 1]).run Tryz.prog w = .ok v' w' ∧ OAgg E e size (fun b => fp b ∨ fx b) w' B v' (l ++ [x]) ∧ w.grownBy w' v.ownBlock ∧ (v'.ownBlock = v.ownBlock ∨ v'.ownBlock = some w.heap.size) := by
  obtain ⟨i0, hi, hz0, hz1, hz2⟩ := info_parts hinfo
  obtain ⟨vs, g1, g2, g3, g4⟩ := h
  have hbb : (l.length + 1) * bytes ≤ 140737488355328 := Nat.le_trans (Nat.mul_le_mul hn hby) (by decide)
  obtain ⟨v', w', k1, k2, k3, k4⟩ := run_appU w B t ty e i0 z size bytes ht hi hz0 hz1 hz2 hzs hsz v l.length vs.flatten g2 (some ⟨gx, 0, none⟩) 1 1 us (by rw [hlen, Nat.one_mul]) (fun e => by cases e)
    (fun a e j u hj => by
      cases e
      have hadd : (⟨gx, 0, none⟩ : Addr).add j = ⟨gx, j, none⟩ := by unfold Addr.add; split <;> simp_all
      rw [hadd]; exact hc j u hj) h1 (by unfold maxLen; omega) hbb hB
  refine ⟨v', w', k1, ⟨vs ++ [us], ?_, ?_, ?_, ?_⟩, k3, k4⟩
  · intro y hy
    rcases List.mem_append.1 hy with hy | hy
    · exact g1 y hy
    · simp at hy; subst hy; exact hlen
  · rw [List.flatten_append, List.length_append]; simpa using k2
  · refine ((g3.and hx).keep fun b hb => k3.block b (hb.elim (g3.1 b) (hx.1 b)) fun e => hb.elim (g4 b e.symm) (hfx b e.symm)).imp fun W hW => hW.1.snoc hW.2
  · intro b hb hf
    rcases k4 with k4 | k4
    · rw [k4] at hb
      exact hf.elim (g4 b hb) (hfx b hb)
    · rw [k4] at hb
      cases hb
      exact hf.elim (fun h => Nat.lt_irrefl _ (g3.1 _ h)) (fun h => Nat.lt_irrefl _ (hx.1 _ h))
end

/-- A ratio's three cells. -/
def ERat (w : World) (vs : List Value) (x : Rat3) : Prop := ∃ A n c A' n' c', vs = [.bool x.1, .slice A n c, .slice A' n' c'] ∧ RWrds w A n c x.2.1 ∧ RWrds w A' n' c' x.2.2
/-- A tie's two cells. -/
def ETie (w : World) (vs : List Value) (x : Row) : Prop := ∃ A n c, vs = [.slice A n c, .int .i64 x.2] ∧ RInts w A n c x.1 ∧ I64 x.2
/-- A round's six cells. -/
def ERnd (w : World) (vs : List Value) (x : Rnd) : Prop := ∃ A n c a b d A1 n1 c1 A2 n2 c2, vs = [.slice A n c, a, b, d, .slice A1 n1 c1, .slice A2 n2 c2] ∧ RAgg ERat 3 w A n c x.1 ∧ ERat w [a, b, d] x.2.1 ∧ RInts w A1 n1 c1 x.2.2.1 ∧ RInts w A2 n2 c2 x.2.2.2
theorem below_rat : BelowE ERat := fun _ _ _ _ ⟨A, n, c, A', n', c', e, h, h'⟩ hb => ⟨A, n, c, A', n', c', e, h.below hb, h'.below hb⟩
theorem below_tie : BelowE ETie := fun _ _ _ _ ⟨A, n, c, e, h, h'⟩ hb => ⟨A, n, c, e, h.below hb, h'⟩
theorem below_rnd : BelowE ERnd := fun _ _ _ _ ⟨A, n, c, a, b, d, A1, n1, c1, A2, n2, c2, e, h, h1, h2, h3⟩ hb => ⟨A, n, c, a, b, d, A1, n1, c1, A2, n2, c2, e, h.below below_rat hb, below_rat _ _ _ _ h1 hb, h2.below hb, h3.below hb⟩
end Go.Proofs.YtolbceckbnifmaaGreat
