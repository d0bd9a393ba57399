/-
  A range over a function whose iterator works in memory of its own: what it tells of each element may speak of the world.
  The layer condorcet: sets that grow; the Smith set.
  The layer condorcet: the Smith set.
-/
import Derived.RangeFuncNested
import Derived.RangeFuncBound
import Derived.RangeFuncCalls
import Derived.RangeFuncLeaves
import Derived.Test.YtkmcgpaoekphmaaGreatSpecSr
import Derived.Test.YtkmcgpaoekphmaaGreatW12a
import Derived.Test.YtkmcgpaoekphmaaGreatW11g
import Derived.Test.YtkmcgpaoekphmaaGreatW8i
namespace Go.Proofs.YtkmcgpaoekphmaaGreat
open Go Go.RowKit

/-- An iterator that calls yield N times: of the k-th element it tells R; what a caller knows (J) stays as long as the blocks that stand at its word stay; a round keeps Kp. -/
def SeqR {α : Type} (F : Fence) (n : Nat) (P : Program) (g : Nat) (lb : Array Value) (encs : α → Array Value) (Kp : World → World → Prop) (R : Nat → α → World → Prop) (N : Nat) (w : World) : Prop :=
  ∀ (l : Nat) (J : Nat → World → Prop) (W : World), Below w.heap.size w W → (∀ k A B, J k A → Below A.heap.size A B → J k B) →
    (∀ k x W1, k < N → J k W1 → R k x W1 → YieldAt F (n - 1) P l (encs x) W1 fun e W' => e = .returned (.bool true) ∧ J (k + 1) W' ∧ Kp W1 W') →
    J 0 W →
    CallsIn F n P g (#[.func (.yield l) #[] #[]] ++ lb) W fun e W' => (∃ v, e = .returned v) ∧ J N W'

/-- The body goes on. -/
def onPost (B : Nat) (Kp : World → World → Prop) (I : Nat → World → Prop) (k : Nat) (W : World) : Exit → Act → World → Prop
  | .normal, _, W' => KeepsFrom B W W' ∧ Kp W W' ∧ I k W'
  | _, _, _ => False

variable {F : Fence} {n : Nat} {P : Program}

theorem heap_of_below {A B : World} (h : Below A.heap.size A B) {k : Nat} {o : Obj} (hk : A.heap[k]? = some o) : B.heap[k]? = some o :=
  (h.block k (Array.getElem?_eq_some_iff.1 hk).1).trans hk

theorem wpIn_rangeR {α : Type} {g : Operand} {ps : Array Tmp} {assign body : Code} {Q : Exit → Act → World → Prop} {a : Act} {w : World}
    (hro : F.round = none) (h1 : 1 ≤ n) {gf : Nat} {lb : Array Value} (hg : a.eval g = .func (.func gf) #[] lb) (hFg : F.fn gf) (eg : ∀ args w, (callFunc gf args).run P w = .ok (.enter gf args) w)
    {encs : α → Array Value} {Kp : World → World → Prop} {R : Nat → α → World → Prop} {N : Nat} {w0 : World} (hseq : SeqR F (n - 1) P gf lb encs Kp R N w0)
    (hKt : ∀ {A B C : World}, Kp A B → Kp B C → Kp A C) (hKb : ∀ (W : World) (l : Nat) (o o' : Obj), w.heap.size ≤ l → W.heap[l]? = some o → o.isCells = false → Kp W (W.putObj l o')) (hb0 : Below w0.heap.size w0 w) (hps : ∀ x, (encs x).size = ps.size)
    (hRb : ∀ k x (W : World) (l : Nat) (o o' : Obj), R k x W → w.heap.size ≤ l → W.heap[l]? = some o → o.isCells = false → R k x (W.putObj l o'))
    (I : Nat → World → Prop) (hI : ∀ k A B, I k A → Below A.heap.size A B → I k B) (hIb : ∀ k (W : World) (l : Nat) (o o' : Obj), I k W → w.heap.size ≤ l → W.heap[l]? = some o → o.isCells = false → I k (W.putObj l o'))
    (h0 : I 0 w) (a₁ : α → Act)
    (hassign : ∀ (l : Nat) (x : α) (W : World) (K : Act → World → Prop), K (a₁ x) W →
      assign.wpIn (F.inRound l) (n - 1 - 1) P (Exit.then K (fun _ _ _ => False)) { tmps := (ps.zip (encs x)).foldl (fun t (p, v) => t.setIfInBounds p v) a.tmps, defers := [] } W)
    (hbody : ∀ (l : Nat) (k : Nat) (x : α) (W : World), k < N → I k W → R k x W → body.wpIn (F.inRound l) (n - 1 - 1) P (onPost w.heap.size Kp I (k + 1) W) (a₁ x) W)
    (hdone : ∀ (D : Nat) (W : World), w.heap.size ≤ D → I N W → W.heap[D]? = some (.deferred (some [])) → Q .normal { a with defers := { target := .collected D, args := #[] } :: a.defers } W) :
    (Code.rangeFunc g ps assign body).wpIn F n P Q a w := by
  refine wpIn_rangeFunc ?_
  intro fn hfn
  rw [hro]
  obtain ⟨rec, hrec⟩ : ∃ rec : LoopState → Option Code → Loop, rec = fun st pe => { state := st, pending := pe, fn, tmps := a.tmps, params := ps, assign, body, defers := w.heap.size } := ⟨_, rfl⟩
  obtain ⟨Wa, hWa⟩ : ∃ Wa, w.alloc (.deferred (some [])) = Wa := ⟨_, rfl⟩
  have hsa : Wa.heap.size = w.heap.size + 1 := by rw [← hWa, World.size_alloc]
  have hba : Below w.heap.size w Wa := by rw [← hWa]; exact (Below.refl _ w).alloc (Nat.le_refl _) _
  have hKa : Wa.heap[w.heap.size]? = some (.deferred (some [])) := by rw [← hWa]; exact World.alloc_heap_new w _
  obtain ⟨W1, hW1⟩ : ∃ W1, Wa.alloc (.loop (rec .ready none)) = W1 := ⟨_, rfl⟩
  have hb1 : Below Wa.heap.size Wa W1 := by rw [← hW1]; exact (Below.refl _ Wa).alloc (Nat.le_refl _) _
  have hL1 : W1.heap[w.heap.size + 1]? = some (.loop (rec .ready none)) := by
    rw [← hW1, ← hsa]; exact World.alloc_heap_new Wa _
  have hK1 := heap_of_below hb1 hKa
  have hI1 : I 0 W1 := hI _ _ _ (hI _ _ _ h0 hba) hb1
  have hbw : Below w0.heap.size w0 W1 := hb0.trans ((hba.trans (hb1.mono (by omega))).mono hb0.size)
  refine ⟨w.heap.size + 1, [{ target := .collected w.heap.size, args := #[] }], W1, { target := .fn (.func gf) lb, args := #[.func (.yield (w.heap.size + 1)) #[] #[]] }, W1, gf,
    #[.func (.yield (w.heap.size + 1)) #[] #[]] ++ lb, W1, ?_, ?_, ?_, ?_, fun _ => h1, ?_⟩
  · rw [← hW1, ← hWa, hrec]; exact run_enterLoop_outer _ _ _ _ _
  · simp only [resolve, hg]
    simp [go_sem]
  · intro f' hf'; simp [Target.leads] at hf'; subst hf'; exact hFg
  · simp [invoke, go_sem, eg]
  · refine (hseq (w.heap.size + 1) (fun k W => I k W ∧ W.heap[w.heap.size + 1]? = some (.loop (rec .ready none)) ∧ W.heap[w.heap.size]? = some (.deferred (some []))) W1 hbw
      (fun k A B hs hb => ⟨hI k A B hs.1 hb, heap_of_below hb hs.2.1, heap_of_below hb hs.2.2⟩) ?_ ⟨hI1, hL1, hK1⟩).mono ?_
    · rintro k x W hkN ⟨hi, hl, hk⟩ hR
      have hy := run_yield (P := P) (args := encs x) hl (by rw [hrec]; exact hps x)
      rw [hrec] at hy
      refine ⟨fn, _, assign, body, hy, roundIn_of_wpIn hfn (hassign _ x W _ ?_)⟩
      clear hy
      have hlt : w.heap.size + 1 < W.heap.size := (Array.getElem?_eq_some_iff.1 hl).1
      refine ⟨_, run_beginRound hl (by rw [hrec]), ?_⟩
      have hl2 : (W.putObj (w.heap.size + 1) (.loop { rec .ready none with state := .busy })).heap[w.heap.size + 1]? = some (.loop { rec .ready none with state := .busy }) := World.putObj_heap_same hlt
      have hk2 : (W.putObj (w.heap.size + 1) (.loop { rec .ready none with state := .busy })).heap[w.heap.size]? = some (.deferred (some [])) := (World.putObj_heap_other (by omega)).trans hk
      have hw2 : Kp W (W.putObj (w.heap.size + 1) (.loop { rec .ready none with state := .busy })) := hKb _ _ _ _ (by omega) hl rfl
      refine wpIn_mono (hbody _ k x _ hkN (hIb _ _ _ _ _ hi (by omega) hl rfl) (hRb _ _ _ _ _ _ hR (by omega) hl rfl)) ?_
      rintro e a3 W3 hp
      cases e with
      | normal =>
        obtain ⟨hk3, hkp3, hi3⟩ := hp
        have hl3 := hk3.same _ _ (by omega) hl2 rfl
        have hr : (Instr.endRound (w.heap.size + 1) none).run P W3 = .ok (.bool true) (W3.putObj (w.heap.size + 1) (.loop (rec .ready none))) := by
          have := run_endRound (P := P) none hl3
          rw [hrec] at this ⊢
          exact this
        have hl4 : (W3.putObj (w.heap.size + 1) (.loop (rec .ready none))).heap[w.heap.size + 1]? = some (.loop (rec .ready none)) := World.putObj_heap_same (Array.getElem?_eq_some_iff.1 hl3).1
        have hk4 : (W3.putObj (w.heap.size + 1) (.loop (rec .ready none))).heap[w.heap.size]? = some (.deferred (some [])) := (World.putObj_heap_other (by omega)).trans (hk3.same _ _ (Nat.le_refl _) hk2 rfl)
        exact ⟨_, _, hr, rfl, ⟨hIb _ _ _ _ _ hi3 (by omega) hl3 rfl, hl4, hk4⟩, hKt (hKt hw2 hkp3) (hKb _ _ _ _ (by omega) hl3 rfl)⟩
      | ret => exact hp.elim
      | exit id => exact hp.elim
      | goto t => exact hp.elim
      | panic ch => exact hp.elim
      | outgrown => exact hp.elim
    · rintro e W2 ⟨⟨v, rfl⟩, hi, hl, hk⟩
      exact ⟨none, _, by have := run_endLoop (P := P) hl (by rw [hrec]; simp); rw [hrec] at this; exact this, hdone _ _ (Nat.le_refl _) (hIb _ _ _ _ _ hi (by omega) hl rfl) ((World.putObj_heap_other (by omega)).trans hk)⟩
end Go.Proofs.YtkmcgpaoekphmaaGreat

namespace Go.Proofs.YtkmcgpaoekphmaaGreat
open Go.RowKit Go.Proofs Go.Shelf
attribute [local go_sem] Oper.semAt_some
attribute [local go_sem] cell?_more cell?_alloc_some cell?_setCell_far frozen?_alloc_some frozen?_more
/-- A set as the iterator hands it on: its slice, its members. -/
structure SetAt (m : M) (C B k : Nat) (x : Value × List Int) (W : World) : Prop where
  own : Own W B x.1 x.2
  grow : Grow m C k x.2
  shut : ∀ a b : Nat, (a : Int) ∈ x.2 → b < C → nbS m a b → (b : Int) ∈ x.2
theorem Grow.le {m : M} {C k : Nat} {L : List Int} (h : Grow m C k L) : L.length ≤ C := by
  have := h.nd.length_le_of_subset (l₂ := rangeI C) fun x hx => mem_rangeI.2 (h.rng x hx)
  rwa [length_rangeI] at this
end Go.Proofs.YtkmcgpaoekphmaaGreat

namespace Go.Proofs.YtkmcgpaoekphmaaGreat
open Go.RowKit Go.Proofs Go.Shelf
attribute [local go_sem] Oper.semAt_some
attribute [local go_sem] cell?_more cell?_alloc_some cell?_setCell_far frozen?_alloc_some frozen?_more
theorem results_slice {fn : Func} {p u : Tmp} (h : fn.results = #[.cell p 22, .tmp u]) {tmps : Array Value} {w : World} {g : Nat} {v x : Value} (hp : tmps.getD p undef = .pointer (some ⟨g, 0, none⟩)) (hu : tmps.getD u undef = x) (hc : w.cell? ⟨g, 0, none⟩ = some v) :
    (results fn tmps).run Tryz.prog w = .ok (.tuple #[v, x]) w := by
  rw [results_cell_tmp h, hp, hu]
  simp only [asAddr]
  go_simp

theorem run_nil0 (W : World) : Sem.run Tryz.prog (binOp BinOp.eql 22 (.slice none 0 0) (.slice none 0 0)) W = .ok (.bool true) W := by kernel_rfl
theorem run_nil1 (a : Addr) (n c : Nat) (W : World) : Sem.run Tryz.prog (binOp BinOp.eql 22 (.slice (some a) n c) (.slice none 0 0)) W = .ok (.bool false) W := by kernel_rfl
attribute [local go_sem] run_nil0 run_nil1
/-- What the loop of Smith knows: the least set so far. -/
def LeastAt (m : M) (C B fb : Nat) (w0 : World) (k : Nat) (W : World) : Prop :=
  (∃ v, Has W fb 22 #[v] ∧ ((k = 0 ∧ v = .slice none 0 0) ∨ (0 < k ∧ ∃ L, Own W B v L ∧ Least m C k L))) ∧ Below w0.heap.size w0 W
theorem LeastAt.below {m : M} {C B fb : Nat} {w0 : World} {k : Nat} {A E : World} (hs : w0.heap.size ≤ A.heap.size) (h : LeastAt m C B fb w0 k A) (hb : Below A.heap.size A E) : LeastAt m C B fb w0 k E := by
  obtain ⟨⟨v, hv, h⟩, h2⟩ := h
  refine ⟨⟨v, hv.below hb hv.lt, ?_⟩, Below_trans' h2 hs hb⟩
  rcases h with h | ⟨h0, L, hO, hL⟩
  · exact .inl h
  · exact .inr ⟨h0, L, hO.below hb, hL⟩
theorem has_putObj {W : World} {g l : Nat} {t : TypeId} {C : Array Value} {o : Obj} (h : Has W g t C) (o' : Obj) (hl : W.heap[l]? = some o) (ho : o.isCells = false) : Has (W.putObj l o') g t C := by
  have hne : g ≠ l := fun e => by subst e; unfold Has at h; rw [h] at hl; cases hl; cases ho
  unfold Has at *
  rw [World.putObj_heap_other hne]; exact h
theorem own_putObj {W : World} {B l : Nat} {v : Value} {xs : List Int} {o : Obj} (h : Own W B v xs) (o' : Obj) (hl : W.heap[l]? = some o) (ho : o.isCells = false) : Own (W.putObj l o') B v xs := ownsRow_putObj h o' hl ho
theorem LeastAt.putObj {m : M} {C B fb : Nat} {w0 : World} {k l : Nat} {W : World} {o : Obj} (h : LeastAt m C B fb w0 k W) (o' : Obj) (hw : w0.heap.size ≤ l) (hl : W.heap[l]? = some o) (ho : o.isCells = false) : LeastAt m C B fb w0 k (W.putObj l o') := by
  obtain ⟨⟨v, hv, h⟩, h2⟩ := h
  refine ⟨⟨v, has_putObj hv o' hl ho, ?_⟩, h2.grown (grownBy_putObj' W l o') (Nat.le_of_lt (Nat.lt_of_le_of_lt hw (Array.getElem?_eq_some_iff.1 hl).1)) (fun i e => by cases e; exact hw)⟩
  rcases h with h | ⟨h0, L, hO, hL⟩
  · exact .inl h
  · exact .inr ⟨h0, L, own_putObj hO o' hl ho, hL⟩
theorem frame_putObj {S : Nat → Prop} {W : World} {l : Nat} {o' : Obj} (hS : S l) : Frame' S W (W.putObj l o') := by
  refine (Frame'.of_grown (grownBy_putObj' W l o')).mono fun k _ hk => ?_
  have e : k = l := by simpa using hk
  rw [e]; exact hS

theorem leastAt_put {m : M} {C B fb k : Nat} {w0 W : World} {v u : Value} {L : List Int} (hB : fb < B) (hfb : w0.heap.size ≤ fb) (hv : Has W fb 22 #[v]) (hb : Below w0.heap.size w0 W) (hO : Own W B u L) (hL : Least m C (k + 1) L) :
    LeastAt m C B fb w0 (k + 1) (W.setCell ⟨fb, 0, none⟩ u) :=
  ⟨⟨u, hv.put 0 u, .inr ⟨by omega, L, hO.frame ((Frame'.refl (fun b => b = fb) W).setCell (.inl rfl) u) (fun b hb e => by have := hO.own_lt hb; omega), hL⟩⟩, hb.setCell (p := ⟨fb, 0, none⟩) hfb _⟩
theorem ord_sort {C : Nat} {L ys : List Int} (hr : ∀ x ∈ L, 0 ≤ x ∧ x < C) (hn : L.Nodup) (hp : ys.Perm L) (hs : ys.Pairwise (· ≤ ·)) : ys = ordS C L := by
  have h1 : (ordS C L).Perm L := (List.perm_ext_iff_of_nodup ((nodup_rangeI C).sublist List.filter_sublist) hn).2 fun x => mem_ordS hr
  exact List.Perm.eq_of_pairwise (fun a b _ _ h h' => Int.le_antisymm h h') hs ((sorted_rangeI C).sublist List.filter_sublist) (hp.trans h1.symm)

end Go.Proofs.YtkmcgpaoekphmaaGreat
