/-
  Regions that draw their order: what only yields values comes as soon as it is ready, behind effects too. No program is named here.
  An outcome reads as it did when a box of three slices has changed.
-/
import Derived.Test.YtolbceckbnifmaaGreatApp2
namespace Go.Proofs.YtolbceckbnifmaaGreat
open Go.RowKit

section
variable {P : Program} {md : Region.Mode} {Q : Exit → Act → World → Prop} {C : World → Prop}
/-- What is listed is closed under waiting: a test. -/
def shutB (md : Region.Mode) (ops : Array Oper) (listed : Array Bool) : Bool :=
  decide (listed.size = ops.size) && (List.range ops.size).all fun j => !listed.getD j false || (match ops[j]? with | some o => o.after.all fun e => !Region.binds md e || listed.getD e.on false | none => true)
theorem shut_of {ops : Array Oper} {listed : Array Bool} (h : shutB md ops listed = true) : Shut md ops listed := by
  unfold shutB at h
  rw [Bool.and_eq_true, decide_eq_true_eq, List.all_eq_true] at h
  refine ⟨h.1, fun j oj hj hl e he hb => ?_⟩
  have h1 := h.2 j (List.mem_range.2 (Array.getElem?_eq_some_iff.1 hj).1)
  rw [hl, hj] at h1
  simp only [Bool.not_true, Bool.false_or] at h1
  have h2 := Array.all_eq_true'.1 h1 e he
  rw [hb] at h2
  simpa using h2
theorem wp_region_flowz {id : Nat} {l : List Oper} {a : Act} {w : World} (ks kz : List Nat) (C : World → Prop) (hm : P.follows .mixedOrders = true)
    (hB : (Region.noSelect l.toArray && lexF .any l.toArray ks (Array.replicate l.length false) && decide (ks.length ≤ l.length) && ks.all kz.contains) = true) (hC : C { w with drawn := w.drawn + 1 })
    (h : wpQuiet P l.toArray C (fun a' => anyF P .any l.toArray (Calm Q) C kz (l.length - ks.length) (listedOf l.length ks) a' { w with drawn := w.drawn + 1 }) (pickOps l ks) a) : (Code.region id l.toArray true).wp P Q a w := by
  refine Code.wp_mono Calm.imp ?_
  refine wp_region_any hm ?_
  simp only [Bool.and_eq_true, decide_eq_true_eq, List.all_eq_true] at hB
  have inv0 : Shut .any l.toArray (Array.replicate l.length false) := ⟨by simp, fun j oj _ hl => (by rw [getD_replicate_false] at hl; cases hl)⟩
  have := flow_lex (P := P) (md := .any) (Q := Calm Q) (g := l.length - ks.length) (kz := kz) hB.1.1.1 (fun c a a' w h => (h : False).elim) _ hC ks _ a (fun k h => by simpa using hB.2 k h) inv0 hB.1.1.2 (fun a' h' => h') h
  rw [show ks.length + (l.length - ks.length) = l.toArray.size by simp; omega] at this
  have h2 := any_of_flow _ _ _ _ this
  simpa using h2
/-- What yields values alone, now. -/
theorem flow_pure {l : List Oper} {kz : List Nat} (ks : List Nat) {f : Nat} {listed : Array Bool} {a : Act} {w : World}
    (hB : (Region.noSelect l.toArray && shutB md l.toArray listed && lexF md l.toArray ks listed && decide (ks.length ≤ f) && ks.all kz.contains) = true) (hC : C w)
    (h : wpQuiet P l.toArray C (fun a' => anyF P md l.toArray (Calm Q) C kz (f - ks.length) (ks.foldl (fun l k => l.setIfInBounds k true) listed) a' w) (pickOps l ks) a) : anyF P md l.toArray (Calm Q) C kz f listed a w := by
  simp only [Bool.and_eq_true, decide_eq_true_eq, List.all_eq_true] at hB
  have := flow_lex (P := P) (md := md) (Q := Calm Q) (g := f - ks.length) (kz := kz) hB.1.1.1.1 (fun c a a' w h => (h : False).elim) w hC ks listed a (fun k h => by simpa using hB.2 k h) (shut_of hB.1.1.1.2) hB.1.1.2 (fun a' h' => h') h
  rwa [show ks.length + (f - ks.length) = f by omega] at this
end
end Go.Proofs.YtolbceckbnifmaaGreat

namespace Go.Proofs.YtolbceckbnifmaaGreat
open Go.RowKit Go.Proofs Go.Shelf

/-! What an outcome speaks of is not the box of three slices. -/
theorem box_apart {w : World} {g : Nat} {t : TypeId} {A1 A2 A3 : Option Addr} {n1 c1 n2 c2 n3 c3 : Nat} (hg : Has w g t #[.slice A1 n1 c1, .slice A2 n2 c2, .slice A3 n3 c3]) {b off : Nat} {v : Value} (hc : w.cell? ⟨b, off, none⟩ = some v) (hv : ∀ A n c, v ≠ .slice A n c) : b ≠ g := by
  rintro rfl
  rw [hg.cell] at hc
  match off, hc with
  | 0, hc => simp at hc; exact hv _ _ _ hc.symm
  | 1, hc => simp at hc; exact hv _ _ _ hc.symm
  | 2, hc => simp at hc; exact hv _ _ _ hc.symm
  | (k + 3), hc => simp at hc
section
variable {w w' : World} {g : Nat} {t : TypeId} {A1 A2 A3 : Option Addr} {n1 c1 n2 c2 n3 c3 : Nat}
theorem RInts.far (hg : Has w g t #[.slice A1 n1 c1, .slice A2 n2 c2, .slice A3 n3 c3]) (k : ∀ b, b < w.heap.size → b ≠ g → w'.heap[b]? = w.heap[b]?) {A : Option Addr} {n c : Nat} {xs : List Int} (h : RInts w A n c xs) : RInts w' A n c xs :=
  (h.on.keep fun b hb => k b (h.on.1 b hb) (by
    obtain ⟨hn, off, e⟩ := hb
    obtain ⟨b', off', v, e', hc, _⟩ := h.step (k := 0) hn
    rw [e] at e'; cases e'
    exact box_apart hg hc (fun A n c e => by cases e))).get
theorem RWrds.far (hg : Has w g t #[.slice A1 n1 c1, .slice A2 n2 c2, .slice A3 n3 c3]) (k : ∀ b, b < w.heap.size → b ≠ g → w'.heap[b]? = w.heap[b]?) {A : Option Addr} {n c : Nat} {xs : List Int} (h : RWrds w A n c xs) : RWrds w' A n c xs :=
  (h.on.keep fun b hb => k b (h.on.1 b hb) (by
    obtain ⟨hn, off, e⟩ := hb
    obtain ⟨b', off', v, e', hc, _⟩ := h.step (k := 0) hn
    rw [e] at e'; cases e'
    exact box_apart hg hc (fun A n c e => by cases e))).get
theorem RAgg.far {α : Type} {E : World → List Value → α → Prop} {size : Nat} (hg : Has w g t #[.slice A1 n1 c1, .slice A2 n2 c2, .slice A3 n3 c3]) (k : ∀ b, b < w.heap.size → b ≠ g → w'.heap[b]? = w.heap[b]?) (hE : ∀ vs x, E w vs x → E w' vs x)
    (hj : ∀ vs x, E w vs x → ∃ (j : Nat) (u : Value), vs[j]? = some u ∧ ∀ A n c, u ≠ .slice A n c) {A : Option Addr} {n c : Nat} {l : List α} (h : RAgg E size w A n c l) : RAgg E size w' A n c l := by
  refine ⟨h.1, h.2.1, h.2.2.1, fun hn => ?_⟩
  obtain ⟨b, off, e, hc⟩ := h.2.2.2 hn
  have hb : b < w.heap.size ∧ b ≠ g := by
    obtain ⟨vs, x, h1, h2, h3, h4⟩ := hc 0 hn
    obtain ⟨j, u, hu, hs⟩ := hj vs x h4
    exact ⟨World.block_lt_of_cell? w _ (h3 j u hu), box_apart hg (h3 j u hu) hs⟩
  refine ⟨b, off, e, fun i hi => ?_⟩
  obtain ⟨vs, x, h1, h2, h3, h4⟩ := hc i hi
  refine ⟨vs, x, h1, h2, fun j u hu => ?_, hE _ _ h4⟩
  rw [World.cell?_of_block (w := w) (k b hb.1 hb.2)]
  exact h3 j u hu
theorem ERat.far (hg : Has w g t #[.slice A1 n1 c1, .slice A2 n2 c2, .slice A3 n3 c3]) (k : ∀ b, b < w.heap.size → b ≠ g → w'.heap[b]? = w.heap[b]?) {vs : List Value} {x : Rat3} (h : ERat w vs x) : ERat w' vs x := by
  obtain ⟨A, n, c, A', n', c', e, h1, h2⟩ := h
  exact ⟨A, n, c, A', n', c', e, h1.far hg k, h2.far hg k⟩
theorem rat_cell {vs : List Value} {x : Rat3} (h : ERat w vs x) : ∃ (j : Nat) (u : Value), vs[j]? = some u ∧ ∀ A n c, u ≠ .slice A n c := by
  obtain ⟨A, n, c, A', n', c', e, h1, h2⟩ := h
  exact ⟨0, .bool x.1, by rw [e]; rfl, fun A n c e => by cases e⟩
theorem ROut.far (hg : Has w g t #[.slice A1 n1 c1, .slice A2 n2 c2, .slice A3 n3 c3]) (k : ∀ b, b < w.heap.size → b ≠ g → w'.heap[b]? = w.heap[b]?) {Ae : Option Addr} {ne ce : Nat} {Ar : Option Addr} {nr cr : Nat} {Av : Option Addr} {nv cv : Nat} {o : Outc} (h : ROut w Ae ne ce Ar nr cr Av nv cv o) : ROut w' Ae ne ce Ar nr cr Av nv cv o := by
  refine ⟨h.1.far hg k, h.2.1.far hg k (fun vs x hE => ?_) (fun vs x hE => ?_), h.2.2.far hg k (fun vs x hE => ?_) (fun vs x hE => ?_)⟩
  · obtain ⟨A, n, c, a, b, d, B1, m1, d1, B2, m2, d2, e, h1, h2, h3, h4⟩ := hE
    exact ⟨A, n, c, a, b, d, B1, m1, d1, B2, m2, d2, e, h1.far hg k (fun _ _ h => h.far hg k) (fun _ _ h => rat_cell h), h2.far hg k, h3.far hg k, h4.far hg k⟩
  · obtain ⟨A, n, c, a, b, d, B1, m1, d1, B2, m2, d2, e, h1, ⟨C1, k1, e1, C2, k2, e2, eL, _, _⟩, h3, h4⟩ := hE
    cases eL
    exact ⟨1, _, by rw [e]; rfl, fun A n c e => by cases e⟩
  · obtain ⟨A, n, c, e, h1, h2⟩ := hE
    exact ⟨A, n, c, e, h1.far hg k, h2⟩
  · obtain ⟨A, n, c, e, h1, h2⟩ := hE
    exact ⟨1, _, by rw [e]; rfl, fun A n c e => by cases e⟩
end
end Go.Proofs.YtolbceckbnifmaaGreat
