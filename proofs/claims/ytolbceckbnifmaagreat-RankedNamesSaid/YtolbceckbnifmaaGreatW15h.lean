/-
  Count, by the reference of the runoff.
-/
import Derived.Test.YtolbceckbnifmaaGreatW15e
namespace Go.Proofs.YtolbceckbnifmaaGreat
open Go.RowKit Go.Proofs Go.Shelf
attribute [local go_sem] cell?_alt cell?_more cell?_alloc_some cell?_setCell_far frozen?_alloc_some frozen?_more
theorem app_put_at {α : Type} {E : World → List Value → α → Prop} {e : TypeId} {size : Nat} {tS : TypeId} {z : Value} {bytes : Nat} (hinfo : (Tryz.prog.info? e).map (fun i => (i.zero, i.size, i.bytes)) = some (some z, size, bytes)) (htS : Tryz.prog.underlying tS = some (.slice e)) (hzs : z.cells.size = size) (hsz : 0 < size) (hby : bytes ≤ 1000)
    {W W1 : World} {g : Nat} (i : Nat) {t : TypeId} {C : Array Value} {B : Nat} {rn : Value} {l : List α} {fr fx : Nat → Prop} {us : List Value} {x : α} (hg : Has W g t C) (hO : OAgg E e size fr W B rn l) (hx : On fx W fun W' => E W' us x) (h6 : us.length = size) (h1 : ∀ u ∈ us, u.oneCell' = true)
    (hfx : ∀ b, rn.ownBlock = some b → ¬ fx b) (g1 : ¬ fr g) (g2 : ¬ fx g) (g3 : rn.ownBlock ≠ some g) (hs : B ≤ W.heap.size) (hn : l.length ≤ 1000) (hb : Below W.heap.size W W1) (hN : Has W1 W.heap.size e us.toArray) :
    ∃ v' w', (Builtin.append_ #[tS, tS] tS #[rn, .slice (some ⟨W.heap.size, 0, none⟩) 1 1]).run Tryz.prog W1 = .ok v' w' ∧ AppPost E e size W g i t C B rn v' (l ++ [x]) (fun b => fr b ∨ fx b) w' := by
  obtain ⟨v', w', k1, k2, k3, k4⟩ := run_appAgg hinfo htS hzs hsz hby tS (hO.below hb) (fun j u hj => by rw [hN.cell j]; simpa using hj) h6 h1 (hx.below hb) hfx (by omega) (by have := hb.size; omega)
  have hg1 : Has w' g t C := (k3.block g (hg.below hb hg.lt).lt (fun e => g3 e.symm)).trans (hg.below hb hg.lt)
  have hvg : v'.ownBlock ≠ some g := by
    rcases k4 with h | h
    · rw [h]; exact g3
    · rw [h]; intro e; have e' := Option.some.inj e; have h1 := hg.lt; have h2 := hb.size; omega
  have f1 : Frame' (fun b => rn.ownBlock = some b) W w' := (Frame'.of_below hb).trans ((Frame'.of_grown k3).mono fun k _ h => h.symm)
  have f2 : Frame' (fun b => b = g) w' (w'.setCell ⟨g, i, none⟩ v') := Frame'.setCell (p := ⟨g, i, none⟩) (Frame'.refl (fun b => b = g) w') (.inl rfl) _
  refine ⟨v', w', k1, hg1, hg1.put i v', k2.frame f2 (fun b hb e => ?_) (fun b hb e => hvg (by rw [hb, e])), f1, (f1.mono fun k _ h => .inr h).trans (f2.mono fun k _ h => .inl h), k4.imp id fun h => ⟨_, h, hb.size⟩⟩
  subst e
  exact hb.elim g1 g2

/-- Does x win? -/
def winB (left had : List Int) (x : Int) : Bool := decide (left.length = 1) || decide (had.sum < 2 * getI had x)
theorem winS_eq (left had : List Int) : winS left had = left.find? (winB left had) := rfl
theorem winB_only {left had : List Int} {C i j : Nat} {x y : Int} (hn : left.Nodup) (h0 : ∀ x ∈ had, 0 ≤ x) (hl : had.length = C) (hm : ∀ x ∈ left, 0 ≤ x ∧ x < C) (hi : left[i]? = some x) (hj : left[j]? = some y) (hij : i < j) (hx : winB left had x = true) : winB left had y = false := by
  cases hy : winB left had y with
  | false => rfl
  | true =>
    exfalso
    have hjl := (List.getElem?_eq_some_iff.1 hj).1
    unfold winB at hx hy
    have h1 : left.length ≠ 1 := by omega
    simp [h1] at hx hy
    have e := win_one h0 hl (hm x (List.mem_of_getElem? hi)) (hm y (List.mem_of_getElem? hj)) hx hy
    subst e
    obtain ⟨hi', e1⟩ := List.getElem?_eq_some_iff.1 hi
    obtain ⟨hj', e2⟩ := List.getElem?_eq_some_iff.1 hj
    have := (List.getElem_inj (h₀ := hi') (h₁ := hj') hn).1 (by rw [e1, e2])
    omega
/-- The state of the reference's count. -/
structure RSt (S0 g : Nat) (w0 w : World) (rn vt : Value) (Al : Option Addr) (nl cl : Nat) (left : List Int) (rs : List Rnd) (ts : List Row) (fr ft : Nat → Prop) : Prop where
  hb : Below w0.heap.size w0 w
  bS : S0 ≤ w.heap.size
  hG : Has w g 39 #[.slice none 0 0, rn, vt]
  hL : RInts w Al nl cl left
  lS : ∀ b, fpS Al nl b → S0 ≤ b
  hR : OAgg ERnd 65 6 fr w S0 rn rs
  hT : OAgg ETie 110 2 ft w S0 vt ts
  frS : ∀ b, fr b → S0 ≤ b
  ftS : ∀ b, ft b → S0 ≤ b
  y1 : ∀ b, rn.ownBlock = some b → ¬ ft b ∧ ¬ fpS Al nl b
  y2 : ∀ b, vt.ownBlock = some b → ¬ fr b ∧ ¬ fpS Al nl b
  y3 : ∀ b, rn.ownBlock = some b → vt.ownBlock ≠ some b
/-- What the inner loop has found. -/
def Found (left had : List Int) (i g gr : Nat) (rn vt r0 r1 r2 r3 : Value) (w5 w : World) : Prop :=
  (Hid ((left.take i).find? (winB left had) = none) ∧ w = w5) ∨
  ∃ (x : Int) (j ge : Nat), Hid (left[j]? = some x) ∧ j < i ∧ Hid (winB left had x = true) ∧ Hid ((left.take i).find? (winB left had) = some x) ∧ Has w g 39 #[.slice (some ⟨ge, 0, none⟩) 1 1, rn, vt] ∧ Has w gr 65 #[r0, r1, r2, r3, .slice (some ⟨ge, 0, none⟩) 1 1, .slice none 0 0] ∧
    Has w ge 3 #[.int .i64 x] ∧ w5.heap.size ≤ ge ∧ Frame' (fun b => b = g ∨ b = gr) w5 w

end Go.Proofs.YtolbceckbnifmaaGreat
