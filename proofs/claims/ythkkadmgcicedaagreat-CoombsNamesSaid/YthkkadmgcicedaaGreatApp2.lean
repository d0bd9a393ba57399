/-
  A round or a tie more in a field: what is appended and stored. What a round is.
-/
import Derived.Test.YthkkadmgcicedaaGreatW11a
import Derived.Test.YthkkadmgcicedaaGreatFlow
namespace Go.Proofs.YthkkadmgcicedaaGreat
open Go.RowKit Go.Proofs

theorem infoRnd : (Tryz.prog.info? 41).map (fun i => (i.zero, i.size, i.bytes)) = some (some (.agg #[.slice none 0 0, .bool false, .slice none 0 0, .slice none 0 0, .slice none 0 0, .slice none 0 0]), 6, 128) := by kernel_rfl
/-- What appending and storing leaves. -/
structure AppPost {α : Type} (E : World → List Value → α → Prop) (e : TypeId) (size : Nat) (W : World) (g i : Nat) (t : TypeId) (C : Array Value) (B : Nat) (rn v' : Value) (l : List α) (fr : Nat → Prop) (w' : World) : Prop where
  hg : Has w' g t C
  put : Has (w'.setCell ⟨g, i, none⟩ v') g t (C.setIfInBounds i v')
  own : OAgg E e size fr (w'.setCell ⟨g, i, none⟩ v') B v' l
  fr1 : Frame' (fun b => rn.ownBlock = some b) W w'
  fr2 : Frame' (fun b => b = g ∨ rn.ownBlock = some b) W (w'.setCell ⟨g, i, none⟩ v')
  blk : v'.ownBlock = rn.ownBlock ∨ ∃ b, v'.ownBlock = some b ∧ W.heap.size ≤ b
theorem app_put {α : Type} {E : World → List Value → α → Prop} {e : TypeId} {size : Nat} {tS : TypeId} {z : Value} {bytes : Nat} (hinfo : (Tryz.prog.info? e).map (fun i => (i.zero, i.size, i.bytes)) = some (some z, size, bytes)) (htS : Tryz.prog.underlying tS = some (.slice e)) (hzs : z.cells.size = size) (hsz : 0 < size) (hby : bytes ≤ 1000)
    {W : World} {g : Nat} (i : Nat) {t : TypeId} {C : Array Value} {B : Nat} {rn : Value} {l : List α} {fr fx : Nat → Prop} {us : List Value} {x : α} (hg : Has W g t C) (hO : OAgg E e size fr W B rn l) (hx : On fx W fun W' => E W' us x) (h6 : us.length = size) (h1 : ∀ u ∈ us, u.oneCell' = true)
    (hfx : ∀ b, rn.ownBlock = some b → ¬ fx b) (g1 : ¬ fr g) (g2 : ¬ fx g) (g3 : rn.ownBlock ≠ some g) (hs : B ≤ W.heap.size) (hn : l.length ≤ 1000) :
    ∃ v' w', (Builtin.append_ #[tS, tS] tS #[rn, .slice (some ⟨W.heap.size, 0, none⟩) 1 1]).run Tryz.prog (W.alloc (.cells us.toArray e)).drew = .ok v' w' ∧ AppPost E e size W g i t C B rn v' (l ++ [x]) (fun b => fr b ∨ fx b) w' := by
  have hb : Below W.heap.size W (W.alloc (.cells us.toArray e)).drew := ((Below.refl _ _).alloc (Nat.le_refl _) _).drew
  have hN : Has (W.alloc (.cells us.toArray e)).drew W.heap.size e us.toArray := (Has.new W e us.toArray).drew
  obtain ⟨v', w', k1, k2, k3, k4⟩ := run_appAgg hinfo htS hzs hsz hby tS (hO.below hb) (fun j u hj => by rw [hN.cell j]; simpa using hj) h6 h1 (hx.below hb) hfx (by omega) (by have := hb.size; omega)
  have hg1 : Has w' g t C := (k3.block g (hg.below hb hg.lt).lt (fun e => g3 e.symm)).trans (hg.below hb hg.lt)
  have hvg : v'.ownBlock ≠ some g := by
    rcases k4 with h | h
    · rw [h]; exact g3
    · rw [h]; intro e; have e' := Option.some.inj e; have h1 := hg.lt; have h2 := hb.size; omega
  have f1 : Frame' (fun b => rn.ownBlock = some b) W w' := (Frame'.of_below hb).trans ((Frame'.of_grown k3).mono fun k _ h => h.symm)
  have f2 : Frame' (fun b => b = g) w' (w'.setCell ⟨g, i, none⟩ v') := Frame'.setCell (p := ⟨g, i, none⟩) (Frame'.refl (fun b => b = g) w') (.inl rfl) _
  refine ⟨v', w', k1, hg1, hg1.put i v', k2.frame f2 (fun b hb e => ?_) (fun b hb e => hvg (by rw [hb, e])), f1, (f1.mono fun k _ h => .inr h).trans (f2.mono fun k _ h => .inl h), k4.imp id fun h => ⟨_, h, hb.size⟩⟩
  subst e
  exact hb.elim g1 g2

/-- A round's six cells, and the blocks that they speak of. -/
def fpR (fp : Nat → Prop) (An : Option Addr) (nn : Nat) (Ad : Option Addr) (nd : Nat) (A4 : Option Addr) (n4 : Nat) (A5 : Option Addr) (n5 : Nat) (v : Value) (b : Nat) : Prop := ((fp b ∨ v.ownBlock = some b) ∨ fpS An nn b ∨ fpS Ad nd b) ∨ fpS A4 n4 b ∨ fpS A5 n5 b
theorem rnd_on {W : World} {fp : Nat → Prop} {B : Nat} {A : Option Addr} {n c : Nat} {had : List Int} {An : Option Addr} {nn cn : Nat} {Ad : Option Addr} {nd cd : Nat} {lost : Int} {A4 : Option Addr} {n4 c4 : Nat} {el : List Int} {A5 : Option Addr} {n5 c5 : Nat} {out : List Int}
    (hO : OAgg ERat 39 3 fp W B (.slice A n c) (had.map wholeS)) (hn : RWrds W An nn cn (lm lost)) (hd : RWrds W Ad nd cd [1]) (h4 : RInts W A4 n4 c4 el) (h5 : RInts W A5 n5 c5 out) :
    On (fpR fp An nn Ad nd A4 n4 A5 n5 (.slice A n c)) W fun W' => ERnd W' [.slice A n c, .bool false, .slice An nn cn, .slice Ad nd cd, .slice A4 n4 c4, .slice A5 n5 c5] (rndS had lost el out) :=
  ((hO.on.and (rat_on hn hd)).and (h4.on.and h5.on)).imp fun _ hW => ⟨A, n, c, .bool false, .slice An nn cn, .slice Ad nd cd, A4, n4, c4, A5, n5, c5, rfl, hW.1.1, hW.1.2, hW.2.1, hW.2.2⟩
theorem fpS_none (n : Nat) (b : Nat) : ¬ fpS none n b := fun h => by obtain ⟨_, _, e⟩ := h; cases e
theorem fpS_some {g n b : Nat} (h : fpS (some ⟨g, 0, none⟩) n b) : b = g := by obtain ⟨_, _, e⟩ := h; cases e; rfl
/-- An outcome's three slices in memory. -/
def ROut (w : World) (Ae : Option Addr) (ne ce : Nat) (Ar : Option Addr) (nr cr : Nat) (Av : Option Addr) (nv cv : Nat) (o : Outc) : Prop := RInts w Ae ne ce o.1 ∧ RAgg ERnd 6 w Ar nr cr o.2.1 ∧ RAgg ETie 2 w Av nv cv o.2.2
theorem ROut.below {w w' : World} {Ae : Option Addr} {ne ce : Nat} {Ar : Option Addr} {nr cr : Nat} {Av : Option Addr} {nv cv : Nat} {o : Outc} (h : ROut w Ae ne ce Ar nr cr Av nv cv o) (hb : Below w.heap.size w w') : ROut w' Ae ne ce Ar nr cr Av nv cv o :=
  ⟨h.1.below hb, h.2.1.below below_rnd hb, h.2.2.below below_tie hb⟩
theorem ROut.nil_ (w : World) : ROut w none 0 0 none 0 0 none 0 0 ([], [], []) := ⟨RInts.nil_ _, RAgg.nil_ _ _ _, RAgg.nil_ _ _ _⟩
end Go.Proofs.YthkkadmgcicedaaGreat
