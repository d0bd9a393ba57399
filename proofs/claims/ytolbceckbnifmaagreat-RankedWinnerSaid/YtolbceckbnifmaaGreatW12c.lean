/-
  A range over a function whose iterator works in memory of its own: what it tells of each element may speak of the world.
  The layer condorcet: sets that grow; the Smith set.
  The layer condorcet: the Smith set.
-/
import Derived.RangeFuncNested
import Derived.RangeFuncBound
import Derived.RangeFuncCalls
import Derived.RangeFuncLeaves
import Derived.Test.YtolbceckbnifmaaGreatSpecSr
import Derived.Test.YtolbceckbnifmaaGreatW12a
import Derived.Test.YtolbceckbnifmaaGreatW11g
import Derived.Test.YtolbceckbnifmaaGreatW8i
namespace Go.Proofs.YtolbceckbnifmaaGreat
open Go Go.RowKit

/-- An iterator that calls yield N times: of the k-th element it tells R; what a caller knows (J) stays as long as the blocks that stand at its word stay; a round keeps Kp. -/
def SeqR {α : Type} (F : Fence) (n : Nat) (P : Program) (g : Nat) (lb : Array Value) (encs : α → Array Value) (Kp : World → World → Prop) (R : Nat → α → World → Prop) (N : Nat) (w : World) : Prop :=
  ∀ (l : Nat) (J : Nat → World → Prop) (W : World), Below w.heap.size w W → (∀ k A B, J k A → Below A.heap.size A B → J k B) →
    (∀ k x W1, k < N → J k W1 → R k x W1 → YieldAt F (n - 1) P l (encs x) W1 fun e W' => e = .returned (.bool true) ∧ J (k + 1) W' ∧ Kp W1 W') →
    J 0 W →
    CallsIn F n P g (#[.func (.yield l) #[] #[]] ++ lb) W fun e W' => (∃ v, e = .returned v) ∧ J N W'

/-- The body goes on. -/
def onPost (B : Nat) (Kp : World → World → Prop) (I : Nat → World → Prop) (k : Nat) (W : World) : Exit → Act → World → Prop
  | .normal, _, W' => KeepsFrom B W W' ∧ Kp W W' ∧ I k W'
  | _, _, _ => False

variable {F : Fence} {n : Nat} {P : Program}

theorem heap_of_below {A B : World} (h : Below A.heap.size A B) {k : Nat} {o : Obj} (hk : A.heap[k]? = some o) : B.heap[k]? = some o :=
  (h.block k (Array.getElem?_eq_some_iff.1 hk).1).trans hk

theorem wpIn_rangeR {α : Type} {g : Operand} {ps : Array Tmp} {assign body : Code} {Q : Exit → Act → World → Prop} {a : Act} {w : World}
    (hro : F.round = none) (h1 : 1 ≤ n) {gf : Nat} {lb : Array Value} (hg : a.eval g = .func (.func gf) #[] lb) (hFg : F.fn gf) (eg : ∀ args w, (callFunc gf args).run P w = .ok (.enter gf args) w)
    {encs : α → Array Value} {Kp : World → World → Prop} {R : Nat → α → World → Prop} {N : Nat} {w0 : World} (hseq : SeqR F (n - 1) P gf lb encs Kp R N w0)
    (hKt : ∀ {A B C : World}, Kp A B → Kp B C → Kp A C) (hKb : ∀ (W : World) (l : Nat) (o o' : Obj), w.heap.size ≤ l → W.heap[l]? = some o → o.isCells = false → Kp W (W.putObj l o')) (hb0 : Below w0.heap.size w0 w) (hps : ∀ x, (encs x).size = ps.size)
    (hRb : ∀ k x (W : World) (l : Nat) (o o' : Obj), R k x W → w.heap.size ≤ l → W.heap[l]? = some o → o.isCells = false → R k x (W.putObj l o'))
    (I : Nat → World → Prop) (hI : ∀ k A B, I k A → Below A.heap.size A B → I k B) (hIb : ∀ k (W : World) (l : Nat) (o o' : Obj), I k W → w.heap.size ≤ l → W.heap[l]? = some o → o.isCells = false → I k (W.putObj l o'))
    (h0 : I 0 w) (a₁ : α → Act)
    (hassign : ∀ (l : Nat) (x : α) (W : World) (K : Act → World → Prop), K (a₁ x) W →
      assign.wpIn (F.inRound l) (n - 1 - 1) P (Exit.then K (fun _ _ _ => False)) { tmps := (ps.zip (encs x)).foldl (fun t (p, v) => t.setIfInBounds p v) a.tmps, defers := [] } W)
    (hbody : ∀ (l : Nat) (k : Nat) (x : α) (W : World), k < N → I k W → R k x W → body.wpIn (F.inRound l) (n - 1 - 1) P (onPost w.heap.size Kp I (k + 1) W) (a₁ x) W)
    (hdone : ∀ (D : Nat) (W : World), w.heap.size ≤ D → I N W → W.heap[D]? = some (.deferred (some [])) → Q .normal { a with defers := { target := .collected D, args := #[] } :: a.defers } W) :
    (Code.rangeFunc g ps assign body).wpIn F n P Q a w := by
  refine wpIn_rangeFunc ?_
  intro fn hfn
  rw [hro]
  obtain ⟨rec, hrec⟩ : ∃ rec : LoopState → Option Code → Loop, rec = fun st pe => { state := st, pending := pe, fn, tmps := a.tmps, params := ps, assign, body, defers := w.heap.size } := ⟨_, rfl⟩
  obtain ⟨Wa, hWa⟩ : ∃ Wa, w.alloc (.deferred (some [])) = Wa := ⟨_, rfl⟩
  have hsa : Wa.heap.size = w.heap.size + 1 := by rw [← hWa, World.size_alloc]
  have hba : Below w.heap.size w Wa := by rw [← hWa]; exact (Below.refl _ w).alloc (Nat.le_refl _) _
  have hKa : Wa.heap[w.heap.size]? = some (.deferred (some [])) := by rw [← hWa]; exact World.alloc_heap_new w _
  obtain ⟨W1, hW1⟩ : ∃ W1, Wa.alloc (.loop (rec .ready none)) = W1 := ⟨_, rfl⟩
  have hb1 : Below Wa.heap.size Wa W1 := by rw [← hW1]; exact (Below.refl _ Wa).alloc (Nat.le_refl _) _
  have hL1 : W1.heap[w.heap.size + 1]? = some (.loop (rec .ready none)) := by
    rw [← hW1, ← hsa]; exact World.alloc_heap_new Wa _
  have hK1 := heap_of_below hb1 hKa
  have hI1 : I 0 W1 := hI _ _ _ (hI _ _ _ h0 hba) hb1
  have hbw : Below w0.heap.size w0 W1 := hb0.trans ((hba.trans (hb1.mono (by omega))).mono hb0.size)
  refine ⟨w.heap.size + 1, [{ target := .collected w.heap.size, args := #[] }], W1, { target := .fn (.func gf) lb, args := #[.func (.yield (w.heap.size + 1)) #[] #[]] }, W1, gf,
    #[.func (.yield (w.heap.size + 1)) #[] #[]] ++ lb, W1, ?_, ?_, ?_, ?_, fun _ => h1, ?_⟩
  · rw [← hW1, ← hWa, hrec]; exact run_enterLoop_outer _ _ _ _ _
  · simp only [resolve, hg]
    simp [go_sem]
  · intro f' hf'; simp [Target.leads] at hf'; subst hf'; exact hFg
  · simp [invoke, go_sem, eg]
  · refine (hseq (w.heap.size + 1) (fun k W => I k W ∧ W.heap[w.heap.size + 1]? = some (.loop (rec .ready none)) ∧ W.heap[w.heap.size]? = some (.deferred (some []))) W1 hbw
      (fun k A B hs hb => ⟨hI k A B hs.1 hb, heap_of_below hb hs.2.1, heap_of_below hb hs.2.2⟩) ?_ ⟨hI1, hL1, hK1⟩).mono ?_
    · rintro k x W hkN ⟨hi, hl, hk⟩ hR
      have hy := run_yield (P := P) (args := encs x) hl (by rw [hrec]; exact hps x)
      rw [hrec] at hy
      refine ⟨fn, _, assign, body, hy, roundIn_of_wpIn hfn (hassign _ x W _ ?_)⟩
      clear hy
      have hlt : w.heap.size + 1 < W.heap.size := (Array.getElem?_eq_some_iff.1 hl).1
      refine ⟨_, run_beginRound hl (by rw [hrec]), ?_⟩
      have hl2 : (W.putObj (w.heap.size + 1) (.loop { rec .ready none with state := .busy })).heap[w.heap.size + 1]? = some (.loop { rec .ready none with state := .busy }) := World.putObj_heap_same hlt
      have hk2 : (W.putObj (w.heap.size + 1) (.loop { rec .ready none with state := .busy })).heap[w.heap.size]? = some (.deferred (some [])) := (World.putObj_heap_other (by omega)).trans hk
      have hw2 : Kp W (W.putObj (w.heap.size + 1) (.loop { rec .ready none with state := .busy })) := hKb _ _ _ _ (by omega) hl rfl
      refine wpIn_mono (hbody _ k x _ hkN (hIb _ _ _ _ _ hi (by omega) hl rfl) (hRb _ _ _ _ _ _ hR (by omega) hl rfl)) ?_
      rintro e a3 W3 hp
      cases e with
      | normal =>
        obtain ⟨hk3, hkp3, hi3⟩ := hp
        have hl3 := hk3.same _ _ (by omega) hl2 rfl
        have hr : (Instr.endRound (w.heap.size + 1) none).run P W3 = .ok (.bool true) (W3.putObj (w.heap.size + 1) (.loop (rec .ready none))) := by
          have := run_endRound (P := P) none hl3
          rw [hrec] at this ⊢
          exact this
        have hl4 : (W3.putObj (w.heap.size + 1) (.loop (rec .ready none))).heap[w.heap.size + 1]? = some (.loop (rec .ready none)) := World.putObj_heap_same (Array.getElem?_eq_some_iff.1 hl3).1
        have hk4 : (W3.putObj (w.heap.size + 1) (.loop (rec .ready none))).heap[w.heap.size]? = some (.deferred (some [])) := (World.putObj_heap_other (by omega)).trans (hk3.same _ _ (Nat.le_refl _) hk2 rfl)
        exact ⟨_, _, hr, rfl, ⟨hIb _ _ _ _ _ hi3 (by omega) hl3 rfl, hl4, hk4⟩, hKt (hKt hw2 hkp3) (hKb _ _ _ _ (by omega) hl3 rfl)⟩
      | ret => exact hp.elim
      | exit id => exact hp.elim
      | goto t => exact hp.elim
      | panic ch => exact hp.elim
      | outgrown => exact hp.elim
    · rintro e W2 ⟨⟨v, rfl⟩, hi, hl, hk⟩
      exact ⟨none, _, by have := run_endLoop (P := P) hl (by rw [hrec]; simp); rw [hrec] at this; exact this, hdone _ _ (Nat.le_refl _) (hIb _ _ _ _ _ hi (by omega) hl rfl) ((World.putObj_heap_other (by omega)).trans hk)⟩
end Go.Proofs.YtolbceckbnifmaaGreat

namespace Go.Proofs.YtolbceckbnifmaaGreat
open Go.RowKit Go.Proofs Go.Shelf
attribute [local go_sem] Oper.semAt_some
attribute [local go_sem] cell?_more cell?_alloc_some cell?_setCell_far frozen?_alloc_some frozen?_more
/-- A set as the iterator hands it on: its slice, its members. -/
structure SetAt (m : M) (C B k : Nat) (x : Value × List Int) (W : World) : Prop where
  own : Own W B x.1 x.2
  grow : Grow m C k x.2
  shut : ∀ a b : Nat, (a : Int) ∈ x.2 → b < C → nbS m a b → (b : Int) ∈ x.2
theorem Grow.le {m : M} {C k : Nat} {L : List Int} (h : Grow m C k L) : L.length ≤ C := by
  have := h.nd.length_le_of_subset (l₂ := rangeI C) fun x hx => mem_rangeI.2 (h.rng x hx)
  rwa [length_rangeI] at this
theorem grown_any (Cs : Array Value) (c : Int) (w : World) :
    Calls Tryz.prog 69 #[.agg Cs, .int .i64 c] w fun e w' => e = .returned (.func (.func 101) #[] #[.pointer (some ⟨w.heap.size + 1, 0, none⟩), .pointer (some ⟨w.heap.size, 0, none⟩)]) ∧
      (w.alloc (.cells Cs 24)).alloc (.cells #[.int .i64 c] 3) = w' := by
  go_enter Tryz.func69, Tryz.ntmps69
  go_wp2
  go_ret
  exact ⟨by simp, rfl⟩

set_option maxRecDepth 100000 in
set_option maxHeartbeats 4000000 in
theorem grown1_any (mm : Nat) (hm1 : 1 ≤ mm) (l Bm Bc B : Nat) (Sf : Nat → Prop) (D : Array Value) (m : M) (C : Nat) (hD : Mat D m) (hC : C ≤ 10) (J : Nat → World → Prop) (hJ : ∀ k A E, J k A → Below A.heap.size A E → J k E)
    (hY : ∀ k (x : Value × List Int) W, k < C → J k W → SetAt m C B k x W → YieldAt Fence.wide (mm - 1) Tryz.prog l #[x.1] W fun e W' => e = .returned (.bool true) ∧ J (k + 1) W' ∧ Frame' Sf W W')
    (W : World) (hM : Has W Bm 24 D) (hc : Has W Bc 3 #[.int .i64 C]) (hSm : ¬ Sf Bm) (hSc : ¬ Sf Bc) (hB : B ≤ W.heap.size) (h0 : J 0 W) :
    CallsIn Fence.wide mm Tryz.prog 101 #[.func (.yield l) #[] #[], .pointer (some ⟨Bc, 0, none⟩), .pointer (some ⟨Bm, 0, none⟩)] W fun e W' => (∃ v, e = .returned v) ∧ J C W' := by
  refine callsIn_wide.2 ?_
  have HY := hide hY
  have HJ := hide hJ
  have H0 := hide h0
  clear hY hJ h0
  have c0 := hc.cell 0
  go_enter Tryz.func101, Tryz.ntmps101
  go_wp2
  clear c0
  go_loopw [9] (fun i wr => ∃ k : Nat, k ≤ C ∧ i = .int .i64 k ∧ Hid (J k wr) ∧ Has wr Bm 24 D ∧ Has wr Bc 3 #[.int .i64 C] ∧ B ≤ wr.heap.size) (fun i _ => C - (intOf i).toNat)
  case atStart => exact ⟨0, Nat.zero_le _, rfl, H0, hM, hc, hB⟩
  case round =>
    obtain ⟨k, hk, rfl, hJk, hMr, hCr, hBr⟩ := hrel
    obtain ⟨wo, rfl⟩ : ∃ wo : World, wo = wr := ⟨_, rfl⟩
    by_cases hlt : k < C
    · go_upto_region 4 with fail
      have hO := Own.lit wo wo.heap.size k (Nat.le_refl _)
      have hbo : Below wo.heap.size wo (wo.alloc (.cells #[.int .i64 k] 3)) := below_allocN
      generalize World.alloc wo _ = wa at hO hbo ⊢
      have hG0 := hide (Grow.start m hlt)
      go_wp2
      go_loopw [5, 6] (fun v i wr => ∃ (L : List Int) (I : Nat), I ≤ L.length ∧ i = .int .i64 I ∧ Own wr wo.heap.size v L ∧ Hid (Grow m C k L) ∧ Hid (Let m C L I 0) ∧ Below wo.heap.size wo wr) (fun v i _ => C + 1 - (intOf i).toNat)
      case atStart => exact ⟨[(k : Int)], 0, Nat.zero_le _, rfl, hO, hG0, Let.zero m C _, hbo⟩
      case round =>
        obtain ⟨L, I, hI, rfl, hL, hG, hT, hb⟩ := hrel
        obtain ⟨wp, rfl⟩ : ∃ wp : World, wp = wr := ⟨_, rfl⟩
        obtain ⟨A1, c1, rfl⟩ := hL.slice
        have hLC := hG.out.le
        obtain ⟨n, hn⟩ : ∃ n, n = L.length := ⟨_, rfl⟩
        rw [← hn] at hI hL hLC ⊢
        have Hn := hide hn
        clear hn
        have hMp := hMr.below hb hMr.lt
        have hCp := hCr.below hb hCr.lt
        by_cases hIn : I < n
        · have hR := hL.ints fun x hx => by have := hG.out.rng x hx; omega
          obtain ⟨b, off, v, e1, hcell, _, hat, _⟩ := hR.step hIn
          have hv := hG.out.rng v (List.mem_of_getElem? hat.out)
          obtain ⟨X, rfl⟩ : ∃ X : Nat, v = X := ⟨v.toNat, by omega⟩
          clear hcell e1 hR
          have c0 := hCp.cell 0
          go_wp2
          clear c0
          go_loopw [5, 21] (fun v i wr => ∃ (L' : List Int) (Y : Nat), Y ≤ C ∧ i = .int .i64 Y ∧ Own wr wo.heap.size v L' ∧ Hid (Grow m C k L') ∧ Hid (Let m C L' I Y) ∧ Hid (L'[I]? = some (X : Int)) ∧ Below wo.heap.size wo wr) (fun v i _ => C - (intOf i).toNat)
          case atStart => exact ⟨L, 0, Nat.zero_le _, rfl, hL, hG, hT, hat, hb⟩
          case round =>
            obtain ⟨L', Y, hYC, rfl, hL', hG', hT', hat', hb'⟩ := hrel
            obtain ⟨wq, rfl⟩ : ∃ wq : World, wq = wr := ⟨_, rfl⟩
            obtain ⟨A2, c2, rfl⟩ := hL'.slice
            have hLC' := hG'.out.le
            have hIl := (List.getElem?_eq_some_iff.1 hat'.out).1
            obtain ⟨n2, hn2⟩ : ∃ n2, n2 = L'.length := ⟨_, rfl⟩
            rw [← hn2] at hL' hLC' hIl ⊢
            have Hn2 := hide hn2
            clear hn2
            by_cases hY : Y < C
            · have hR := hL'.ints fun x hx => by have := hG'.out.rng x hx; omega
              obtain ⟨b, off, v, rfl, hcell, _, hatv, _⟩ := hR.step hIl
              obtain rfl : v = (X : Int) := by have := hatv.out; rw [hat'.out] at this; exact (Option.some.inj this).symm
              clear hatv
              have hMq := hMr.below hb' hMr.lt
              have x10 : X < 10 := by omega
              have y10 : Y < 10 := by omega
              have bx : (X : Int) < 10 := by omega
              have by_ : (Y : Int) < 10 := by omega
              have hcv := (hMq.cell (X * 10 + Y)).trans (hD.at_ X Y x10 y10)
              have hcu := (hMq.cell (Y * 10 + X)).trans (hD.at_ Y X y10 x10)
              have hxin := hide (List.mem_of_getElem? hat'.out)
              by_cases hnb : m X Y ≤ m Y X
              · have d1 : decide (m X Y ≤ m Y X) = true := by simpa using hnb
                cases hin : inL L' Y with
                | true =>
                  have hnx := hide (hT'.out.skip hat'.out (.inr (inL_iff.1 hin)))
                  clear hnb
                  generalize m X Y = v at hcv d1
                  generalize m Y X = u at hcu d1
                  go_upto_region 10 with fail
                  have hcn : ∀ q, Calls Tryz.prog 102 #[.slice (some ⟨b, off, none⟩) n2 c2, .int .i64 Y] (More wq q) fun e w' => e = .returned (.bool true) ∧ More wq q = w' := fun q => by
                    have := contains_any _ n2 c2 L' Y _ (hR.more q)
                    rwa [hin] at this
                  refine wp_region_more (by kernel_rfl) (by kernel_rfl) ?_
                  repeat (go_big_quiet_step ((go_at_call 102; with_reducible exact more_same (hcn _))))
                  refine wpQuiet_nil ?_
                  rintro w2 ⟨qw2, hww2⟩
                  have hbw2 := below_of_eq hww2
                  clear hww2 qw2
                  go_wp2
                  go_roundw
                  case rel => exact ⟨L', Y + 1, by omega, by go_num, hL'.below hbw2, hG', hnx, hat', Below_trans' hb' hb'.size hbw2⟩
                  case measure => simp [intOf] <;> omega
                | false =>
                  have hYn : (Y : Int) ∉ L' := fun h => by rw [inL_iff.2 h] at hin; cases hin
                  have hnx := hide (hT'.out.add hat'.out)
                  have hgx := hide (hG'.out.add hxin.out hY hnb hYn)
                  have hatx : Hid ((L' ++ [(Y : Int)])[I]? = some (X : Int)) := by unfold Hid; rw [List.getElem?_append_left (by rw [← Hn2.out]; exact hIl)]; exact hat'.out
                  clear hnb hYn
                  generalize m X Y = v at hcv d1
                  generalize m Y X = u at hcu d1
                  go_upto_region 10 with fail
                  have hcn : ∀ q, Calls Tryz.prog 102 #[.slice (some ⟨b, off, none⟩) n2 c2, .int .i64 Y] (More wq q) fun e w' => e = .returned (.bool false) ∧ More wq q = w' := fun q => by
                    have := contains_any _ n2 c2 L' Y _ (hR.more q)
                    rwa [hin] at this
                  refine wp_region_more (by kernel_rfl) (by kernel_rfl) ?_
                  repeat (go_big_quiet_step ((go_at_call 102; with_reducible exact more_same (hcn _))))
                  refine wpQuiet_nil ?_
                  rintro w2 ⟨qw2, hww2⟩
                  have hbw2 := below_of_eq hww2
                  clear hww2 qw2
                  clear hcn
                  have hL2 := hL'.below hbw2
                  have hb2 := Below_trans' hb' hb'.size hbw2
                  have hz2 := hb2.size
                  have hl2 : L'.length = n2 := Hn2.out.symm
                  go_wp2_with (at_builtin; refine appInt rfl rfl rfl (hL2.below below_allocN) rfl ((Has.new _ _ _).cell 0) (by omega) (by simp; omega) ?_)
                  intro v' w' hO' hg
                  have hb3 : Below wo.heap.size wo w' := (hb2.alloc hz2 _).grown hg (by simp; omega) (fun i hi => (hL2.lt i hi).1)
                  go_wp2
                  go_roundw
                  case rel => exact ⟨_, Y + 1, by omega, by go_num, hO', hgx, hnx, hatx, hb3⟩
                  case measure => simp [intOf] <;> omega
              · have hnx := hide (hT'.out.skip hat'.out (.inl hnb))
                have d1 : decide (m X Y ≤ m Y X) = false := by simpa using hnb
                clear hnb
                generalize m X Y = v at hcv d1
                generalize m Y X = u at hcu d1
                go_upto_region 10 with fail
                refine wp_region_more (by kernel_rfl) (by kernel_rfl) ?_
                repeat (go_big_quiet_step (fail))
                refine wpQuiet_nil ?_
                rintro w2 ⟨qw2, hww2⟩
                have hbw2 := below_of_eq hww2
                clear hww2 qw2
                go_wp2
                go_roundw
                case rel => exact ⟨L', Y + 1, by omega, by go_num, hL'.below hbw2, hG', hnx, hat', Below_trans' hb' hb'.size hbw2⟩
                case measure => simp [intOf] <;> omega
            · obtain rfl : C = Y := by omega
              have hI2 : I + 1 ≤ L'.length := by rw [← Hn2.out]; exact hIl
              have hrw := hide hT'.out.row
              go_wp2
              go_roundw
              case rel => exact ⟨L', I + 1, hI2, by go_num, hL', hG', hrw, hb'⟩
              case measure => simp [intOf] <;> omega
        · obtain ⟨fn, tmps, assign, body, hy, hR⟩ := HY.out k (.slice A1 n c1, L) wp hlt (HJ.out _ _ _ hJk.out hb) ⟨hL.mono hBr, hG.out, fun a b ha hb hn => hT.out.all (by rw [← Hn.out]; omega) ha hb hn⟩
          dsimp only at hy
          go_upto_region 13 with fail
          refine (wpIn_wide (n := mm)).1 ?_
          gi_wp2
          refine hR.mono ?_
          rintro e W3 ⟨rfl, hJ3, hF3⟩
          gi_wp2
          go_wp2
          have hM3 := hF3.has hMp hSm
          have hC3 := hF3.has hCp hSc
          have hz3 : B ≤ W3.heap.size := Nat.le_trans hBr (Nat.le_trans hb.size hF3.size)
          go_roundw
          case rel => exact ⟨k + 1, by omega, by go_num, hJ3, hM3, hC3, hz3⟩
          case measure => simp [intOf] <;> omega
    · obtain rfl : C = k := by omega
      go_wp2
      refine bodyPost_end (results_none rfl _ _ _) rfl ?_
      exact ⟨⟨_, rfl⟩, hJk.out⟩
end Go.Proofs.YtolbceckbnifmaaGreat

namespace Go.Proofs.YtolbceckbnifmaaGreat
open Go.RowKit Go.Proofs Go.Shelf
attribute [local go_sem] Oper.semAt_some
attribute [local go_sem] cell?_more cell?_alloc_some cell?_setCell_far frozen?_alloc_some frozen?_more
theorem results_slice {fn : Func} {p u : Tmp} (h : fn.results = #[.cell p 28, .tmp u]) {tmps : Array Value} {w : World} {g : Nat} {v x : Value} (hp : tmps.getD p undef = .pointer (some ⟨g, 0, none⟩)) (hu : tmps.getD u undef = x) (hc : w.cell? ⟨g, 0, none⟩ = some v) :
    (results fn tmps).run Tryz.prog w = .ok (.tuple #[v, x]) w := by
  rw [results_cell_tmp h, hp, hu]
  simp only [asAddr]
  go_simp

theorem run_nil0 (W : World) : Sem.run Tryz.prog (binOp BinOp.eql 28 (.slice none 0 0) (.slice none 0 0)) W = .ok (.bool true) W := by kernel_rfl
theorem run_nil1 (a : Addr) (n c : Nat) (W : World) : Sem.run Tryz.prog (binOp BinOp.eql 28 (.slice (some a) n c) (.slice none 0 0)) W = .ok (.bool false) W := by kernel_rfl
attribute [local go_sem] run_nil0 run_nil1
/-- What the loop of Smith knows: the least set so far. -/
def LeastAt (m : M) (C B fb : Nat) (w0 : World) (k : Nat) (W : World) : Prop :=
  (∃ v, Has W fb 28 #[v] ∧ ((k = 0 ∧ v = .slice none 0 0) ∨ (0 < k ∧ ∃ L, Own W B v L ∧ Least m C k L))) ∧ Below w0.heap.size w0 W
theorem LeastAt.below {m : M} {C B fb : Nat} {w0 : World} {k : Nat} {A E : World} (hs : w0.heap.size ≤ A.heap.size) (h : LeastAt m C B fb w0 k A) (hb : Below A.heap.size A E) : LeastAt m C B fb w0 k E := by
  obtain ⟨⟨v, hv, h⟩, h2⟩ := h
  refine ⟨⟨v, hv.below hb hv.lt, ?_⟩, Below_trans' h2 hs hb⟩
  rcases h with h | ⟨h0, L, hO, hL⟩
  · exact .inl h
  · exact .inr ⟨h0, L, hO.below hb, hL⟩
theorem has_putObj {W : World} {g l : Nat} {t : TypeId} {C : Array Value} {o : Obj} (h : Has W g t C) (o' : Obj) (hl : W.heap[l]? = some o) (ho : o.isCells = false) : Has (W.putObj l o') g t C := by
  have hne : g ≠ l := fun e => by subst e; unfold Has at h; rw [h] at hl; cases hl; cases ho
  unfold Has at *
  rw [World.putObj_heap_other hne]; exact h
theorem own_putObj {W : World} {B l : Nat} {v : Value} {xs : List Int} {o : Obj} (h : Own W B v xs) (o' : Obj) (hl : W.heap[l]? = some o) (ho : o.isCells = false) : Own (W.putObj l o') B v xs := ownsRow_putObj h o' hl ho
theorem LeastAt.putObj {m : M} {C B fb : Nat} {w0 : World} {k l : Nat} {W : World} {o : Obj} (h : LeastAt m C B fb w0 k W) (o' : Obj) (hw : w0.heap.size ≤ l) (hl : W.heap[l]? = some o) (ho : o.isCells = false) : LeastAt m C B fb w0 k (W.putObj l o') := by
  obtain ⟨⟨v, hv, h⟩, h2⟩ := h
  refine ⟨⟨v, has_putObj hv o' hl ho, ?_⟩, h2.grown (grownBy_putObj' W l o') (Nat.le_of_lt (Nat.lt_of_le_of_lt hw (Array.getElem?_eq_some_iff.1 hl).1)) (fun i e => by cases e; exact hw)⟩
  rcases h with h | ⟨h0, L, hO, hL⟩
  · exact .inl h
  · exact .inr ⟨h0, L, own_putObj hO o' hl ho, hL⟩
theorem frame_putObj {S : Nat → Prop} {W : World} {l : Nat} {o' : Obj} (hS : S l) : Frame' S W (W.putObj l o') := by
  refine (Frame'.of_grown (grownBy_putObj' W l o')).mono fun k _ hk => ?_
  have e : k = l := by simpa using hk
  rw [e]; exact hS

theorem leastAt_put {m : M} {C B fb k : Nat} {w0 W : World} {v u : Value} {L : List Int} (hB : fb < B) (hfb : w0.heap.size ≤ fb) (hv : Has W fb 28 #[v]) (hb : Below w0.heap.size w0 W) (hO : Own W B u L) (hL : Least m C (k + 1) L) :
    LeastAt m C B fb w0 (k + 1) (W.setCell ⟨fb, 0, none⟩ u) :=
  ⟨⟨u, hv.put 0 u, .inr ⟨by omega, L, hO.frame ((Frame'.refl (fun b => b = fb) W).setCell (.inl rfl) u) (fun b hb e => by have := hO.own_lt hb; omega), hL⟩⟩, hb.setCell (p := ⟨fb, 0, none⟩) hfb _⟩
theorem ord_sort {C : Nat} {L ys : List Int} (hr : ∀ x ∈ L, 0 ≤ x ∧ x < C) (hn : L.Nodup) (hp : ys.Perm L) (hs : ys.Pairwise (· ≤ ·)) : ys = ordS C L := by
  have h1 : (ordS C L).Perm L := (List.perm_ext_iff_of_nodup ((nodup_rangeI C).sublist List.filter_sublist) hn).2 fun x => mem_ordS hr
  exact List.Perm.eq_of_pairwise (fun a b _ _ h h' => Int.le_antisymm h h') hs ((sorted_rangeI C).sublist List.filter_sublist) (hp.trans h1.symm)

set_option maxRecDepth 100000 in
set_option maxHeartbeats 4000000 in
theorem smith_any (Cs : Array Value) (m : M) (hC : Mat Cs m) (c : Int) (w : World) :
    Calls Tryz.prog 29 #[.agg Cs, .int .i64 c] w fun e w' => ∃ v, e = .returned (.tuple #[v, .int .i64 (smithErr m c)]) ∧ Own w' w.heap.size v (smithV m c) ∧ Below w.heap.size w w' := by
  have hs := hC.size
  have hM0 : Has ((w.alloc (.cells Cs 24)).alloc (.cells #[.slice none 0 0] 28)) w.heap.size 24 Cs := (Has.new _ _ _).alloc _
  have hR0 : Has ((w.alloc (.cells Cs 24)).alloc (.cells #[.slice none 0 0] 28)) (w.heap.size + 1) 28 #[.slice none 0 0] := Has.new2 _ _ _ _
  have hb0 : Below w.heap.size w ((w.alloc (.cells Cs 24)).alloc (.cells #[.slice none 0 0] 28)) := ((Below.refl _ _).alloc (Nat.le_refl _) _).alloc (by simp) _
  have hz0 : Hid (((w.alloc (.cells Cs 24)).alloc (.cells #[.slice none 0 0] 28)).heap.size = w.heap.size + 2) := by unfold Hid; simp
  refine (callsIn_wide (n := 3)).1 ?_
  refine callsIn_of_wp_marks Tryz.func29 rfl trivial ?_ rfl
  simp only [Tryz.ntmps29, List.size_toArray, List.length_cons, List.length_nil, Nat.reduceAdd, Nat.reduceSub, Array.replicate_succ, Array.replicate_zero, List.push_toArray, List.append_toArray, List.nil_append, List.cons_append]
  refine wpIn_wide.2 ?_
  go_upto_region 1 with fail
  generalize World.alloc (World.alloc w _) _ = W0 at hM0 hR0 hb0 hz0 ⊢
  by_cases h1 : c < 1
  · have hE := hide (smithErr_arg (m := m) (.inl h1))
    have r0 := hR0.cell 0
    have f0 := hR0.free 0
    go_wp2
    refine ⟨_, results_slice rfl rfl rfl (World.cell?_setCell_same' _ _ _ (by rw [r0]; rfl)), .slice none 0 0, by rw [hE.out]; rfl, ?_, ?_⟩
    · rw [smithV_bad (by rw [hE.out]; decide)]; exact Own.nil_ _ _
    · exact hb0.setCell (p := ⟨w.heap.size + 1, 0, none⟩) (by simp) _
  · by_cases h10 : 10 < c
    · have hE := hide (smithErr_arg (m := m) (.inr h10))
      have r0 := hR0.cell 0
      have f0 := hR0.free 0
      go_wp2
      refine ⟨_, results_slice rfl rfl rfl (World.cell?_setCell_same' _ _ _ (by rw [r0]; rfl)), .slice none 0 0, by rw [hE.out]; rfl, ?_, ?_⟩
      · rw [smithV_bad (by rw [hE.out]; decide)]; exact Own.nil_ _ _
      · exact hb0.setCell (p := ⟨w.heap.size + 1, 0, none⟩) (by simp) _
    · cases hR : rightS m c with
      | false =>
        have hE := hide (smithErr_bad (by omega) hR)
        have hr := right_any Cs m hC c
        simp only [hR] at hr
        clear hR
        go_wp2_with (refine ldMat rfl rfl rfl hM0 hs ?_)
        refine (hr _).mono ?_
        rintro e w1 ⟨rfl, hb1⟩
        have hb01 := Below_trans' hb0 hb0.size hb1
        have hR1 := hR0.below hb1 hR0.lt
        have r0 := hR1.cell 0
        have f0 := hR1.free 0
        go_wp2
        refine ⟨_, results_slice rfl rfl rfl (World.cell?_setCell_same' _ _ _ (by rw [r0]; rfl)), .slice none 0 0, by rw [hE.out]; rfl, ?_, ?_⟩
        · rw [smithV_bad (by rw [hE.out]; decide)]; exact Own.nil_ _ _
        · exact hb01.setCell (p := ⟨w.heap.size + 1, 0, none⟩) (by simp) _
      | true =>
        obtain ⟨C, rfl⟩ : ∃ C : Nat, c = C := ⟨c.toNat, by omega⟩
        have hE := hide (smithErr_ok hR)
        have hr := right_any Cs m hC C
        simp only [hR] at hr
        have HR := hide hR
        clear hR
        go_wp2_with (refine ldMat rfl rfl rfl hM0 hs ?_)
        refine (hr _).mono ?_
        rintro e w1 ⟨rfl, hb1⟩
        clear hr
        have hb01 := Below_trans' hb0 hb0.size hb1
        have hM1 := hM0.below hb1 hM0.lt
        have hR1 := hR0.below hb1 hR0.lt
        go_wp2_with (refine ldMat rfl rfl rfl hM1 hs ?_)
        refine (grown_any Cs C w1).mono ?_
        rintro e wS ⟨rfl, hS⟩
        have hMS : Has wS w1.heap.size 24 Cs := by rw [← hS]; exact (Has.new _ _ _).alloc _
        have hCS : Has wS (w1.heap.size + 1) 3 #[.int .i64 C] := by rw [← hS]; exact Has.new2 _ _ _ _
        have hb1S : Below w1.heap.size w1 wS := by rw [← hS]; exact ((Below.refl _ _).alloc (Nat.le_refl _) _).alloc (by simp) _
        clear hS
        go_wp2
        have hMf := hM0.lt
        have hRf := hR1.lt
        have hz1 : w.heap.size + 2 ≤ w1.heap.size := by rw [← hz0.out]; exact hb1.size
        have hzS := hb1S.size
        have hRS := hR1.below hb1S hR1.lt
        have hbS := Below_trans' hb01 hb01.size hb1S
        have hC1 : 1 ≤ C := by omega
        have hC10 : C ≤ 10 := by omega
        clear hM0 hR0 hb0 hz0 hb1 hR1 hM1 hMf hRf
        refine (wpIn_wide (n := 3)).1 ?_
        refine wpIn_rangeR (w0 := wS) rfl (by decide) (gf := 101) (lb := #[.pointer (some ⟨w1.heap.size + 1, 0, none⟩), .pointer (some ⟨w1.heap.size, 0, none⟩)]) rfl trivial (enters_of Tryz.func101 (by kernel_rfl) rfl)
          (encs := fun x : Value × List Int => #[x.1]) (Kp := Frame' fun b => b = w.heap.size + 1 ∨ wS.heap.size ≤ b) (R := SetAt m C (w.heap.size + 2)) (N := C)
          (fun l J W hW hJ hY h0 => grown1_any 2 (by decide) l w1.heap.size (w1.heap.size + 1) (w.heap.size + 2) (fun b => b = w.heap.size + 1 ∨ wS.heap.size ≤ b) Cs m C hC hC10 J hJ hY W (hMS.below hW hMS.lt) (hCS.below hW hCS.lt)
            (by have := hMS.lt; omega) (by have := hCS.lt; omega) (by have := hW.size; omega) h0)
          (fun h k => h.trans k) (fun W l o o' hl ho _ => frame_putObj (.inr hl)) (Below.refl _ _) (fun _ => rfl)
          (fun k x W l o o' hR hl ho hc => ⟨own_putObj hR.own o' ho hc, hR.grow, hR.shut⟩)
          (LeastAt m C (w.heap.size + 2) (w.heap.size + 1) w)
          (fun k A E hI hb => hI.below hI.2.size hb) (fun k W l o o' hI hl ho hc => hI.putObj o' (by omega) ho hc)
          ⟨⟨_, hRS, .inl ⟨rfl, rfl⟩⟩, hbS⟩
          (fun x => { tmps := #[.agg Cs, .int .i64 C, .pointer (some ⟨w.heap.size, 0, none⟩), undef, .pointer (some ⟨w.heap.size + 1, 0, none⟩), .int .i64 0, x.1, .bool false, .int .i64 C, .bool false, .bool false, .int .i64 C, .bool false, .bool false, .bool false, .agg Cs, .int .i64 C, .bool true, .bool false, .agg Cs, .int .i64 C,
            .func (.func 101) #[] #[.pointer (some ⟨w1.heap.size + 1, 0, none⟩), .pointer (some ⟨w1.heap.size, 0, none⟩)], x.1, undef, undef, undef, undef, undef, undef, undef, undef, undef, undef, undef, undef, undef], defers := [] }) ?assign ?body ?done
        case assign =>
          intro l x W K hK
          gi_wp2
          exact hK
        case body =>
          rintro l k ⟨xv, L⟩ W hk ⟨⟨v, hv, hcase⟩, hbw⟩ ⟨hO, hG, hcl⟩
          dsimp only at hO hG hcl ⊢
          obtain ⟨Ax, cx, rfl⟩ := hO.slice
          have r0 := hv.cell 0
          have f0 := hv.free 0
          have hKx := (Frame'.refl (fun b => b = w.heap.size + 1 ∨ wS.heap.size ≤ b) W).setCell (p := ⟨w.heap.size + 1, 0, none⟩) (.inl (.inl rfl)) (.slice Ax L.length cx)
          rcases hcase with ⟨rfl, rfl⟩ | ⟨hk0, L0, hO0, hL0⟩
          · have hnx := leastAt_put (by omega) (by omega) hv hbw hO (Least.one hG hcl)
            obtain ⟨n, hn⟩ : ∃ n, n = L.length := ⟨_, rfl⟩
            rw [← hn] at hO hnx hKx ⊢
            clear hn
            gi_wp2
            exact ⟨(KeepsOthers.setCell _ _ _).from _, hKx, hnx⟩
          · obtain ⟨A0, c0, rfl⟩ := hO0.slice
            have hp0 : 0 < L0.length := by
              obtain ⟨a, ha⟩ := List.exists_mem_of_ne_nil _ hL0.dom.ne
              have := (mem_ordS hL0.rng).1 ha
              exact List.length_pos_of_mem this
            obtain ⟨b0, o0, rfl, _⟩ := hO0.new hp0
            by_cases hlt : L.length < L0.length
            · obtain ⟨k', rfl⟩ : ∃ k', k = k' + 1 := ⟨k - 1, by omega⟩
              have hnx := leastAt_put (by omega) (by omega) hv hbw hO (hL0.next hG hcl hlt)
              obtain ⟨n, hn⟩ : ∃ n, n = L.length := ⟨_, rfl⟩
              obtain ⟨n0, hn0⟩ : ∃ n0, n0 = L0.length := ⟨_, rfl⟩
              rw [← hn] at hO hnx hKx hlt ⊢
              rw [← hn0] at hO0 hlt hp0 r0 hv
              clear hn hn0
              gi_wp2
              exact ⟨(KeepsOthers.setCell _ _ _).from _, hKx, hnx⟩
            · have hnx : LeastAt m C (w.heap.size + 2) (w.heap.size + 1) w (k + 1) W := ⟨⟨_, hv, .inr ⟨by omega, L0, hO0, hL0.keep hG hcl hlt⟩⟩, hbw⟩
              obtain ⟨n, hn⟩ : ∃ n, n = L.length := ⟨_, rfl⟩
              obtain ⟨n0, hn0⟩ : ∃ n0, n0 = L0.length := ⟨_, rfl⟩
              rw [← hn] at hO hlt ⊢
              rw [← hn0] at hO0 hlt hp0 r0 hv
              clear hn hn0 hKx
              gi_wp2
              exact ⟨KeepsFrom.refl _ _, Frame'.refl _ _, hnx⟩
        case done =>
          rintro D W hD ⟨⟨v, hv, hcase⟩, hbw⟩ hK
          rcases hcase with ⟨e0, _⟩ | ⟨_, L, hO, hL⟩
          · omega
          · have hSm := hide hL.smith
            have hsv := hide (smithV_ok HR.out hL.smith)
            obtain ⟨Ax, cx, rfl⟩ := hO.slice
            have r0 := hv.cell 0
            have f0 := hv.free 0
            have hle : L.length ≤ 12 := by
              have := hL.nd.length_le_of_subset (l₂ := rangeI C) fun x hx => mem_rangeI.2 (hL.rng x hx)
              rw [length_rangeI] at this; omega
            have hpx : 0 < L.length := by
              obtain ⟨a, ha⟩ := List.exists_mem_of_ne_nil _ hL.dom.ne
              have := (mem_ordS hL.rng).1 ha
              exact List.length_pos_of_mem this
            obtain ⟨b0, o0, rfl, hb0⟩ := hO.new hpx
            have hdn : D ≠ b0 := fun e => by
              subst e
              rcases hO.2 with ⟨e1, _⟩ | ⟨g, cap, cur, e1, _, hg, _⟩
              · cases e1
              · cases e1; rw [hg] at hK; cases hK
            have HL := hide hL
            clear hL
            obtain ⟨n, hn⟩ : ∃ n, n = L.length := ⟨_, rfl⟩
            rw [← hn] at hO hv r0 hle hpx
            have Hn := hide hn
            clear hn
            go_wp2_with fail
            refine (sort_any (w.heap.size + 2) _ n cx L W hO hle).mono ?_
            rintro e W2 ⟨rfl, ys, hO2, hp, hso, hF⟩
            have hys := ord_sort HL.out.rng HL.out.nd hp hso
            have hv2 : Has W2 (w.heap.size + 1) 28 #[.slice (some ⟨b0, o0, none⟩) n cx] := hF.has hv (fun e => by simp [Value.ownBlock] at e; omega)
            have hb2 : Below w.heap.size w W2 := Frame'.below hbw hF (fun k e => by simp [Value.ownBlock] at e; omega) hbw.size
            have hK2 : W2.heap[D]? = some (.deferred (some [])) := (hF.block D (Array.getElem?_eq_some_iff.1 hK).1 (fun e => by simp [Value.ownBlock] at e; omega)).trans hK
            clear r0 f0
            have r0 := hv2.cell 0
            have f0 := hv2.free 0
            go_wp2
            have hfd : w.heap.size + 1 ≠ D := fun e => by
              subst e; unfold Has at hv2; rw [hv2] at hK2; cases hK2
            have hK3 : (W2.setCell ⟨w.heap.size + 1, 0, none⟩ (.slice (some ⟨b0, o0, none⟩) n cx)).heap[D]? = some (.deferred (some [])) := (Below.heap_setCell W2 _ _ D (fun e => hfd e.symm)).trans hK2
            have hv3 := hv2.put 0 (.slice (some ⟨b0, o0, none⟩) n cx)
            have hb3 := hb2.setCell (p := ⟨w.heap.size + 1, 0, none⟩) (by simp) (.slice (some ⟨b0, o0, none⟩) n cx)
            have hO3 : Own (W2.setCell ⟨w.heap.size + 1, 0, none⟩ (.slice (some ⟨b0, o0, none⟩) n cx)) (w.heap.size + 2) (.slice (some ⟨b0, o0, none⟩) n cx) ys := hO2.frame ((Frame'.refl (fun b => b = w.heap.size + 1) W2).setCell (.inl rfl) _) (fun b hb e => by have := hO2.own_lt hb; omega)
            generalize W2.setCell _ _ = W3 at hK3 hv3 hb3 hO3 ⊢
            have hDs := (Array.getElem?_eq_some_iff.1 hK3).1
            have hv4 := has_putObj hv3 (.deferred none) hK3 rfl
            have hO4 := own_putObj hO3 (.deferred none) hK3 rfl
            refine ⟨by simp, .inl ⟨_, _, rfl, run_takeDeferred hK3, ?_⟩⟩
            refine ⟨_, results_slice rfl rfl rfl (hv4.cell 0), _, by rw [hE.out]; rfl, ?_, ?_⟩
            · rw [hsv.out, ← hys]; exact hO4.mono (by omega)
            · exact hb3.grown (grownBy_putObj' W3 D _) (by omega) (fun i e => by cases e; omega)
end Go.Proofs.YtolbceckbnifmaaGreat
