/-
  The layer assert: the candidates that are not in a list, one after another; collected.
  Collect, over any iterator of numbers; over the candidates that are not in a list.
  The layer assert: plain, the assertions of one kind for all pairs of elected and other candidates.
  The layer assert: the assertions of a runoff.
-/
import Derived.Test.YtoeajgjpakilgaaGreatW41a
import Derived.Test.YtoeajgjpakilgaaGreatAgg
import Derived.Test.YtoeajgjpakilgaaGreatW12c
import Derived.Test.YtoeajgjpakilgaaGreatW8f
import Derived.Test.YtoeajgjpakilgaaGreatW15e
namespace Go.Proofs.YtoeajgjpakilgaaGreat
open Go.RowKit Go.Proofs Go.Shelf
attribute [local go_sem] cell?_more cell?_alloc_some cell?_setCell_far frozen?_alloc_some frozen?_more
/-- The candidates that are not in l. -/
def othersL (l : List Int) (c : Nat) : List Int := (rangeI c).filter fun n => !inL l n
theorem others_succ_in {l : List Int} {X : Nat} (h : inL l X = true) : othersL l (X + 1) = othersL l X := by unfold othersL; rw [rangeI_succ, List.filter_append]; simp [h]
theorem others_succ_out {l : List Int} {X : Nat} (h : inL l X = false) : othersL l (X + 1) = othersL l X ++ [(X : Int)] := by unfold othersL; rw [rangeI_succ, List.filter_append]; simp [h]
theorem others_le (l : List Int) (c : Nat) : (othersL l c).length ≤ c := by have := List.length_filter_le (fun n => !inL l n) (rangeI c); rwa [length_rangeI] at this
theorem others_pre (l : List Int) {X c : Nat} (h : X ≤ c) : othersL l X <+: othersL l c := by
  obtain ⟨k, rfl⟩ : ∃ k, c = X + k := ⟨c - X, by omega⟩
  clear h
  induction k with
  | zero => exact List.prefix_refl _
  | succ k ih =>
    refine ih.trans ?_
    cases h : inL l ((X + k : Nat) : Int) with
    | true => rw [show X + (k + 1) = (X + k) + 1 by omega, others_succ_in h]; exact List.prefix_refl _
    | false => rw [show X + (k + 1) = (X + k) + 1 by omega, others_succ_out h]; exact List.prefix_append _ _
theorem others_lt {l : List Int} {X c : Nat} (hX : X < c) (h : inL l X = false) : (othersL l X).length < (othersL l c).length := by
  have := (others_pre l (show X + 1 ≤ c by omega)).length_le
  rw [others_succ_out h] at this
  simp at this; omega
theorem mem_othersL {l : List Int} {c : Nat} {x : Int} : x ∈ othersL l c ↔ (0 ≤ x ∧ x < c) ∧ x ∉ l := by
  unfold othersL
  rw [List.mem_filter, mem_rangeI]
  simp [← inL_iff]

theorem others_any (A : Option Addr) (n c : Nat) (cands : Int) (w : World) :
    Calls Tryz.prog 63 #[.slice A n c, .int .i64 cands] w fun e w' => e = .returned (.func (.func 80) #[] #[.pointer (some ⟨w.heap.size + 1, 0, none⟩), .pointer (some ⟨w.heap.size, 0, none⟩)]) ∧
      (w.alloc (.cells #[.slice A n c] 22)).alloc (.cells #[.int .i64 cands] 3) = w' := by
  go_enter Tryz.func63, Tryz.ntmps63
  go_wp2
  go_ret
  exact ⟨by simp, rfl⟩

/-- What the iterator reads. -/
def outB (Bl Bc : Nat) (A : Option Addr) (n b : Nat) : Prop := ¬ (b = Bl ∨ b = Bc ∨ fpS A n b)
/-- The iterator's memory. -/
structure OthAt (W : World) (Bl Bc : Nat) (A : Option Addr) (n c : Nat) (xs : List Int) (C : Nat) : Prop where
  lst : Has W Bl 22 #[.slice A n c]
  cnd : Has W Bc 3 #[.int .i64 (C : Int)]
  ints : RInts W A n c xs
theorem OthAt.frame {W W' : World} {Bl Bc : Nat} {A : Option Addr} {n c : Nat} {xs : List Int} {C : Nat} (h : OthAt W Bl Bc A n c xs C) (k : Frame' (outB Bl Bc A n) W W') : OthAt W' Bl Bc A n c xs C :=
  ⟨k.has h.lst (fun h => h (.inl rfl)), k.has h.cnd (fun h => h (.inr (.inl rfl))), (h.ints.on.frame k fun _ hb h => h (.inr (.inr hb))).get⟩
theorem OthAt.below {W W' : World} {Bl Bc : Nat} {A : Option Addr} {n c : Nat} {xs : List Int} {C : Nat} (h : OthAt W Bl Bc A n c xs C) (k : Below W.heap.size W W') : OthAt W' Bl Bc A n c xs C :=
  ⟨h.lst.below k h.lst.lt, h.cnd.below k h.cnd.lt, h.ints.below k⟩

set_option maxRecDepth 100000 in
set_option maxHeartbeats 2000000 in
theorem others1_in (m : Nat) (hm : 1 ≤ m) (l Bl Bc : Nat) (A : Option Addr) (n c : Nat) (xs : List Int) (C : Nat) (hC : C ≤ 10) (J Jx : List Int → World → Prop)
    (hY : ∀ pre x W, J pre W → pre.length < (othersL xs C).length → YieldAt Fence.wide (m - 1) Tryz.prog l #[.int .i64 x] W fun e W' =>
      (e = .returned (.bool true) ∧ J (pre ++ [x]) W' ∧ Frame' (outB Bl Bc A n) W W') ∨ (e = .returned (.bool false) ∧ Jx (pre ++ [x]) W'))
    (W : World) (hO : OthAt W Bl Bc A n c xs C) (h0 : J [] W) :
    CallsIn Fence.wide m Tryz.prog 80 #[.func (.yield l) #[] #[], .pointer (some ⟨Bc, 0, none⟩), .pointer (some ⟨Bl, 0, none⟩)] W fun e W' => (∃ v, e = .returned v) ∧ (J (othersL xs C) W' ∨ ∃ pre, pre <+: othersL xs C ∧ Jx pre W') := by
  refine callsIn_of_wp Tryz.func80 rfl trivial ?_ rfl
  simp only [Tryz.ntmps80, List.size_toArray, List.length_cons, List.length_nil, Nat.reduceAdd, Nat.reduceSub, Array.replicate_succ, Array.replicate_zero, List.push_toArray, List.append_toArray, List.nil_append, List.cons_append]
  have hFn : Fence.wide.fn 44 := trivial
  have c0 := hO.cnd.cell 0
  gi_wp2
  clear c0
  gi_loopw [6] (fun i wr => ∃ k : Nat, k ≤ C ∧ i = .int .i64 k ∧ Hid (J (othersL xs k) wr) ∧ Hid (OthAt wr Bl Bc A n c xs C))
    (fun i _ => C - (intOf i).toNat)
  case atStart => exact ⟨0, Nat.zero_le _, rfl, h0, hO⟩
  case round =>
    obtain ⟨k, hk, rfl, hJs, hOs⟩ := hrel
    have l0 := hOs.out.lst.cell 0
    by_cases hlt : k < C
    · cases hin : inL xs k with
      | true =>
        have Hin := hide hin
        clear hin
        gi_wp2
        refine (callsIn_wide.2 (contains_val _ _ _ _ _ _ hOs.out.ints Hin.out)).mono ?_
        rintro e w' ⟨rfl, rfl⟩
        gi_wp2
        all_goals
          refine ⟨fun f hf => trivial, ?_⟩
          gi_wp2
          go_roundw
          case rel => exact ⟨k + 1, by omega, by go_num, by unfold Hid; rw [others_succ_in Hin.out]; exact hJs.out, hOs⟩
          case measure => simp [intOf] <;> omega
      | false =>
        have Hin := hide hin
        clear hin
        obtain ⟨fn, tmps, assign, body, hy, hR⟩ := hY _ (k : Int) wr hJs.out (others_lt hlt Hin.out)
        gi_wp2
        refine (callsIn_wide.2 (contains_val _ _ _ _ _ _ hOs.out.ints Hin.out)).mono ?_
        rintro e w' ⟨rfl, rfl⟩
        gi_wp2
        refine hR.mono ?_
        rintro e W3 (⟨rfl, hJ3, hk3⟩ | ⟨rfl, hJx3⟩)
        · have hO3 := hide (hOs.out.frame hk3)
          gi_wp2
          go_roundw
          case rel => exact ⟨k + 1, by omega, by go_num, by unfold Hid; rw [others_succ_out Hin.out]; exact hJ3, hO3⟩
          case measure => simp [intOf] <;> omega
        · gi_wp2
          refine bodyPost_ret (results_none rfl _ _ _) rfl ?_
          exact ⟨⟨_, rfl⟩, .inr ⟨_, by rw [← others_succ_out Hin.out]; exact others_pre _ (by omega), hJx3⟩⟩
    · obtain rfl : C = k := by omega
      gi_wp2
      go_end0
      exact ⟨⟨_, rfl⟩, .inl hJs.out⟩

theorem others_stops (m : Nat) (hm : 1 ≤ m) (Bl Bc : Nat) (A : Option Addr) (n c : Nat) (xs : List Int) (C : Nat) (hC : C ≤ 10) (w : World) (hO : OthAt w Bl Bc A n c xs C) :
    SeqStopsK Fence.wide m Tryz.prog 80 #[.pointer (some ⟨Bc, 0, none⟩), .pointer (some ⟨Bl, 0, none⟩)] (fun x : Int => #[Value.int .i64 x]) (Frame' (outB Bl Bc A n)) (fun ys => ys = othersL xs C) (fun pre => pre <+: othersL xs C) (othersL xs C).length w :=
  fun l J Jx W hW _ _ hY h0 => by
  refine (others1_in m hm l Bl Bc A n c xs C hC J Jx hY W (hO.below hW) h0).mono ?_
  rintro e W' ⟨he, hj | ⟨pre, hp, hj⟩⟩
  · exact ⟨he, .inl ⟨_, rfl, hj⟩⟩
  · exact ⟨he, .inr ⟨_, hp, hj⟩⟩
end Go.Proofs.YtoeajgjpakilgaaGreat

namespace Go.Proofs.YtoeajgjpakilgaaGreat
open Go.RowKit Go.Proofs Go.Shelf
attribute [local go_sem] Oper.semAt_some
attribute [local go_sem] cell?_more cell?_alloc_some cell?_setCell_far frozen?_alloc_some frozen?_more
theorem seqStopsK_imp {α : Type} {F : Fence} {n : Nat} {P : Program} {g : Nat} {lb : Array Value} {encs : α → Array Value} {Kp Kp' : World → World → Prop} {S Sp : List α → Prop} {N : Nat} {w : World}
    (h : SeqStopsK F n P g lb encs Kp S Sp N w) (hK : ∀ W W', Kp' W W' → Kp W W') : SeqStopsK F n P g lb encs Kp' S Sp N w := fun l J Jx W hW hJ hJx hY h0 =>
  h l J Jx W hW hJ hJx (fun pre x W1 h1 hl => by
    obtain ⟨fn, tmps, assign, body, hy, hR⟩ := hY pre x W1 h1 hl
    refine ⟨fn, tmps, assign, body, hy, hR.mono ?_⟩
    rintro e W' (⟨rfl, hj, hk⟩ | ⟨rfl, hj⟩)
    · exact .inl ⟨rfl, hj, hK _ _ hk⟩
    · exact .inr ⟨rfl, hj⟩) h0

set_option maxRecDepth 100000 in
set_option maxHeartbeats 2000000 in
theorem appendSeqG (gf : FuncId) (lb : Array Value) (xs : List Int) (w : World) (eg : ∀ args w, (callFunc gf args).run Tryz.prog w = .ok (.enter gf args) w) (hn : xs.length ≤ 1000000)
    (hseq : SeqStopsK Fence.wide 2 Tryz.prog gf lb (fun x : Int => #[Value.int .i64 x]) (Below w.heap.size) (fun ys => ys = xs) (fun pre => pre <+: xs) xs.length w) :
    Calls Tryz.prog 77 #[.slice none 0 0, .func (.func gf) #[] lb] w fun e W' => ∃ v, e = .returned v ∧ Own W' w.heap.size v xs ∧ Below w.heap.size w W' := by
  obtain ⟨i0, hi, hz0, hz1, hz2⟩ := info_parts info3
  have Hseq := hide hseq
  have Hn := hide hn
  clear hseq hn
  refine (callsIn_wide (n := 3)).1 ?_
  refine callsIn_of_wp_marks Tryz.func77 rfl trivial ?_ rfl
  simp only [Tryz.ntmps77, List.size_toArray, List.length_cons, List.length_nil, Nat.reduceAdd, Nat.reduceSub, Array.replicate_succ, Array.replicate_zero, List.push_toArray, List.append_toArray, List.nil_append, List.cons_append]
  gi_wp2
  have bO := Boxed.new w 22 (.slice none 0 0)
  have hB0 : Below w.heap.size w (w.alloc (.cells #[.slice none 0 0] 22)) := (Below.refl _ w).alloc (Nat.le_refl _) _
  refine wpIn_rangeFunc_ownG (w0 := w) rfl (by decide) (gf := gf) (lb := lb) rfl trivial eg
    Hseq.out belowK_t (belowK_b (by simp)) hB0 (fun _ => rfl)
    (fun (pre : List Int) W => (∃ v, Boxed W w.heap.size 22 v ∧ W.ownsRow w.heap.size 3 1 v pre.length (pre.map (Value.int .i64)) ∧ True) ∧ Below w.heap.size w W)
    (fun _ _ _ => False)
    (OwnFrom.and (Own.from (holdsRow_own w.heap.size w.heap.size 22 3 1 (fun (pre : List Int) => pre.length) (fun (pre : List Int) => pre.map (Value.int .i64)) (fun (_ : List Int) _ => True)) _) (ownFrom_below (Nat.le_refl _) (by simp)))
    (fun _ _ _ _ _ hs _ _ => hs)
    ⟨⟨_, bO, World.ownsRow_nil _ _ _ _, trivial⟩, hB0⟩
    (fun x => { tmps := #[.slice none 0 0, .func (.func gf) #[] lb, .pointer (some ⟨w.heap.size, 0, none⟩), undef, .slice none 0 0, .int .i64 x, .func (.func gf) #[] lb, .int .i64 x, undef, undef, undef, undef, undef], defers := [] }) ?assign ?body ?done ?stop
  case assign =>
    intro l x W K hK
    gi_wp2
    exact hK
  case body =>
    rintro l pre x W ⟨⟨v, hv, hrow, -⟩, hB⟩ hlt
    have hc := hv.cell
    have hn := Hn.out
    gi_wp2_with (gi_at_builtin; refine wpListIn_append_own _ rfl _ _ 22 rfl w.heap.size 3 i0 (.int .i64 0) 1 8 Tryz.underlying22 hi hz0 hz1 hz2 rfl (by decide) _ _ _ rfl (hrow.alloc _) ⟨W.heap.size, 0, none⟩ 1 1 [.int .i64 x] rfl rfl (cell_one_new _ _ _) (by simp [Value.oneCell']) (by unfold maxLen; omega) (by omega) (by have := hB.size; simp; omega) ?_; intro v' w1 hown' hgrow _; obtain ⟨g', cap', rfl⟩ := ownsRow_succ hown'; obtain ⟨hv1, hv2, hr2, hk2, hb2⟩ := hv.appended (by decide) hrow hB.size (Nat.le_refl _) hown' hgrow; have hc1 := hv1.cell; have hf1 := hv1.frozen)
    exact ⟨hk2.from _, hb2, ⟨_, hv2, by simpa using hr2, trivial⟩, hB.trans hb2⟩
  case done =>
    rintro D ys W hD rfl ⟨⟨v, hv, hrow, -⟩, hB⟩ hK
    have hc := hv.cell
    gi_wp2
    refine ⟨by simp, .inl ⟨_, _, rfl, run_takeDeferred hK, ?_⟩⟩
    exact ⟨_, results_tmp rfl _ _ _, v, rfl, ownsRow_putObj hrow _ hK rfl, hB.trans (belowK_b (w := w) (Nat.le_refl _) W D _ _ (by simp at hD; omega) hK rfl rfl)⟩
  case stop =>
    rintro D c pre W _ _ h _
    exact h.elim

theorem collectG (gf : FuncId) (lb : Array Value) (xs : List Int) (w : World) (eg : ∀ args w, (callFunc gf args).run Tryz.prog w = .ok (.enter gf args) w) (hn : xs.length ≤ 1000000)
    (hseq : SeqStopsK Fence.wide 2 Tryz.prog gf lb (fun x : Int => #[Value.int .i64 x]) (Below w.heap.size) (fun ys => ys = xs) (fun pre => pre <+: xs) xs.length w) :
    Calls Tryz.prog 59 #[.func (.func gf) #[] lb] w fun e W' => ∃ v, e = .returned v ∧ Own W' w.heap.size v xs ∧ Below w.heap.size w W' := by
  have hcall := appendSeqG gf lb xs w eg hn hseq
  clear hseq
  go_enter Tryz.func59, Tryz.ntmps59
  go_wp2_with (go_at_call 77; refine hcall.mono ?_; rintro e w' ⟨v, rfl, hO, hb⟩)
  go_ret
  exact ⟨v, rfl, hO, hb⟩

/-- The candidates that are not in a list, collected. -/
theorem collectO_any (Bl Bc : Nat) (A : Option Addr) (n c : Nat) (xs : List Int) (C : Nat) (hC : C ≤ 10) (w : World) (hO : OthAt w Bl Bc A n c xs C) :
    Calls Tryz.prog 59 #[.func (.func 80) #[] #[.pointer (some ⟨Bc, 0, none⟩), .pointer (some ⟨Bl, 0, none⟩)]] w fun e W' => ∃ v, e = .returned v ∧ Own W' w.heap.size v (othersL xs C) ∧ Below w.heap.size w W' := by
  refine collectG _ _ (othersL xs C) w (enters_of Tryz.func80 (by kernel_rfl) rfl) (by have := others_le xs C; omega) ?_
  refine seqStopsK_imp (others_stops 2 (by decide) Bl Bc A n c xs C hC w hO) fun W W' hb => ⟨hb.os, hb.tape, hb.output, hb.size, fun k hk hS => hb.block k ?_⟩
  unfold outB at hS
  rcases Classical.not_not.1 hS with rfl | rfl | hf
  · exact hO.lst.lt
  · exact hO.cnd.lt
  · exact hO.ints.on.1 k hf
end Go.Proofs.YtoeajgjpakilgaaGreat

namespace Go.Proofs.YtoeajgjpakilgaaGreat
open Go.RowKit Go.Proofs Go.Shelf
attribute [local go_sem] Oper.semAt_some
attribute [local go_sem] cell?_more cell?_alloc_some cell?_setCell_far frozen?_alloc_some frozen?_more
/-- An append whose run is known, inside a fence. -/
theorem listIn_app {F : Fence} {n : Nat} {ops : Array Oper} {rest : List Oper} {o : Oper} {a : Act} {w : World} {Q : Exit → Act → World → Prop} (hgd : o.guard = none) {s x : Operand} {t : TypeId}
    (ho : o.op = .call { callee := .builtin .append, args := #[s, x], argTypes := #[t, t] }) {v u v' : Value} {w' : World} (hs : a.eval s = v) (hx : a.eval x = u)
    (hr : (Builtin.append_ #[t, t] o.type #[v, u]).run Tryz.prog w = .ok v' w') (h : wpListIn F n Tryz.prog ops Q rest (a.put o.dst v') w') : wpListIn F n Tryz.prog ops Q (o :: rest) a w := by
  refine wpListIn_plain hgd fun K hK' => ?_
  unfold Oper.wpIn
  refine ⟨?_, ?_⟩
  · simp [Oper.about, ho, resolve, Target.leads, Sem.run_pure]
  · rw [Oper.semAt_plain F _ _ (by rw [ho]; intro c hc'; cases hc')]
    simp [execOp, ho, resolve, invoke, builtin, hs, hx, hr, Result.andThen]
    exact hK' _ _ h

/-- An assertion's four cells. -/
def EAsn (w : World) (vs : List Value) (a : Asn) : Prop := ∃ A n c, vs = [.int .u8 a.1, .int .i64 a.2.1, .int .i64 a.2.2.1, .slice A n c] ∧ RInts w A n c a.2.2.2
theorem below_asn : BelowE EAsn := fun _ _ _ _ ⟨A, n, c, e, h⟩ hb => ⟨A, n, c, e, h.below hb⟩
theorem infoAsn : (Tryz.prog.info? 24).map (fun i => (i.zero, i.size, i.bytes)) = some (some (.agg #[.int .u8 0, .int .i64 0, .int .i64 0, .slice none 0 0]), 4, 48) := by kernel_rfl

/-- The marks that ranges over functions leave. -/
def Marks (B : Nat) : List Deferred → World → Prop
  | [], _ => True
  | d :: ds, W => ∃ D, d = { target := .collected D, args := #[] } ∧ B ≤ D ∧ W.heap[D]? = some (.deferred (some [])) ∧ (∀ d' ∈ ds, d' ≠ { target := .collected D, args := #[] }) ∧ Marks B ds W
theorem Marks.keep {B : Nat} {W W' : World} : ∀ {ds : List Deferred}, Marks B ds W → (∀ D, { target := .collected D, args := #[] } ∈ ds → W.heap[D]? = some (.deferred (some [])) → W'.heap[D]? = some (.deferred (some []))) → Marks B ds W'
  | [], _, _ => trivial
  | d :: ds, ⟨D, e, hB, hD, hn, h⟩, k => ⟨D, e, hB, k D (by rw [e]; exact List.mem_cons_self ..) hD, hn, h.keep fun D' hm => k D' (List.mem_cons_of_mem _ hm)⟩
theorem Marks.lt {B : Nat} {W : World} : ∀ {ds : List Deferred}, Marks B ds W → ∀ D, ({ target := .collected D, args := #[] } : Deferred) ∈ ds → D < W.heap.size
  | [], _, _, hm => by cases hm
  | d :: ds, ⟨D, e, hB, hD, hn, h⟩, D', hm => by
    rcases List.mem_cons.1 hm with h1 | h1
    · rw [e] at h1; cases h1
      exact (Array.getElem?_eq_some_iff.1 hD).1
    · exact h.lt D' h1
theorem Marks.below {B : Nat} {W W' : World} {ds : List Deferred} (h : Marks B ds W) (hb : Below W.heap.size W W') : Marks B ds W' := h.keep fun D hm hD => (hb.block D (h.lt D hm)).trans hD
theorem Marks.grown {B : Nat} {W W' : World} {ds : List Deferred} {row : Option Nat} (h : Marks B ds W) (hg : W.grownBy W' row) (hr : ∀ r, row = some r → ∃ C t f, W.heap[r]? = some (.cells C t f)) : Marks B ds W' :=
  h.keep fun D hm hD => (hg.block D (h.lt D hm) fun e => by obtain ⟨C, t, f, e2⟩ := hr D e.symm; rw [hD] at e2; cases e2).trans hD
theorem Marks.setCell {B : Nat} {W : World} {ds : List Deferred} (h : Marks B ds W) (p : Addr) (u : Value) {C : Array Value} {t : TypeId} {f : Nat × Nat} (hp : W.heap[p.block]? = some (.cells C t f)) : Marks B ds (W.setCell p u) :=
  h.keep fun D _ hD => (Below.heap_setCell W p u D fun e => by rw [e, hp] at hD; cases hD).trans hD
theorem leaves_marks {F : Fence} {n : Nat} {P : Program} {fn : Func} {tmps : Array Value} {R : Ending → World → Prop} {B : Nat} (I : World → Prop) (hI : ∀ W l o o', I W → B ≤ l → W.heap[l]? = some o → o.isCells = false → I (World.putObj W l o'))
    (hfin : ∀ W, I W → ∃ v, (results fn tmps).run P W = .ok v W ∧ R (.returned v) W) : ∀ (ds : List Deferred) (W : World), I W → Marks B ds W → LeavesInM F n P fn tmps R ds .returning W
  | [], W, hi, _ => hfin W hi
  | d :: ds, W, hi, ⟨D, e, hB, hD, hn, h⟩ => by
    refine ⟨by simp, .inl ⟨D, W.putObj D (.deferred none), by rw [e], run_takeDeferred hD, ?_⟩⟩
    refine leaves_marks I hI hfin ds _ (hI _ _ _ _ hi hB hD rfl) (h.keep fun D' hm hD' => ?_)
    have hne : D' ≠ D := fun e => hn _ hm (by rw [e])
    exact (World.putObj_heap_other hne).trans hD'

/-- The assertions for some winners. -/
def plainT (k : Int) (ws xs : List Int) (C : Nat) : List Asn := ws.flatMap fun w => (othersL xs C).map fun o => (k, w, o, [])
def plainL (k : Int) (xs : List Int) (C : Nat) : List Asn := plainT k xs xs C
theorem plainT_snoc (k : Int) (ws xs : List Int) (C : Nat) (v : Int) : plainT k (ws ++ [v]) xs C = plainT k ws xs C ++ (othersL xs C).map fun o => (k, v, o, []) := by unfold plainT; simp
theorem plainT_len (k : Int) (ws xs : List Int) (C : Nat) : (plainT k ws xs C).length ≤ ws.length * C := by
  unfold plainT
  induction ws with
  | nil => simp
  | cons a r ih => simp only [List.flatMap_cons, List.length_append, List.length_map, List.length_cons, Nat.succ_mul]; have := others_le xs C; omega

/-- What the loops of plain know. -/
structure PlainAt (k : Int) (w : World) (g3 g6 B : Nat) (l : List Asn) (ds : List Deferred) (W : World) : Prop where
  res : ∃ v, Has W g6 61 #[v] ∧ OAgg EAsn 24 4 (fun _ => False) W B v l
  kind : Has W g3 5 #[.int .u8 k]
  marks : Marks B ds W
  below : Below w.heap.size w W
theorem PlainAt.later {k : Int} {w : World} {g3 g6 B : Nat} {l : List Asn} {ds : List Deferred} {W W' : World} (h : PlainAt k w g3 g6 B l ds W) (hb : Below W.heap.size W W') : PlainAt k w g3 g6 B l ds W' := by
  obtain ⟨⟨v, hv, hO⟩, hk, hm, hw⟩ := h
  exact ⟨⟨v, hv.below hb hv.lt, hO.below hb⟩, hk.below hb hk.lt, hm.below hb, Below_trans' hw hw.size hb⟩
theorem oagg_cells {α : Type} {E : World → List Value → α → Prop} {e : TypeId} {size : Nat} {fp : Nat → Prop} {w : World} {B : Nat} {v : Value} {l : List α} (h : OAgg E e size fp w B v l) {b : Nat} (hb : v.ownBlock = some b) : ∃ C t f, w.heap[b]? = some (.cells C t f) := by
  obtain ⟨vs, h1, ⟨k1, k2⟩, h3⟩ := h
  rcases k2 with ⟨e1, h0⟩ | ⟨g, cap, cur, e1, hb1, hg, r⟩
  · rw [e1] at hb; cases hb
  · rw [e1] at hb; cases hb; exact ⟨_, _, _, hg⟩

theorem PlainAt.putObj {w : World} {g6 B : Nat} {l : List Asn} {W : World} {v : Value} (h : Has W g6 61 #[v] ∧ OAgg EAsn 24 4 (fun _ => False) W B v l ∧ Below w.heap.size w W) {j : Nat} {o : Obj} (o' : Obj) (hw : w.heap.size ≤ j) (hl : W.heap[j]? = some o) (ho : o.isCells = false) :
    Has (W.putObj j o') g6 61 #[v] ∧ OAgg EAsn 24 4 (fun _ => False) (W.putObj j o') B v l ∧ Below w.heap.size w (W.putObj j o') := by
  obtain ⟨h1, h2, h3⟩ := h
  refine ⟨has_putObj h1 o' hl ho, h2.keep fun b hb => ?_, h3.grown (grownBy_putObj' W j o') (Nat.le_of_lt (Nat.lt_of_le_of_lt hw (Array.getElem?_eq_some_iff.1 hl).1)) (fun i e => by cases e; exact hw)⟩
  rcases hb with hb | hb
  · exact hb.elim
  · obtain ⟨C, t, f, hc⟩ := oagg_cells h2 hb
    refine World.putObj_heap_other fun e => ?_
    subst e; rw [hc] at hl; cases hl; cases ho
theorem has_grown {W W' : World} {row : Option Nat} {g : Nat} {t : TypeId} {C : Array Value} (h : Has W g t C) (hg : W.grownBy W' row) (hr : row ≠ some g) : Has W' g t C := (hg.block g h.lt fun e => hr e.symm).trans h
theorem row_ne {W : World} {row : Option Nat} {g : Nat} {t : TypeId} {C : Array Value} (h : Has W g t C) (hr : ∀ r, row = some r → ∃ o : Obj, W.heap[r]? = some o ∧ o.isCells = false) : row ≠ some g := fun e => by
  obtain ⟨o, h1, h2⟩ := hr g e
  unfold Has at h; rw [h] at h1; cases h1; cases h2
theorem keeps_grown {W W' : World} {row : Option Nat} (B : Nat) (hg : W.grownBy W' row) (hr : ∀ r, row = some r → ∃ C t f, W.heap[r]? = some (.cells C t f)) : KeepsFrom B W W' :=
  ⟨hg.size, fun k o _ hk ho => (hg.block k (Array.getElem?_eq_some_iff.1 hk).1 fun e => by
    obtain ⟨C, t, f, h⟩ := hr k e.symm
    rw [hk] at h; cases h; cases ho).trans hk⟩
theorem keeps_below {W W' : World} (B : Nat) (hb : Below W.heap.size W W') : KeepsFrom B W W' := ⟨hb.size, fun k _ _ hk _ => (hb.block k (Array.getElem?_eq_some_iff.1 hk).1).trans hk⟩
theorem results_asns {fn : Func} {p : Tmp} (h : fn.results = #[.cell p 61]) {tmps : Array Value} {w : World} {g : Nat} {v : Value} (hp : tmps.getD p undef = .pointer (some ⟨g, 0, none⟩)) (hc : w.cell? ⟨g, 0, none⟩ = some v) :
    (results fn tmps).run Tryz.prog w = .ok v w := by
  have e : (results fn tmps).run Tryz.prog w = ((asAddr (tmps.getD p undef)).run Tryz.prog w).andThen fun a w₁ => (loadVar 61 a).run Tryz.prog w₁ := by
    simp only [results, h]
    simp [Sem.run_bind, Result.andThen]
  rw [e, hp]
  simp only [asAddr]
  go_simp

set_option maxRecDepth 100000 in
set_option maxHeartbeats 4000000 in
theorem plain_any (k : Int) (A : Option Addr) (n c : Nat) (xs : List Int) (C : Nat) (hn : n ≤ 10) (hC : C ≤ 10) (w : World) (h : RInts w A n c xs) :
    Calls Tryz.prog 31 #[.int .u8 k, .slice A n c, .int .i64 (C : Int)] w fun e w' => ∃ v, e = .returned v ∧ OAgg EAsn 24 4 (fun _ => False) w' w.heap.size v (plainL k xs C) ∧ Below w.heap.size w w' := by
  have hk0 : Has ((w.alloc (.cells #[.int .u8 k] 5)).alloc (.cells #[.slice none 0 0] 61)) w.heap.size 5 #[.int .u8 k] := (Has.new _ _ _).alloc _
  have hr0 : Has ((w.alloc (.cells #[.int .u8 k] 5)).alloc (.cells #[.slice none 0 0] 61)) (w.heap.size + 1) 61 #[.slice none 0 0] := Has.new2 _ _ _ _
  have hb0 : Below w.heap.size w ((w.alloc (.cells #[.int .u8 k] 5)).alloc (.cells #[.slice none 0 0] 61)) := ((Below.refl _ _).alloc (Nat.le_refl _) _).alloc (by simp) _
  have hz0 : Hid (((w.alloc (.cells #[.int .u8 k] 5)).alloc (.cells #[.slice none 0 0] 61)).heap.size = w.heap.size + 2) := by unfold Hid; simp
  have Hl := hide h.len
  have H := hide h
  clear h
  refine (callsIn_wide (n := 3)).1 ?_
  refine callsIn_of_wp_marks Tryz.func31 rfl trivial ?_ rfl
  simp only [Tryz.ntmps31, List.size_toArray, List.length_cons, List.length_nil, Nat.reduceAdd, Nat.reduceSub, Array.replicate_succ, Array.replicate_zero, List.push_toArray, List.append_toArray, List.nil_append, List.cons_append]
  refine wpIn_wide.2 ?_
  go_upto_region 1 with fail
  generalize World.alloc (World.alloc w _) _ = W0 at hk0 hr0 hb0 hz0 ⊢
  have hP : PlainAt k w w.heap.size (w.heap.size + 1) (w.heap.size + 2) (plainT k (xs.take 0) xs C) [] W0 := ⟨⟨_, hr0, OAgg.nil_ _ _ _ _ _⟩, hk0, trivial, hb0⟩
  clear hk0 hr0 hb0 hz0
  go_wp2
  refine wp_loop (fun a' w' => ∃ (X : Nat) (u8 u13 u14 u15 u16 u17 u18 u27 : Value) (ds : List Deferred), a' = { tmps := #[.int .u8 k, .slice A n c, .int .i64 (C : Int), .pointer (some ⟨w.heap.size, 0, none⟩), undef, undef, .pointer (some ⟨w.heap.size + 1, 0, none⟩), undef, u8, undef, .slice A n c, .int .i64 (n : Int), .int .i64 (X : Int), u13, u14, u15, u16, u17, u18, undef, undef, undef, undef, undef, undef, undef, undef, u27, undef], defers := ds } ∧ X ≤ n ∧ PlainAt k w w.heap.size (w.heap.size + 1) (w.heap.size + 2) (plainT k (xs.take X) xs C) ds w') (fun a' _ => n - (intOf (a'.tmps.getD 12 undef)).toNat) ?_ ?_
  · exact ⟨0, _, _, _, _, _, _, _, _, [], rfl, Nat.zero_le _, hP⟩
  · clear hP
    rintro _ wr ⟨X, u8, u13, u14, u15, u16, u17, u18, u27, ds, rfl, hX, hP⟩
    by_cases hlt : X < n
    · have hR := H.out.below hP.below
      obtain ⟨b, off, v, rfl, hc, _, hat, _⟩ := hR.step hlt
      have hP1 := hP.later (W' := wr.alloc (.cells #[.int .i64 v] 3)) below_allocN
      have h8 := Has.new wr 3 #[.int .i64 v]
      have hR1 := hR.below (w' := wr.alloc (.cells #[.int .i64 v] 3)) below_allocN
      have hbr1 : Below wr.heap.size wr (wr.alloc (.cells #[.int .i64 v] 3)) := below_allocN
      go_upto_region 4 with fail
      generalize World.alloc wr _ = w1 at hP1 h8 hR1 hbr1 ⊢
      have hbd : Hid (b < w.heap.size) := World.block_lt_of_cell? w _ ((H.out.cells 0 (by rw [Hl.out]; omega)))
      go_wp2_with fail
      refine (others_any _ n c C w1).mono ?_
      rintro e wS ⟨rfl, hS⟩
      have hlS : Has wS w1.heap.size 22 #[.slice (some ⟨b, off, none⟩) n c] := by rw [← hS]; exact (Has.new _ _ _).alloc _
      have hcS : Has wS (w1.heap.size + 1) 3 #[.int .i64 C] := by rw [← hS]; exact Has.new2 _ _ _ _
      have hb1S : Below w1.heap.size w1 wS := by rw [← hS]; exact ((Below.refl _ _).alloc (Nat.le_refl _) _).alloc (by simp) _
      clear hS
      have hOS : OthAt wS w1.heap.size (w1.heap.size + 1) (some ⟨b, off, none⟩) n c xs C := ⟨hlS, hcS, hR1.below hb1S⟩
      have hPS := hP1.later hb1S
      have h8S := h8.below hb1S h8.lt
      go_wp2
      have h6S : w.heap.size + 2 ≤ wr.heap.size := by obtain ⟨⟨_, hv, _⟩, _⟩ := hP; exact hv.lt
      have hs1 : wr.heap.size < w1.heap.size := h8.lt
      have hsS : w1.heap.size + 1 < wS.heap.size := hcS.lt
      have hnl := hide (plainT_len k (xs.take X) xs C)
      have hxl := hide (show (xs.take X).length ≤ 10 by rw [List.length_take]; omega)
      have hsn : Hid (plainT k (xs.take (X + 1)) xs C = plainT k (xs.take X) xs C ++ (othersL xs C).map fun o => (k, v, o, [])) := by unfold Hid; rw [take_succ_of hat.out, plainT_snoc]
      generalize plainT k (xs.take X) xs C = l0 at *
      refine (wpIn_wide (n := 3)).1 ?_
      refine wpIn_rangeFunc_ownG (w0 := wS) rfl (by decide) (gf := 80) (lb := #[.pointer (some ⟨w1.heap.size + 1, 0, none⟩), .pointer (some ⟨w1.heap.size, 0, none⟩)]) rfl trivial (enters_of Tryz.func80 (by kernel_rfl) rfl)
        (others_stops 2 (by decide) w1.heap.size (w1.heap.size + 1) (some ⟨b, off, none⟩) n c xs C hC wS hOS) (fun h k => h.trans k) (fun W l o o' hl ho _ _ => frame_putObj (fun h => ?kb)) (Below.refl _ _) (fun _ => rfl)
        (fun (pre : List Int) W => (∃ v', Has W (w.heap.size + 1) 61 #[v'] ∧ OAgg EAsn 24 4 (fun _ => False) W (w.heap.size + 2) v' (l0 ++ pre.map fun o => (k, v, o, [])) ∧ ∀ b', v'.ownBlock = some b' → b' ≠ w1.heap.size ∧ b' ≠ w1.heap.size + 1 ∧ b' ≠ wr.heap.size) ∧ wS.heap.size ≤ W.heap.size ∧ Has W w.heap.size 5 #[.int .u8 k] ∧ Has W wr.heap.size 3 #[.int .i64 v] ∧ Marks (w.heap.size + 2) ds W ∧ Below w.heap.size w W)
        (fun _ _ _ => False) ?own (fun _ _ _ _ _ hs _ _ => hs) ?start
        (fun x => { tmps := #[.int .u8 k, .slice (some ⟨b, off, none⟩) n c, .int .i64 (C : Int), .pointer (some ⟨w.heap.size, 0, none⟩), undef, undef, .pointer (some ⟨w.heap.size + 1, 0, none⟩), undef, .pointer (some ⟨wr.heap.size, 0, none⟩), .int .i64 x, .slice (some ⟨b, off, none⟩) n c, .int .i64 (n : Int), .int .i64 (X : Int), .bool true, .pointer (some ⟨b, off + X, none⟩), .int .i64 v, .slice (some ⟨b, off, none⟩) n c, .int .i64 (C : Int), .func (.func 80) #[] #[.pointer (some ⟨w1.heap.size + 1, 0, none⟩), .pointer (some ⟨w1.heap.size, 0, none⟩)], .int .i64 x, undef, undef, undef, undef, undef, undef, undef, u27, undef], defers := [] }) ?assign ?body ?done ?stop
      case kb =>
        rcases h with h | h | h
        · omega
        · omega
        · have e := hbd.out
          obtain ⟨_, o1, e1⟩ := h
          cases e1
          omega
      case own =>
        rintro pre W W' row ⟨⟨v', hv, hO, hne⟩, hsz, hk, h8', hm, hB⟩ hg hr
        have hr' : ∀ r, row = some r → ∃ o : Obj, W.heap[r]? = some o ∧ o.isCells = false := fun r e => (hr r e).2
        refine ⟨⟨v', has_grown hv hg (row_ne hv hr'), hO.keep fun b' hb' => ?_, hne⟩, Nat.le_trans hsz hg.size, has_grown hk hg (row_ne hk hr'), has_grown h8' hg (row_ne h8' hr'), hm.keep fun D hD hDe => ?_, hB.grown hg hB.size (fun i e => by have := (hr i e).1; omega)⟩
        · rcases hb' with hb' | hb'
          · exact hb'.elim
          · obtain ⟨C1, t1, f1, hc1⟩ := oagg_cells hO hb'
            exact hg.block b' (hO.lt hb').2 fun e => by
              obtain ⟨o, h1, h2⟩ := hr' b' e.symm
              rw [hc1] at h1; cases h1; cases h2
        · exact (hg.block D (hm.lt D hD) fun e => by have h1 := (hr D e.symm).1; have h2 := hPS.marks.lt D hD; omega).trans hDe
      case start =>
        obtain ⟨⟨v1, hv1, hO1⟩, hk1, hm1, hB1⟩ := hP
        have hbrS := Below_trans' hbr1 hbr1.size hb1S
        exact ⟨⟨v1, hv1.below hbrS hv1.lt, by simpa using hO1.below hbrS, fun b' hb' => by have := (hO1.lt hb').2; omega⟩, Nat.le_refl _, hk1.below hbrS hk1.lt, h8S, hm1.below hbrS, Below_trans' hB1 hB1.size hbrS⟩
      case assign =>
        intro l x W K hK
        gi_wp2
        exact hK
      case body =>
        rintro l pre x W ⟨⟨v', hv, hO, hne⟩, hsz, hk, h8', hm, hB⟩ hlt
        have hol := others_le xs C
        have hll : (l0 ++ pre.map fun o => (k, v, o, ([] : List Int))).length + 1 ≤ 1000000 := by
          rw [List.length_append, List.length_map]
          have h1 := hnl.out
          have h2 : (xs.take X).length * C ≤ 10 * 10 := Nat.mul_le_mul hxl.out hC
          omega
        have hz := hB.size
        have hvl := hv.lt
        have hba : Below W.heap.size W (W.alloc (.cells #[.int .u8 k, .int .i64 v, .int .i64 x, .slice none 0 0] 24)) := below_allocN
        have hnew := Has.new W 24 #[.int .u8 k, .int .i64 v, .int .i64 x, .slice none 0 0]
        have hbz := hba.size
        obtain ⟨Av, cv, rfl⟩ := hO.slice
        obtain ⟨v2, W2, hrun, hO2, hg2, hat2⟩ := run_appAgg infoAsn Tryz.underlying61 rfl (by decide) (by decide) 61 (hO.below hba) (gx := W.heap.size) (us := [.int .u8 k, .int .i64 v, .int .i64 x, .slice none 0 0]) (x := ((k, v, x, []) : Asn)) (fx := fun _ => False)
          (fun j u hj => by rw [hnew.cell]; simpa using hj) rfl (by simp [Value.oneCell']) ⟨fun _ h => h.elim, fun _ _ => ⟨none, 0, 0, rfl, RInts.nil_ _⟩⟩ (fun _ _ h => h) hll (by omega)
        have hOl : ∀ b', (Value.slice Av (l0 ++ pre.map fun o => (k, v, o, ([] : List Int))).length cv).ownBlock = some b' → w.heap.size + 2 ≤ b' := fun b' e => (hO.lt e).1
        have hcl : ∀ r, (Value.slice Av (l0 ++ pre.map fun o => (k, v, o, ([] : List Int))).length cv).ownBlock = some r → ∃ C t f, (W.alloc (.cells #[.int .u8 k, .int .i64 v, .int .i64 x, .slice none 0 0] 24)).heap[r]? = some (.cells C t f) := fun r e => oagg_cells (hO.below hba) e
        have hv2 := has_grown (hv.below hba hv.lt) hg2 (fun e => by have := hOl _ e; omega)
        have hk2 := has_grown (hk.below hba hk.lt) hg2 (fun e => by have := hOl _ e; omega)
        have h82 := has_grown (h8'.below hba h8'.lt) hg2 (fun e => (hne _ e).2.2 rfl)
        have hm2 := (hm.below hba).grown hg2 hcl
        have hB2 := (Below_trans' hB hz hba).grown hg2 (by omega) (fun i e => by have := hOl i e; omega)
        simp only [or_self, List.append_assoc] at hO2
        obtain ⟨A2, c2, rfl⟩ := hO2.slice
        have hO2l : ∀ b', (Value.slice A2 (l0 ++ ((pre.map fun o => (k, v, o, ([] : List Int))) ++ [(k, v, x, [])])).length c2).ownBlock = some b' → w.heap.size + 2 ≤ b' := fun b' e => (hO2.lt e).1
        have hkeep := (keeps_below wS.heap.size hba).trans ((keeps_grown wS.heap.size hg2 hcl).trans ((KeepsOthers.setCell W2 ⟨w.heap.size + 1, 0, none⟩ (Value.slice A2 (l0 ++ ((pre.map fun o => (k, v, o, ([] : List Int))) ++ [(k, v, x, [])])).length c2)).from _))
        have hfr : Frame' (outB w1.heap.size (w1.heap.size + 1) (some ⟨b, off, none⟩) n) W (W2.setCell ⟨w.heap.size + 1, 0, none⟩ (Value.slice A2 (l0 ++ ((pre.map fun o => (k, v, o, ([] : List Int))) ++ [(k, v, x, [])])).length c2)) := by
          refine ((Frame'.of_below hba).trans ((Frame'.of_grown hg2).mono fun b' _ e => ?_)).setCell (.inl ?_) _
          · rintro (h | h | h)
            · exact (hne b' e.symm).1 h
            · exact (hne b' e.symm).2.1 h
            · have := hOl b' e.symm
              have := hbd.out
              obtain ⟨_, o1, e1⟩ := h
              cases e1; omega
          · rintro (h | h | h)
            · simp at h; omega
            · simp at h; omega
            · have hlt2 := hbd.out
              obtain ⟨_, o1, e1⟩ := h
              have e2 : b = w.heap.size + 1 := by injection e1 with e1; injection e1
              omega
        have hI : (∃ v', Has (W2.setCell ⟨w.heap.size + 1, 0, none⟩ (Value.slice A2 (l0 ++ ((pre.map fun o => (k, v, o, ([] : List Int))) ++ [(k, v, x, [])])).length c2)) (w.heap.size + 1) 61 #[v'] ∧ OAgg EAsn 24 4 (fun _ => False) (W2.setCell ⟨w.heap.size + 1, 0, none⟩ (Value.slice A2 (l0 ++ ((pre.map fun o => (k, v, o, ([] : List Int))) ++ [(k, v, x, [])])).length c2)) (w.heap.size + 2) v' (l0 ++ (pre ++ [x]).map fun o => (k, v, o, [])) ∧ ∀ b', v'.ownBlock = some b' → b' ≠ w1.heap.size ∧ b' ≠ w1.heap.size + 1 ∧ b' ≠ wr.heap.size) := by
          refine ⟨_, hv2.put 0 _, ?_, fun b' hb' => ?_⟩
          · rw [List.map_append]
            exact hO2.keep fun b' hb' => Below.heap_setCell _ _ _ _ (by rcases hb' with h | h; exact h.elim; have := hO2l b' h; simp; omega)
          · rcases hat2 with e | e
            · rw [e] at hb'; exact hne b' hb'
            · rw [e] at hb'; cases hb'; omega
        have hsz2 : wS.heap.size ≤ (W2.setCell ⟨w.heap.size + 1, 0, none⟩ (Value.slice A2 (l0 ++ ((pre.map fun o => (k, v, o, ([] : List Int))) ++ [(k, v, x, [])])).length c2)).heap.size := Nat.le_trans hsz hfr.size
        have hk3 := hk2.far (p := ⟨w.heap.size + 1, 0, none⟩) (by simp) (Value.slice A2 (l0 ++ ((pre.map fun o => (k, v, o, ([] : List Int))) ++ [(k, v, x, [])])).length c2)
        have h83 := h82.far (p := ⟨w.heap.size + 1, 0, none⟩) (by simp; omega) (Value.slice A2 (l0 ++ ((pre.map fun o => (k, v, o, ([] : List Int))) ++ [(k, v, x, [])])).length c2)
        have hm3 := hm2.setCell ⟨w.heap.size + 1, 0, none⟩ (Value.slice A2 (l0 ++ ((pre.map fun o => (k, v, o, ([] : List Int))) ++ [(k, v, x, [])])).length c2) hv2
        have hB3 := hB2.setCell (p := ⟨w.heap.size + 1, 0, none⟩) (by simp) (Value.slice A2 (l0 ++ ((pre.map fun o => (k, v, o, ([] : List Int))) ++ [(k, v, x, [])])).length c2)
        have hall := hide (And.intro hkeep (And.intro hfr (And.intro hI (And.intro hsz2 (And.intro hk3 (And.intro h83 (And.intro hm3 hB3)))))))
        clear hkeep hfr hI hsz2 hk3 h83 hm3 hB3 hO2l hO2 hB2 hm2 hcl hOl hne hO hll hat2
        generalize (l0 ++ ((pre.map fun o => (k, v, o, ([] : List Int))) ++ [(k, v, x, [])])).length = m2 at *
        generalize (l0 ++ pre.map fun o => (k, v, o, ([] : List Int))).length = m1 at *
        have c6 := hv.cell 0
        have c3 := hk.cell 0
        have c8 := h8'.cell 0
        have c62 := hv2.cell 0
        have f62 := hv2.free 0
        gi_wp2_with (gi_at_builtin; refine listIn_app rfl rfl rfl rfl hrun ?_)
        obtain ⟨a1, a2, a3, a4, a5, a6, a7, a8⟩ := hall.out
        exact ⟨a1, a2, a3, a4, a5, a6, a7, a8⟩
      case done =>
        rintro D ys W hD rfl ⟨⟨v', hv, hO, hne⟩, hsz, hk, h8', hm, hB⟩ hK
        have hfin : PlainAt k w w.heap.size (w.heap.size + 1) (w.heap.size + 2) (plainT k (xs.take (X + 1)) xs C) ({ target := .collected D, args := #[] } :: ds) W := by
          refine ⟨⟨v', hv, ?_⟩, hk, ⟨D, rfl, by omega, hK, fun d' hd' e => ?_, hm⟩, hB⟩
          · rw [hsn.out]; exact hO
          · subst e
            have := hPS.marks.lt D hd'
            omega
        have Hfin := hide hfin
        clear hfin hm hO hv
        go_wp2
        refine ⟨⟨X + 1, _, _, _, _, _, _, _, _, _, rfl, by omega, Hfin.out⟩, ?_⟩
        simp [intOf] <;> omega
      case stop =>
        rintro D c pre W _ _ h _
        exact h.elim
    · obtain rfl : n = X := by omega
      obtain ⟨⟨v, hv, hO⟩, hk, hm, hw⟩ := hP
      obtain ⟨Av, cv, rfl⟩ := hO.slice
      have Hm : Hid (∀ q : Nat, q = (plainT k (xs.take n) xs C).length → OAgg EAsn 24 4 (fun _ => False) wr (w.heap.size + 2) (.slice Av q cv) (plainT k (xs.take n) xs C)) := fun q e => by rw [e]; exact hO
      clear hO
      generalize hml : (plainT k (xs.take n) xs C).length = m at hv
      have hO := hide (Hm.out m hml.symm)
      clear Hm hml
      have c6 := hv.cell 0
      have f6 := hv.free 0
      go_wp2
      have hw6 := hm.setCell ⟨w.heap.size + 1, 0, none⟩ (.slice Av m cv) hv
      refine leaves_marks (B := w.heap.size + 2) (fun W => Has W (w.heap.size + 1) 61 #[.slice Av m cv] ∧ OAgg EAsn 24 4 (fun _ => False) W (w.heap.size + 2) (.slice Av m cv) (plainT k (xs.take n) xs C) ∧ Below w.heap.size w W)
        (fun W l o o' hi hl ho hc => PlainAt.putObj hi o' (by omega) ho hc) ?_ ds _ ⟨hv.put 0 (.slice Av m cv), hO.out.keep fun b hb => Below.heap_setCell _ _ _ _ ?_, hw.setCell (p := ⟨w.heap.size + 1, 0, none⟩) (by simp) _⟩ hw6
      · rintro W ⟨h1, h2, h3⟩
        refine ⟨_, results_asns rfl rfl (h1.cell 0), _, rfl, ?_, h3⟩
        rw [List.take_of_length_le (by rw [Hl.out]; exact Nat.le_refl _)] at h2
        exact h2.mono (by omega)
      · rcases hb with hb | hb
        · exact hb.elim
        · have := hO.out.lt hb; simp; omega
end Go.Proofs.YtoeajgjpakilgaaGreat

namespace Go.Proofs.YtoeajgjpakilgaaGreat
open Go.RowKit Go.Proofs Go.Shelf
attribute [local go_sem] cell?_more cell?_alloc_some cell?_setCell_far frozen?_alloc_some frozen?_more
/-- The assertions of a round in which out leaves. -/
def outT (gone : List Int) (C : Nat) (out : Int) (t : Nat) : List Asn := (((othersL gone C).take t).filter fun n => n != out).map fun n => (4, n, out, othersL gone C)
theorem outT_succ_ne {gone : List Int} {C : Nat} {out v : Int} {t : Nat} (h : (othersL gone C)[t]? = some v) (hv : (v != out) = true) : outT gone C out (t + 1) = outT gone C out t ++ [(4, v, out, othersL gone C)] := by
  unfold outT; rw [take_succ_of h, List.filter_append, List.map_append]; simp [hv]
theorem outT_succ_eq {gone : List Int} {C : Nat} {out v : Int} {t : Nat} (h : (othersL gone C)[t]? = some v) (hv : (v != out) = false) : outT gone C out (t + 1) = outT gone C out t := by
  unfold outT; rw [take_succ_of h, List.filter_append, List.map_append]; simp [hv]
/-- May a round leave like this? -/
def outOK (el gone : List Int) (C : Nat) (o : List Int) : Bool := decide (o.length = 1) && inR 0 C (o.getD 0 0) && !inL gone (o.getD 0 0) && !decide (o.getD 0 0 = el.getD 0 0)
/-- Who has gone, and the assertions, after some rounds. -/
def goneRO (outs : List (List Int)) : List Int := outs.map fun o => o.getD 0 0
def asnRO (C : Nat) : List (List Int) → List Int → List Asn
  | [], _ => []
  | o :: r, gone => outT gone C (o.getD 0 0) C ++ asnRO C r (gone ++ [o.getD 0 0])
def okRO (el : List Int) (C : Nat) : List (List Int) → List Int → Bool
  | [], _ => true
  | o :: r, gone => outOK el gone C o && okRO el C r (gone ++ [o.getD 0 0])
theorem goneRO_snoc (outs : List (List Int)) (o : List Int) : goneRO (outs ++ [o]) = goneRO outs ++ [o.getD 0 0] := by simp [goneRO]
theorem asnRO_snoc (C : Nat) (outs : List (List Int)) (o : List Int) : ∀ gone, asnRO C (outs ++ [o]) gone = asnRO C outs gone ++ outT (gone ++ goneRO outs) C (o.getD 0 0) C := by
  induction outs with
  | nil => intro g; simp [asnRO, goneRO]
  | cons a r ih => intro g; simp only [List.cons_append, asnRO, ih, List.append_assoc, goneRO, List.map_cons, List.nil_append]
theorem okRO_snoc (el : List Int) (C : Nat) (outs : List (List Int)) (o : List Int) : ∀ gone, okRO el C (outs ++ [o]) gone = (okRO el C outs gone && outOK el (gone ++ goneRO outs) C o) := by
  induction outs with
  | nil => intro g; simp [okRO, goneRO]
  | cons a r ih => intro g; simp only [List.cons_append, okRO, ih, List.append_assoc, goneRO, List.map_cons, List.nil_append, Bool.and_assoc]
theorem okRO_pre (el : List Int) (C : Nat) (a b : List (List Int)) : ∀ gone, okRO el C a gone = false → okRO el C (a ++ b) gone = false := by
  induction a with
  | nil => intro g h; simp [okRO] at h
  | cons x r ih =>
    intro g h
    simp only [okRO, List.cons_append, Bool.and_eq_false_iff] at *
    rcases h with h | h
    · exact .inl h
    · exact .inr (ih _ h)
/-- The assertions of a runoff, or none. -/
def runoffL (el : List Int) (outs : List (List Int)) (C : Nat) : Option (List Asn) :=
  if outs = [] ∨ okRO el C outs.dropLast [] = false then none
  else some (asnRO C outs.dropLast [] ++ if 1 < (othersL (goneRO outs.dropLast) C).length then [(5, el.getD 0 0, 0, othersL (goneRO outs.dropLast) C)] else [])
theorem asnRO_len (C : Nat) (outs : List (List Int)) : ∀ gone, (asnRO C outs gone).length ≤ outs.length * C := by
  induction outs with
  | nil => intro g; simp [asnRO]
  | cons a r ih =>
    intro g
    have := ih (g ++ [a.getD 0 0])
    have h2 : (outT g C (a.getD 0 0) C).length ≤ C := by
      unfold outT
      rw [List.length_map]
      exact Nat.le_trans (List.length_filter_le _ _) (Nat.le_trans (List.length_take_le _ _) (Nat.le_refl _))
    simp only [asnRO, List.length_append, List.length_cons, Nat.succ_mul]
    omega

/-- A round's six cells: who leaves. -/
def ERo (w : World) (vs : List Value) (o : List Int) : Prop := ∃ A n c b A1 n1 c1 A2 n2 c2 A3 n3 c3 Ao no co, vs = [.slice A n c, .bool b, .slice A1 n1 c1, .slice A2 n2 c2, .slice A3 n3 c3, .slice Ao no co] ∧ RInts w Ao no co o
theorem below_ro : BelowE ERo := fun _ _ _ _ ⟨A, n, c, b, A1, n1, c1, A2, n2, c2, A3, n3, c3, Ao, no, co, e, h⟩ hb => ⟨A, n, c, b, A1, n1, c1, A2, n2, c2, A3, n3, c3, Ao, no, co, e, h.below hb⟩

/-- What runoff's loops know: the assertions so far, who has gone. -/
structure RunAt (w : World) (B : Nat) (l : List Asn) (gone : List Int) (v g : Value) (W : World) : Prop where
  res : ∃ fp, OAgg EAsn 24 4 fp W B v l ∧ ∀ b, g.ownBlock = some b → ¬ fp b
  own : Own W B g gone
  ap : ∀ b, v.ownBlock = some b → g.ownBlock ≠ some b
  below : Below w.heap.size w W
theorem RunAt.later {w : World} {B : Nat} {l : List Asn} {gone : List Int} {v g : Value} {W W' : World} (h : RunAt w B l gone v g W) (hb : Below W.heap.size W W') : RunAt w B l gone v g W' := by
  obtain ⟨⟨fp, h1, h2⟩, h3, h4, h5⟩ := h
  exact ⟨⟨fp, h1.below hb, h2⟩, h3.below hb, h4, Below_trans' h5 h5.size hb⟩
theorem RunAt.start (w : World) (W : World) (B : Nat) (h : Below w.heap.size w W) : RunAt w B [] [] (.slice none 0 0) (.slice none 0 0) W :=
  ⟨⟨_, OAgg.nil_ _ _ _ _ _, fun b e => (by cases e)⟩, Own.nil_ _ _, fun b e => (by cases e), h⟩
/-- One more assertion, whose list of who is left is the call's own. -/
theorem RunAt.app {w : World} {B : Nat} {l : List Asn} {gone : List Int} {v g : Value} {W : World} (h : RunAt w B l gone v g W) {k x y : Int} {Al : Option Addr} {nl cl : Nat} {L : List Int} (hL : RInts W Al nl cl L)
    (hv : ∀ b, v.ownBlock = some b → ¬ fpS Al nl b) (hg : ∀ b, g.ownBlock = some b → ¬ fpS Al nl b) (hn : l.length + 1 ≤ 1000000) (hB : B ≤ W.heap.size) (hw : w.heap.size ≤ B) (ty : TypeId) :
    ∃ v' W', (Builtin.append_ #[61, 61] ty #[v, .slice (some ⟨W.heap.size, 0, none⟩) 1 1]).run Tryz.prog (W.alloc (.cells #[.int .u8 k, .int .i64 x, .int .i64 y, .slice Al nl cl] 24)) = .ok v' W' ∧
      RunAt w B (l ++ [(k, x, y, L)]) gone v' g W' ∧ Frame' (fun b => v.ownBlock = some b) W W' ∧ ∀ b, v'.ownBlock = some b → v.ownBlock = some b ∨ W.heap.size ≤ b := by
  obtain ⟨⟨fp, h1, h2⟩, h3, h4, h5⟩ := h
  have hb : Below W.heap.size W (W.alloc (.cells #[.int .u8 k, .int .i64 x, .int .i64 y, .slice Al nl cl] 24)) := below_allocN
  have hnew := Has.new W 24 #[.int .u8 k, .int .i64 x, .int .i64 y, .slice Al nl cl]
  have hL' := (hL.below hb)
  obtain ⟨v2, W2, hrun, hO2, hg2, hat2⟩ := run_appAgg infoAsn Tryz.underlying61 rfl (by decide) (by decide) ty (h1.below hb) (gx := W.heap.size) (us := [.int .u8 k, .int .i64 x, .int .i64 y, .slice Al nl cl]) (x := ((k, x, y, L) : Asn)) (fx := fpS Al nl)
    (fun j u hj => by rw [hnew.cell]; simpa using hj) rfl (by simp [Value.oneCell']) (hL'.on.imp fun W' h' => ⟨Al, nl, cl, rfl, h'⟩) hv hn (Nat.le_trans hB hb.size)
  have hF : Frame' (fun b => v.ownBlock = some b) W W2 := (Frame'.of_below hb).trans ((Frame'.of_grown hg2).mono fun b _ e => e.symm)
  refine ⟨v2, W2, hrun, ⟨⟨_, hO2, fun b hb' hf => hf.elim (h2 b hb') (hg b hb')⟩, ?_, fun b hb' hgb => ?_, ?_⟩, hF, fun b hb' => ?_⟩
  · exact h3.frame hF fun b hgb hvb => h4 b hvb hgb
  · rcases hat2 with e | e
    · rw [e] at hb'; exact h4 b hb' hgb
    · rw [e] at hb'; cases hb'
      have := (h3.own_lt hgb).2; have := hb.size; omega
  · exact Frame'.below h5 hF (fun k e => Nat.le_trans hw (h1.lt e).1) h5.size
  · rcases hat2 with e | e
    · exact .inl (e ▸ hb')
    · rw [e] at hb'; cases hb'; exact .inr hb.size
/-- One more has gone. -/
theorem RunAt.gone {w : World} {B : Nat} {l : List Asn} {gone : List Int} {v g : Value} {W : World} (h : RunAt w B l gone v g W) (x : Int) (hx : I64 x) (hn : gone.length + 1 ≤ 1000000) (hB : B ≤ W.heap.size) (hw : w.heap.size ≤ B) (ty : TypeId) :
    ∃ g' W', (Builtin.append_ #[22, 22] ty #[g, .slice (some ⟨W.heap.size, 0, none⟩) 1 1]).run Tryz.prog (W.alloc (.cells #[.int .i64 x] 3)) = .ok g' W' ∧
      RunAt w B l (gone ++ [x]) v g' W' ∧ Frame' (fun b => g.ownBlock = some b) W W' := by
  obtain ⟨⟨fp, h1, h2⟩, h3, h4, h5⟩ := h
  have hb : Below W.heap.size W (W.alloc (.cells #[.int .i64 x] 3)) := below_allocN
  have hL : RInts (W.alloc (.cells #[.int .i64 x] 3)) (some ⟨W.heap.size, 0, none⟩) 1 1 [x] := ints_lit [x] (Has.new _ _ _) (by simp) (fun z hz => by rw [List.mem_singleton.1 hz]; exact hx)
  obtain ⟨g2, W2, hrun, hO2, hg2, hat2⟩ := run_appInts _ ty (h3.below hb) hL (by omega) (Nat.le_trans hB hb.size)
  have hF : Frame' (fun b => g.ownBlock = some b) W W2 := (Frame'.of_below hb).trans ((Frame'.of_grown hg2).mono fun b _ e => e.symm)
  refine ⟨g2, W2, hrun, ⟨⟨fp, h1.frame hF (fun b hf hgb => h2 b hgb hf) (fun b hvb hgb => h4 b hvb hgb), fun b hgb hf => ?_⟩, hO2, fun b hvb hgb => ?_, ?_⟩, hF⟩
  · rcases hat2 with e | e
    · rw [e] at hgb; exact h2 b hgb hf
    · rw [e] at hgb; cases hgb
      have := h1.fp_lt hf; have := hb.size; omega
  · rcases hat2 with e | e
    · rw [e] at hgb; exact h4 b hvb hgb
    · rw [e] at hgb; cases hgb
      have := (h1.lt hvb).2; have := hb.size; omega
  · exact Frame'.below h5 hF (fun k e => Nat.le_trans hw (h3.own_lt e).1) h5.size

theorem ret_none41 {l : Option (List Asn)} {w : World} {B : Nat} (hl : l = none) : ∃ v fp, Ending.returned (.tuple #[.slice none 0 0, .bool false]) = .returned (.tuple #[v, .bool l.isSome]) ∧ OAgg EAsn 24 4 fp w B v (l.getD []) := by
  subst hl; exact ⟨_, _, rfl, OAgg.nil_ _ _ _ _ _⟩
/-- What runoff leaves. -/
def RunPost (w : World) (l : Option (List Asn)) (e : Ending) (w' : World) : Prop := (∃ v fp, e = .returned (.tuple #[v, .bool l.isSome]) ∧ OAgg EAsn 24 4 fp w' w.heap.size v (l.getD [])) ∧ Below w.heap.size w w'

theorem ok_range {el : List Int} {C : Nat} {outs : List (List Int)} : ∀ {gone : List Int}, okRO el C outs gone = true → ∀ x ∈ goneRO outs, 0 ≤ x ∧ x < C := by
  induction outs with
  | nil => intro g _ x hx; simp [goneRO] at hx
  | cons a r ih =>
    intro g h x hx
    simp only [okRO, Bool.and_eq_true] at h
    simp only [goneRO, List.map_cons, List.mem_cons] at hx
    rcases hx with rfl | hx
    · have := h.1
      unfold outOK at this
      simp only [Bool.and_eq_true, inR_iff] at this
      exact this.1.1.2
    · exact ih h.2 x hx
theorem run_bad {el : List Int} {C m X : Nat} {outs : List (List Int)} {o : List Int} (hl : outs.length = m + 1) (hX : X < m) (hat : outs[X]? = some o) (h : outOK el (goneRO (outs.take X)) C o = false) : runoffL el outs C = none := by
  unfold runoffL
  refine if_pos (.inr ?_)
  have hd : outs.dropLast = outs.take (X + 1) ++ (outs.take m).drop (X + 1) := by
    have e : outs.take (X + 1) = (outs.take m).take (X + 1) := by rw [List.take_take]; congr 1; omega
    rw [List.dropLast_eq_take, hl, e, List.take_append_drop]; rfl
  rw [hd]
  refine okRO_pre _ _ _ _ _ ?_
  rw [List.take_add_one, hat]
  show okRO el C (outs.take X ++ [o]) [] = false
  rw [okRO_snoc]
  simp [h]
theorem goneRO_len (outs : List (List Int)) (X : Nat) (h : X ≤ outs.length) : (goneRO (outs.take X)).length = X := by unfold goneRO; rw [List.length_map, List.length_take]; omega

theorem own_fpS {w : World} {B : Nat} {A : Option Addr} {n c : Nat} {xs : List Int} (h : Own w B (.slice A n c) xs) {b : Nat} (hb : fpS A n b) : (Value.slice A n c).ownBlock = some b := by
  rcases h.2 with ⟨e, _⟩ | ⟨g, cap, cur, e, _⟩
  · cases e; exact (fpS_none _ _ hb).elim
  · cases e; rw [fpS_some hb]; rfl
theorem outT_zero (gone : List Int) (C : Nat) (x : Int) : outT gone C x 0 = [] := rfl
theorem outT_all {gone : List Int} {C : Nat} {x : Int} {t : Nat} (h : (othersL gone C).length ≤ t) : outT gone C x t = outT gone C x C := by
  unfold outT; rw [List.take_of_length_le h, List.take_of_length_le (others_le gone C)]
theorem outT_len (gone : List Int) (C : Nat) (x : Int) (t : Nat) : (outT gone C x t).length ≤ C := by
  unfold outT
  rw [List.length_map]
  refine Nat.le_trans (List.length_filter_le _ _) ?_
  rw [List.length_take]; have := others_le gone C; omega
set_option maxRecDepth 100000 in
set_option maxHeartbeats 4000000 in
theorem prunoff_any (Ae : Option Addr) (ne ce : Nat) (el : List Int) (Ar : Option Addr) (nr cr : Nat) (outs : List (List Int)) (vt : Option Addr) (nt ct : Nat) (C : Nat) (hC : C ≤ 10) (hne : 0 < ne) (hnr : nr ≤ 40) (w : World) (he : RInts w Ae ne ce el) (hr : RAgg ERo 6 w Ar nr cr outs) :
    Calls Tryz.prog 32 #[.agg #[.slice Ae ne ce, .slice Ar nr cr, .slice vt nt ct], .int .i64 (C : Int)] w (RunPost w (runoffL el outs C)) := by
  have hol := hide hr.len
  have hb : Below w.heap.size w (w.alloc (.cells #[.slice Ae ne ce, .slice Ar nr cr, .slice vt nt ct] 34)) := below_allocN
  have hP := Has.new w 34 #[.slice Ae ne ce, .slice Ar nr cr, .slice vt nt ct]
  go_enter Tryz.func32, Tryz.ntmps32
  go_upto_region 1 with fail
  generalize World.alloc w _ = W0 at hb hP ⊢
  have p0 := hP.cell 0
  have p1 := hP.cell 1
  by_cases h0 : nr = 0
  · subst h0
    have hv : Hid (runoffL el outs C = none) := by unfold Hid runoffL; rw [if_pos (.inl (List.eq_nil_of_length_eq_zero hol.out))]
    go_wp2
    go_ret2
    exact ⟨ret_none41 hv.out, hb⟩
  · obtain ⟨m, rfl⟩ : ∃ m, nr = m + 1 := ⟨nr - 1, by omega⟩
    have hcr : m + 1 ≤ cr := hr.2.1
    have hm1 : ((m + 1 : Nat) : Int) - 1 = (m : Int) := by omega
    have h0' : ((m : Int) + 1 == 0) = false := by simp; omega
    clear h0
    have he0 := he.below hb
    have hr0 := hr.below below_ro hb
    obtain ⟨be, oe, e0, rfl, hce, _, hate, he64⟩ := he0.step (k := 0) hne
    simp only [Nat.add_zero] at hce
    have hel : Hid (el.getD 0 0 = e0) := by unfold Hid; simp [List.getD, hate.out]
    have hdl : Hid (outs.dropLast = outs.take m) := by unfold Hid; rw [List.dropLast_eq_take, hol.out]; rfl
    have hnz : Hid (outs ≠ []) := fun e => by have := hol.out; rw [e] at this; simp at this
    have hW0 := hide (show w.heap.size ≤ W0.heap.size from hb.size)
    have hR0 := hide (RunAt.start w W0 W0.heap.size hb)
    go_wp2
    go_loopw [4, 6, 26] (fun v g i wr => ∃ X : Nat, X ≤ m ∧ i = .int .i64 X ∧ Hid (okRO el C (outs.take X) [] = true) ∧ Hid (RunAt w W0.heap.size (asnRO C (outs.take X) []) (goneRO (outs.take X)) v g wr) ∧ Below W0.heap.size W0 wr) (fun _ _ i _ => m - (intOf i).toNat)
    case atStart => exact ⟨0, Nat.zero_le _, rfl, rfl, hR0, Below.refl _ _⟩
    case round =>
      obtain ⟨X, hX, rfl, hok, hR, hbr⟩ := hrel
      obtain ⟨wo, rfl⟩ : ∃ wo : World, wo = wr := ⟨_, rfl⟩
      by_cases hlt : X < m
      · obtain ⟨br, or_, vs, o, rfl, _, hcell, ⟨A1, n1, c1, b1, A2, n2, c2, A3, n3, c3, A4, n4, c4, Ao, no, co, rfl, hO⟩, _, hat⟩ := (hr0.below below_ro hbr).step (k := X) (by omega)
        have r0 := hcell 0 _ rfl
        have r1 := hcell 1 _ rfl
        have r2 := hcell 2 _ rfl
        have r3 := hcell 3 _ rfl
        have r4 := hcell 4 _ rfl
        have r5 := hcell 5 _ rfl
        simp only [Nat.add_zero] at r0
        clear hcell
        have hO1 := hO.below (w' := wo.alloc (.cells #[.slice A1 n1 c1, .bool b1, .slice A2 n2 c2, .slice A3 n3 c3, .slice A4 n4 c4, .slice Ao no co] 53)) below_allocN
        have h8 := Has.new wo 53 #[.slice A1 n1 c1, .bool b1, .slice A2 n2 c2, .slice A3 n3 c3, .slice A4 n4 c4, .slice Ao no co]
        have hbo : Below wo.heap.size wo (wo.alloc (.cells #[.slice A1 n1 c1, .bool b1, .slice A2 n2 c2, .slice A3 n3 c3, .slice A4 n4 c4, .slice Ao no co] 53)) := below_allocN
        go_upto_region 7 with fail
        generalize World.alloc wo _ = w1 at hO1 h8 hbo ⊢
        clear r0 r1 r2 r3 r4 r5
        have hb1 := Below_trans' hbr hbr.size hbo
        have hb01 := Below_trans' hb hb.size hb1
        have hR1 := hide (hR.out.later hbo)
        have hgl := goneRO_len outs X (by rw [hol.out]; omega)
        obtain ⟨Ag, cg, rfl⟩ : ∃ Ag cg, u6 = .slice Ag X cg := by
          obtain ⟨A, c, e⟩ := hR1.out.own.slice
          exact ⟨A, c, by rw [e, hgl]⟩
        have hrg := hide (ok_range hok.out)
        have hG := hR1.out.own.ints (fun x hx => by have := hrg.out x hx; omega)
        have Hgl := hide hgl
        clear hgl
        generalize hgd : goneRO (outs.take X) = gone at *
        have Hgd := hide hgd
        clear hgd
        have o5 := h8.cell 5
        have q0 := (hP.below hb1 hP.lt).cell 0
        have hc1 := keep_cell hb1 hce
        by_cases hno : no = 1
        · subst hno
          obtain ⟨bx, ox, x, rfl, hcx, _, hatx, hx64⟩ := hO1.step (k := 0) (by omega)
          simp only [Nat.add_zero] at hcx
          have hol1 : Hid (o.length = 1) := hO1.len
          have hx0 : Hid (o.getD 0 0 = x) := by unfold Hid; simp [List.getD, hatx.out]
          have hoK : Hid (outOK el gone C o = (inR 0 C x && !inL gone x && !decide (x = e0))) := by unfold Hid outOK; rw [hx0.out, hol1.out, hel.out]; simp
          cases hin : inR 0 C x with
          | false =>
            have hbad : Hid (runoffL el outs C = none) := run_bad hol.out hlt hat.out (by rw [Hgd.out, hoK.out, hin]; rfl)
            have hIs : ∀ q, Calls Tryz.prog 62 #[.int .i64 x, .int .i64 C] (More w1 q) fun e w' => e = .returned (.bool false) ∧ More w1 q = w' := fun q => is_val x C _ hin
            have hCo : True := trivial
            clear hin
            refine wp_region_more (by kernel_rfl) (by kernel_rfl) ?_
            repeat (go_big_quiet_step ((go_at_call 62; with_reducible exact more_same (hIs _))))
            refine wpQuiet_nil ?_
            rintro w2 ⟨qw2, hww2⟩
            have hbw2 := below_of_eq hww2
            clear hww2 qw2
            go_wp2
            go_ret2
            exact ⟨ret_none41 hbad.out, Below_trans' hb01 hb01.size hbw2⟩
          | true =>
            have hIs : ∀ q, Calls Tryz.prog 62 #[.int .i64 x, .int .i64 C] (More w1 q) fun e w' => e = .returned (.bool true) ∧ More w1 q = w' := fun q => is_val x C _ hin
            have Hin := hide hin
            clear hin
            cases hgx : inL gone x with
            | true =>
              have hbad : Hid (runoffL el outs C = none) := run_bad hol.out hlt hat.out (by rw [Hgd.out, hoK.out, hgx]; simp)
              have hCo : ∀ q, Calls Tryz.prog 44 #[.slice Ag X cg, .int .i64 x] (More w1 q) fun e w' => e = .returned (.bool true) ∧ More w1 q = w' := fun q => contains_val Ag X cg gone x _ (hG.more q) hgx
              clear hgx
              refine wp_region_more (by kernel_rfl) (by kernel_rfl) ?_
              repeat (go_big_quiet_step ((first | (go_at_call 62; with_reducible exact more_same (hIs _)) | (go_at_call 44; with_reducible exact more_same (hCo _)))))
              refine wpQuiet_nil ?_
              rintro w2 ⟨qw2, hww2⟩
              have hbw2 := below_of_eq hww2
              clear hww2 qw2
              go_wp2
              go_ret2
              exact ⟨ret_none41 hbad.out, Below_trans' hb01 hb01.size hbw2⟩
            | false =>
              have hCo : ∀ q, Calls Tryz.prog 44 #[.slice Ag X cg, .int .i64 x] (More w1 q) fun e w' => e = .returned (.bool false) ∧ More w1 q = w' := fun q => contains_val Ag X cg gone x _ (hG.more q) hgx
              have Hgx := hide hgx
              clear hgx
              by_cases hxe : x = e0
              · have hbad : Hid (runoffL el outs C = none) := run_bad hol.out hlt hat.out (by rw [Hgd.out, hoK.out, hxe]; simp)
                have bxe : (x == e0) = true := by simp [hxe]
                clear hxe
                refine wp_region_more (by kernel_rfl) (by kernel_rfl) ?_
                repeat (go_big_quiet_step ((first | (go_at_call 62; with_reducible exact more_same (hIs _)) | (go_at_call 44; with_reducible exact more_same (hCo _)))))
                refine wpQuiet_nil ?_
                rintro w2 ⟨qw2, hww2⟩
                have hbw2 := below_of_eq hww2
                clear hww2 qw2
                go_wp2
                go_ret2
                exact ⟨ret_none41 hbad.out, Below_trans' hb01 hb01.size hbw2⟩
              · have hgood : Hid (outOK el gone C o = true) := by unfold Hid; rw [hoK.out, Hin.out, Hgx.out]; simp [hxe]
                have bxe : (x == e0) = false := by simp [hxe]
                clear hxe
                refine wp_region_more (by kernel_rfl) (by kernel_rfl) ?_
                repeat (go_big_quiet_step ((first | (go_at_call 62; with_reducible exact more_same (hIs _)) | (go_at_call 44; with_reducible exact more_same (hCo _)))))
                refine wpQuiet_nil ?_
                rintro w2 ⟨qw2, hww2⟩
                have hbw2 := below_of_eq hww2
                clear hww2 qw2
                have o52 := keep_cell hbw2 o5
                have hcx2 := keep_cell hbw2 hcx
                have hb2 := Below_trans' hb1 hb1.size hbw2
                have hR2 := hide (hR1.out.later hbw2)
                have hG2 := hG.below hbw2
                clear o5 hcx hIs hCo q0 hc1 bxe
                go_upto_region 10 with fail
                clear o52 hcx2
                go_wp2_with fail
                refine (others_any Ag X cg C w2).mono ?_
                rintro e w3 ⟨rfl, hS⟩
                have hl3 : Has w3 w2.heap.size 22 #[.slice Ag X cg] := by rw [← hS]; exact (Has.new _ _ _).alloc _
                have hc3 : Has w3 (w2.heap.size + 1) 3 #[.int .i64 C] := by rw [← hS]; exact Has.new2 _ _ _ _
                have hb3 : Below w2.heap.size w2 w3 := by rw [← hS]; exact ((Below.refl _ _).alloc (Nat.le_refl _) _).alloc (by simp) _
                clear hS
                go_wp2_with fail
                refine (collectO_any w2.heap.size (w2.heap.size + 1) Ag X cg gone C hC w3 ⟨hl3, hc3, hG2.below hb3⟩).mono ?_
                rintro e w4 ⟨v4, rfl, hL4, hb4⟩
                clear hl3 hc3
                have hb24 := Below_trans' hb3 hb3.size hb4
                have hb04 := Below_trans' hb2 hb2.size hb24
                have hR4 := hide (hR2.out.later hb24)
                obtain ⟨A4l, c4l, rfl⟩ := hL4.slice
                have hnl := others_le gone C
                have hr3 := hide (fun (q : Int) (hq : q ∈ othersL gone C) => (mem_othersL.1 hq).1)
                have hap4 : Hid (∀ b, u4.ownBlock = some b → (Value.slice A4l (othersL gone C).length c4l).ownBlock ≠ some b) := fun b hb1 hb2 => by
                  obtain ⟨⟨fp, ho, _⟩, _⟩ := hR2.out
                  have := (ho.lt hb1).2; have := (hL4.own_lt hb2).1; have := hb3.size; omega
                have hgp4 : Hid (∀ b, (Value.slice Ag X cg).ownBlock = some b → (Value.slice A4l (othersL gone C).length c4l).ownBlock ≠ some b) := fun b hb1 hb2 => by
                  have := (hR2.out.own.own_lt hb1).2; have := (hL4.own_lt hb2).1; have := hb3.size; omega
                obtain ⟨lf, hlf⟩ : ∃ lf, lf = othersL gone C := ⟨_, rfl⟩
                rw [← hlf] at hL4 hnl hr3 hap4 hgp4
                have Hlf := hide hlf
                clear hlf hG2 hR2 hb2 hb24 hb3 hb4
                obtain ⟨nl, hnl2⟩ : ∃ nl, nl = lf.length := ⟨_, rfl⟩
                have hlen : Hid (lf.length = nl) := hnl2.symm
                rw [Hlf.out.symm, ← hnl2]
                rw [← hnl2] at hL4 hnl hap4 hgp4
                clear hnl2
                have hm40 : X * C ≤ 40 * 10 := Nat.mul_le_mul (by omega) hC
                have hal := hide (asnRO_len C (outs.take X) [])
                have htl := hide (show (outs.take X).length ≤ X by rw [List.length_take]; omega)
                go_wp2
                go_loopw [4, 72] (fun v i wr => ∃ Y : Nat, Y ≤ nl ∧ i = .int .i64 Y ∧ Hid (RunAt w W0.heap.size (asnRO C (outs.take X) [] ++ outT gone C x Y) gone v (.slice Ag X cg) wr) ∧ Own wr w3.heap.size (.slice A4l nl c4l) lf ∧ Hid (∀ b, v.ownBlock = some b → (Value.slice A4l nl c4l).ownBlock ≠ some b) ∧ Below W0.heap.size W0 wr) (fun _ i _ => nl - (intOf i).toNat)
                case atStart => exact ⟨0, Nat.zero_le _, rfl, by unfold Hid; rw [outT_zero, List.append_nil]; exact hR4.out, hL4, hap4, hb04⟩
                case round =>
                  obtain ⟨Y, hY, rfl, hRi, hLi, hapi, hbi⟩ := hrel
                  obtain ⟨wi, rfl⟩ : ∃ wi : World, wi = wr := ⟨_, rfl⟩
                  by_cases hYn : Y < nl
                  · have hLr := hLi.ints (fun q hq => by have h1 := hr3.out q hq; rw [Hlf.out] at hq; have h2 := (mem_othersL.1 hq).1; omega)
                    have hLr' : RInts wi A4l nl c4l lf := hlen.out ▸ hLr
                    obtain ⟨bl, ol, y, e1, hcy, _, haty, hy64⟩ := hLr'.step hYn
                    have haty' : Hid ((othersL gone C)[Y]? = some y) := by unfold Hid; rw [← Hlf.out]; exact haty.out
                    cases hyx : (y != x) with
                    | true =>
                      subst e1
                      have hnx := hide (outT_succ_ne haty'.out hyx)
                      go_wp2_with fail
                      refine (cloneO_any (some ⟨bl, ol, none⟩) nl c4l lf wi hLr' (by omega)).mono ?_
                      rintro e w5 ⟨A5, c5, rfl, hO5, hb5⟩
                      have hR5 := hRi.out.later hb5
                      have hL5 := hLi.below hb5
                      have hO5r := hO5.ints (fun q hq => by rw [Hlf.out] at hq; have h2 := (mem_othersL.1 hq).1; omega)
                      have hvl : ∀ b, u4.ownBlock = some b → b < wi.heap.size := fun b hb => by obtain ⟨⟨fp, ho, _⟩, _⟩ := hRi.out; exact (ho.lt hb).2
                      have hgl : ∀ b, (Value.slice Ag X cg).ownBlock = some b → b < wi.heap.size := fun b hb => (hRi.out.own.own_lt hb).2
                      obtain ⟨v', W', hrun, hR', hF, hnew⟩ := hR5.app (k := 4) (x := y) (y := x) hO5r
                        (fun b hb hf => by have := (hO5.own_lt (own_fpS hO5 hf)).1; have := hvl b hb; omega)
                        (fun b hb hf => by have := (hO5.own_lt (own_fpS hO5 hf)).1; have := hgl b hb; omega)
                        (by rw [List.length_append]; have h1 := hal.out; have h2 := htl.out; have h3 := outT_len gone C x Y; have h4 : (outs.take X).length * C ≤ X * C := Nat.mul_le_mul_right _ h2; omega)
                        (Below_trans' hbi hbi.size hb5).size hW0.out 61
                      have hL' := hL5.frame hF (fun b hlb hvb => hapi.out b hvb hlb)
                      have hap' : Hid (∀ b, v'.ownBlock = some b → (Value.slice (some ⟨bl, ol, none⟩) nl c4l).ownBlock ≠ some b) := fun b hb hlb => by
                        rcases hnew b hb with h1 | h1
                        · exact hapi.out b h1 hlb
                        · have := (hL5.own_lt hlb).2; omega
                      have hb' : Below W0.heap.size W0 W' := Frame'.below (Below_trans' hbi hbi.size hb5) hF (fun b hvb => by obtain ⟨⟨fp, ho, _⟩, _⟩ := hRi.out; exact (ho.lt hvb).1) (Below_trans' hbi hbi.size hb5).size
                      have HR' := hide hR'
                      clear hR' hR5 hO5r hO5 hvl hgl hF hnew hL5
                      rw [hlen.out] at hrun ⊢
                      go_wp2_with (at_builtin; refine list_app rfl rfl rfl rfl hrun ?_)
                      go_roundw
                      case rel => exact ⟨Y + 1, by omega, by go_num, by unfold Hid; rw [hnx.out, ← List.append_assoc, ← Hlf.out]; exact HR'.out, hL', hap', hb'⟩
                      case measure => simp [intOf] <;> omega
                    | false =>
                      subst e1
                      have hnx := hide (outT_succ_eq haty'.out hyx)
                      go_wp2
                      go_roundw
                      case rel => exact ⟨Y + 1, by omega, by go_num, by unfold Hid; rw [hnx.out]; exact hRi.out, hLi, hapi, hbi⟩
                      case measure => simp [intOf] <;> omega
                  · obtain rfl : nl = Y := by omega
                    have hall := hide (outT_all (x := x) (show (othersL gone C).length ≤ nl by rw [← Hlf.out, hlen.out]; exact Nat.le_refl _))
                    have hx6 : I64 x := ⟨by omega, by omega⟩
                    obtain ⟨g', W', hrun, hR', hF⟩ := hRi.out.gone x hx6 (by have := Hgl.out; omega) hbi.size hW0.out 22
                    have hb' : Below W0.heap.size W0 W' := Frame'.below hbi hF (fun b hgb => (hRi.out.own.own_lt hgb).1) hbi.size
                    have HR' := hide hR'
                    have hok' : Hid (okRO el C (outs.take (X + 1)) [] = true) := by
                      unfold Hid
                      rw [List.take_add_one, hat.out]
                      show okRO el C (outs.take X ++ [o]) [] = true
                      rw [okRO_snoc, hok.out, List.nil_append, Hgd.out, hgood.out]; rfl
                    have has' : Hid (asnRO C (outs.take (X + 1)) [] = asnRO C (outs.take X) [] ++ outT gone C x C) := by
                      unfold Hid
                      rw [List.take_add_one, hat.out]
                      show asnRO C (outs.take X ++ [o]) [] = _
                      rw [asnRO_snoc, List.nil_append, Hgd.out, hx0.out]
                    have hgs' : Hid (goneRO (outs.take (X + 1)) = gone ++ [x]) := by
                      unfold Hid
                      rw [List.take_add_one, hat.out]
                      show goneRO (outs.take X ++ [o]) = _
                      rw [goneRO_snoc, Hgd.out, hx0.out]
                    clear hR' hF hRi hLi hapi
                    go_wp2_with (at_builtin; refine list_app rfl rfl rfl rfl hrun ?_)
                    go_roundw
                    case rel => exact ⟨X + 1, by omega, by go_num, hok', by unfold Hid; rw [has'.out, hgs'.out, ← hall.out]; exact HR'.out, hb'⟩
                    case measure => simp [intOf] <;> omega
        · have hno1 : ((no : Int) != 1) = true := by simp; omega
          have hbad : Hid (runoffL el outs C = none) := run_bad hol.out hlt hat.out (by rw [Hgd.out]; unfold outOK; rw [hO1.len]; simp [hno])
          clear hno
          refine wp_region_more (by kernel_rfl) (by kernel_rfl) ?_
          repeat (go_big_quiet_step (fail))
          refine wpQuiet_nil ?_
          rintro w2 ⟨qw2, hww2⟩
          have hbw2 := below_of_eq hww2
          clear hww2 qw2
          go_wp2
          go_ret2
          exact ⟨ret_none41 hbad.out, Below_trans' hb01 hb01.size hbw2⟩
      · obtain rfl : m = X := by omega
        have hb0r := Below_trans' hb hb.size hbr
        have hgl := goneRO_len outs m (by rw [hol.out]; omega)
        obtain ⟨Ag, cg, rfl⟩ : ∃ Ag cg, u6 = .slice Ag m cg := by
          obtain ⟨A, c, e⟩ := hR.out.own.slice
          exact ⟨A, c, by rw [e, hgl]⟩
        have hrg := hide (ok_range hok.out)
        have hG := hR.out.own.ints (fun x hx => by have := hrg.out x hx; omega)
        have hG' : RInts wo Ag m cg (goneRO (outs.take m)) := hgl ▸ hG
        clear hG
        have hG := hG'
        clear hG'
        have hval : Hid (runoffL el outs C = some (asnRO C (outs.take m) [] ++ if 1 < (othersL (goneRO (outs.take m)) C).length then [(5, e0, 0, othersL (goneRO (outs.take m)) C)] else [])) := by
          unfold Hid runoffL
          rw [hdl.out, hel.out, if_neg (fun h => h.elim hnz.out (fun h => by rw [hok.out] at h; cases h))]
        generalize hgd : goneRO (outs.take m) = gone at *
        have hal := hide (asnRO_len C (outs.take m) [])
        have htl := hide (show (outs.take m).length ≤ m by rw [List.length_take]; omega)
        clear hgd hgl
        go_wp2_with fail
        refine (others_any Ag m cg C wo).mono ?_
        rintro e w3 ⟨rfl, hS⟩
        have hl3 : Has w3 wo.heap.size 22 #[.slice Ag m cg] := by rw [← hS]; exact (Has.new _ _ _).alloc _
        have hc3 : Has w3 (wo.heap.size + 1) 3 #[.int .i64 C] := by rw [← hS]; exact Has.new2 _ _ _ _
        have hb3 : Below wo.heap.size wo w3 := by rw [← hS]; exact ((Below.refl _ _).alloc (Nat.le_refl _) _).alloc (by simp) _
        clear hS
        go_wp2_with fail
        refine (collectO_any wo.heap.size (wo.heap.size + 1) Ag m cg gone C hC w3 ⟨hl3, hc3, hG.below hb3⟩).mono ?_
        rintro e w4 ⟨v4, rfl, hL4, hb4⟩
        have hb24 := Below_trans' hb3 hb3.size hb4
        have hR4 := hide (hR.out.later hb24)
        obtain ⟨A4l, c4l, rfl⟩ := hL4.slice
        have hap4 : Hid (∀ b, u4.ownBlock = some b → ¬ fpS A4l (othersL gone C).length b) := fun b hb1 hf => by
          obtain ⟨⟨fp, ho, _⟩, _⟩ := hR.out
          have := (ho.lt hb1).2; have := (hL4.own_lt (own_fpS hL4 hf)).1; have := hb3.size; omega
        have hgp4 : Hid (∀ b, (Value.slice Ag m cg).ownBlock = some b → ¬ fpS A4l (othersL gone C).length b) := fun b hb1 hf => by
          have := (hR.out.own.own_lt hb1).2; have := (hL4.own_lt (own_fpS hL4 hf)).1; have := hb3.size; omega
        have hLr := hL4.ints (fun q hq => by have h2 := (mem_othersL.1 hq).1; omega)
        have hfin := hR4.out.below
        have hb14 := Below_trans' hbr hbr.size hb24
        have q0 := (hP.below hb14 hP.lt).cell 0
        have hc1 := keep_cell hb14 hce
        clear hl3 hc3 hG hb3 hb4 hL4
        by_cases h1 : 1 < (othersL gone C).length
        · have hv1 : Hid (runoffL el outs C = some (asnRO C (outs.take m) [] ++ [(5, e0, 0, othersL gone C)])) := by unfold Hid; rw [hval.out, if_pos h1]
          obtain ⟨v', W', hrun, hR', hF, hnew⟩ := hR4.out.app (k := 5) (x := e0) (y := 0) hLr hap4.out hgp4.out
            (by have h1 := hal.out; have h2 := htl.out; have h4 : (outs.take m).length * C ≤ m * C := Nat.mul_le_mul_right _ h2; have h5 : m * C ≤ 40 * 10 := Nat.mul_le_mul (by omega) hC; omega)
            hb14.size hW0.out 61
          have HR' := hide hR'
          clear hR' hF hnew hLr hval
          generalize (othersL gone C).length = nl at *
          have h1' : (1 : Int) < (nl : Int) := by omega
          go_wp2_with (at_builtin; refine list_app rfl rfl rfl rfl hrun ?_)
          refine bodyPost_ret (results_tmp2 rfl _ _ _) rfl ?_
          obtain ⟨⟨fp, ho, _⟩, _, _, hbW⟩ := HR'.out
          exact ⟨⟨v', fp, by rw [hv1.out]; rfl, by rw [hv1.out]; exact ho.mono hW0.out⟩, hbW⟩
        · have hv1 : Hid (runoffL el outs C = some (asnRO C (outs.take m) [])) := by unfold Hid; rw [hval.out, if_neg h1, List.append_nil]
          clear hLr hval
          generalize (othersL gone C).length = nl at *
          have h1' : ¬ (1 : Int) < (nl : Int) := by omega
          go_wp2
          refine bodyPost_ret (results_tmp2 rfl _ _ _) rfl ?_
          obtain ⟨⟨fp, ho, _⟩, _, _, hbW⟩ := hR4.out
          exact ⟨⟨_, fp, by rw [hv1.out]; rfl, by rw [hv1.out]; exact ho.mono hW0.out⟩, hbW⟩
end Go.Proofs.YtoeajgjpakilgaaGreat
