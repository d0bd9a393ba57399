/-
  Regions that draw their order: the operations that only read come first, whatever the others write behind them; the others in every order that their edges allow. No program is named here.
  A round or a tie more in a field: what is appended and stored. What a round is.
-/
import Derived.Test.YtolbceckbnifmaaGreatQTail
import Derived.Test.YtolbceckbnifmaaGreatMem3
import Derived.OrdersHeld
import Derived.Test.YtolbceckbnifmaaGreatW11a
namespace Go.Proofs.YtolbceckbnifmaaGreat
open Go.RowKit

/-- Behind one operation: what is asked next. No panic. -/
def FlowPost (R : Act → World → Prop) (Q : Exit → Act → World → Prop) : Exit → Act → World → Prop
  | .normal, a, w => R a w
  | .panic _, _, _ => False
  | e, a, w => Q e a w
theorem FlowPost.mk {R : Act → World → Prop} {Q : Exit → Act → World → Prop} {a : Act} {w : World} (h : R a w) : FlowPost R Q .normal a w := h
/-- Q, but no panic. -/
def Calm (Q : Exit → Act → World → Prop) : Exit → Act → World → Prop
  | .panic _, _, _ => False
  | e, a, w => Q e a w
theorem Calm.imp {Q : Exit → Act → World → Prop} : ∀ (e : Exit) (a : Act) (w : World), Calm Q e a w → Q e a w := fun e a w h => by
  cases e <;> first | exact h | exact (h : False).elim
theorem Calm.letsOut {R : Act → World → Prop} {Q : Exit → Act → World → Prop} (h : LetsOut (FlowPost R Q)) : LetsOut (Calm Q) := h
theorem wp_of_flow {P : Program} {o : Oper} {a : Act} {w : World} {R : Act → World → Prop} {Q : Exit → Act → World → Prop} (h : o.wp P a w R (FlowPost R Q)) : o.wp P a w R (Calm Q) := by
  unfold Oper.wp at *
  generalize (execOp a.eval o).run P w = r at *
  cases r with
  | ok n w' =>
    cases n <;> simp only [Oper.upon] at h ⊢ <;> first | exact h | exact Calls.mono h (fun e w'' he => by cases e <;> exact he)
  | halt x w' => cases x <;> simp only [Oper.upon] at h ⊢ <;> exact h

section
variable {P : Program} {ops : Array Oper} {md : Region.Mode} {Q : Exit → Act → World → Prop} {C : World → Prop}

/-- One of ks may still be to come behind number i. -/
def needB (md : Region.Mode) (ops : Array Oper) (ks : List Nat) (i : Nat) : Bool := ks.any fun k => !awaits md ops ops.size i k
/-- Whatever order is picked from here on; as long as one of ks may be to come, the world is one of C. -/
def anyF (P : Program) (md : Region.Mode) (ops : Array Oper) (Q : Exit → Act → World → Prop) (C : World → Prop) (ks : List Nat) : Nat → Array Bool → Act → World → Prop
  | 0, listed, a, w => Region.ready md ops listed = [] ∧ Q .normal a w
  | f + 1, listed, a, w => (Region.ready md ops listed = [] → Q .normal a w) ∧ ∀ i ∈ Region.ready md ops listed, wpOp P ops Q i (fun a' w' => (needB md ops ks i = true → C w') ∧ anyF P md ops Q C ks f (listed.setIfInBounds i true) a' w') a w
theorem any_of_flow {ks : List Nat} : ∀ (f : Nat) (listed : Array Bool) (a : Act) (w : World), anyF P md ops Q C ks f listed a w → wpAny P md ops Q f listed a w
  | 0, _, _, _, h => h
  | f + 1, _, _, _, h => ⟨h.1, fun i hi => wpOp_mono (fun a' w' h' => any_of_flow f _ a' w' h'.2) (h.2 i hi)⟩

theorem flow_first {ks : List Nat} {i : Nat} {oi : Oper} {v : Value} (hi : ops[i]? = some oi) (hsel : ∀ (j : Nat) (o : Oper) cs b, ops[j]? = some o → o.op ≠ .select cs b) (hQ : ∀ c a w, Q (.panic c) (a.put oi.dst v) w → Q (.panic c) a w)
    (hik : i ∈ ks) : ∀ (f : Nat) (listed : Array Bool) (a : Act) (w : World), Shut md ops listed →
      (∀ j oj, ops[j]? = some oj → j ≠ i → listed.getD j true = false → (∀ e ∈ oj.after, Region.binds md e = true → e.on ≠ i) → oi.apart ops oj = true) →
      i ∈ Region.ready md ops listed → YieldsIf P ops C oi v a → C w →
      anyF P md ops Q C ks f (listed.setIfInBounds i true) (a.put oi.dst v) w → anyF P md ops Q C ks (f + 1) listed a w := by
  intro f
  induction f with
  | zero =>
    intro listed a w inv _ hr hy hC H
    refine ⟨fun h => (by rw [h] at hr; cases hr), fun j hj => ?_⟩
    by_cases hji : j = i
    · subst hji; exact hy.wpOp hi hC ⟨fun _ => hC, H⟩
    · have := ready_mono hj hji
      rw [H.1] at this
      cases this
  | succ f ih =>
    intro listed a w inv hfree hr hy hC H
    refine ⟨fun h => (by rw [h] at hr; cases hr), fun j hj => ?_⟩
    by_cases hji : j = i
    · subst hji; exact hy.wpOp hi hC ⟨fun _ => hC, H⟩
    · have h1 := H.2 j (ready_mono hj hji)
      obtain ⟨hjun, oj, hoj, hall⟩ := mem_ready.1 hj
      have hiun := (mem_ready.1 hr).1
      have hnot : ∀ e ∈ oj.after, Region.binds md e = true → e.on ≠ i := fun e he hb heq => by
        have h1 := hall e he hb
        rw [heq, getD_both hiun] at h1
        cases h1
      have hjz : needB md ops ks j = true := by
        unfold needB
        rw [List.any_eq_true]
        refine ⟨i, hik, ?_⟩
        cases hw : awaits md ops ops.size j i with
        | false => rfl
        | true =>
          have h2 := inv.awaits _ _ hw (fun o ho e he hb => by
            have : o = oj := Option.some.inj (ho.symm.trans hoj)
            subst this
            exact hall e he hb)
          rw [getD_both hiun] at h2
          cases h2
      have h2 := wpOp_putIf hoj (hfree j oj hoj hji hjun hnot) (fun cs b => hsel i oi cs b hi) (fun cs b => hsel j oj cs b hoj) hQ hy h1
      have hfree' : ∀ k ok, ops[k]? = some ok → k ≠ i → (listed.setIfInBounds j true).getD k true = false → (∀ e ∈ ok.after, Region.binds md e = true → e.on ≠ i) → oi.apart ops ok = true := fun k ok hk hki hun hno => by
        refine hfree k ok hk hki ?_ hno
        by_cases hjk : j = k
        · subst hjk; exact hjun
        · rw [getD_set_ne true hjk] at hun; exact hun
      refine wpOp_mono (fun a' w' h3 => ⟨h3.2.1, ih (listed.setIfInBounds j true) a' w' (inv.set hj) hfree' (ready_mono hr (Ne.symm hji)) h3.1 (h3.2.1 hjz) ?_⟩) h2
      rw [Array.setIfInBounds_comm _ _ hji]
      exact h3.2.2

/-- An operation that yields a value, if anything. -/
def pureB (o : Oper) : Bool := match o.op with
  | .move _ | .assign _ | .pick .. | .build .. | .load .. | .nilCheck _ | .binOp .. | .unOp .. | .convert .. | .makeInterface .. | .makeFunc .. | .slice .. | .fieldAddr .. | .field .. | .indexAddr .. | .index .. | .extract .. => true
  | .call c => match c.callee with
    | .builtin .len => true
    | _ => false
  | _ => false
/-- What yields a value, if anything. -/
def Vals (s : Sem Next) : Prop := ∀ P w w' n, s.run P w = .ok n w' → ∃ u, n = .value u
theorem Vals.pure_ (x : Value) : Vals (pure (Next.value x)) := fun P w w' n h => by simp at h; exact ⟨_, h.1.symm⟩
theorem Vals.bind {α : Type} {s : Sem α} {f : α → Sem Next} (h : ∀ x, Vals (f x)) : Vals (s >>= f) := fun P w w' n h' => by
  rw [Sem.run_bind] at h'
  cases hs : s.run P w with
  | ok x w1 => rw [hs] at h'; exact h x P w1 w' n h'
  | halt e w1 => rw [hs] at h'; simp at h'
theorem Vals.none_ {s : Sem Next} (h : ∀ P w, ∃ e w', s.run P w = .halt e w') : Vals s := fun P w w' n h' => by
  obtain ⟨e, w1, h1⟩ := h P w
  rw [h1] at h'; cases h'
theorem Vals.ite {c : Prop} [Decidable c] {s t : Sem Next} (hs : Vals s) (ht : Vals t) : Vals (if c then s else t) := by
  split
  · exact hs
  · exact ht
theorem Vals.deref : Vals (runtimePanic RuntimeError.nilDeref) := Vals.bind fun _ => Vals.none_ fun _ w => ⟨_, w, rfl⟩
theorem Vals.unsup {α : Type} (u : Unsupported) (f : α → Sem Next) : Vals ((unsupported u : Sem α) >>= f) := Vals.none_ fun _ w => ⟨_, w, rfl⟩
theorem pure_value {o : Oper} (hp : pureB o = true) {ρ : Operand → Value} {P : Program} {w w' : World} {n : Next} (h : (execOp ρ o).run P w = .ok n w') : ∃ u, n = .value u := by
  refine (?_ : Vals (execOp ρ o)) P w w' n h
  clear h
  unfold pureB at hp
  unfold execOp
  split at hp <;> rename_i heq <;> simp only [heq] <;> first | (cases hp; done) | skip
  all_goals first
    | exact Vals.bind fun x => Vals.pure_ _
    | exact Vals.pure_ _
    | skip
  · split <;> first | exact Vals.deref | exact Vals.pure_ _ | skip
    split <;> first | exact Vals.deref | exact Vals.pure_ _ | skip
    refine Vals.bind fun p => Vals.bind fun b => ?_
    exact Vals.ite (Vals.unsup _ _) (Vals.pure_ _)
  · split at hp <;> rename_i hc <;> first | (cases hp; done) | skip
    show Vals (resolve ρ _ o.type >>= fun d => invoke d.target d.args)
    unfold resolve
    simp only [hc, pure_bind]
    exact Vals.bind fun x => Vals.pure_ _
theorem yields_if {o : Oper} {v : Value} {a : Act} (h : YieldsIn P ops C o v a) (hp : pureB o = true) : YieldsIf P ops C o v a := by
  rcases h with ⟨h1, h2⟩ | h
  · refine .inl ⟨h1, fun w hw => ?_⟩
    have h3 := h2 w hw
    unfold Oper.quietAt at h3
    cases hr : (execOp a.eval o).run P w with
    | ok n w' =>
      rw [hr] at h3
      obtain ⟨u, e⟩ := pure_value hp hr
      subst e
      obtain ⟨e1, e2⟩ : w' = w ∧ u = v := h3
      rw [e1, e2]
    | halt e w' => rw [hr] at h3; exact (h3 : False).elim
  · exact .inr h

/-- The reads ks may come in this order, each apart from what it passes. -/
def lexF (md : Region.Mode) (ops : Array Oper) : List Nat → Array Bool → Bool
  | [], _ => true
  | k :: ks, listed => (Region.ready md ops listed).contains k && Region.free md ops listed k && (match ops[k]? with | some o => pureB o | none => false) && lexF md ops ks (listed.setIfInBounds k true)
/-- What is listed behind them. -/
def listedOf (n : Nat) (ks : List Nat) : Array Bool := ks.foldl (fun l k => l.setIfInBounds k true) (Array.replicate n false)
theorem flow_lex {l : List Oper} {kz : List Nat} {Qf : Act → Prop} {g : Nat} (hsel : Region.noSelect l.toArray = true) (hQ : ∀ c a a' w, Q (.panic c) a w → Q (.panic c) a' w) (w : World) (hC : C w) :
    ∀ (ks : List Nat) (listed : Array Bool) (a : Act), (∀ k ∈ ks, k ∈ kz) → Shut md l.toArray listed → lexF md l.toArray ks listed = true → (∀ a', Qf a' → anyF P md l.toArray Q C kz g (ks.foldl (fun l k => l.setIfInBounds k true) listed) a' w) →
      wpQuiet P l.toArray C Qf (pickOps l ks) a → anyF P md l.toArray Q C kz (ks.length + g) listed a w
  | [], listed, a, _, _, _, hf, h => by simpa using hf a h
  | k :: ks, listed, a, hin, inv, hB, hf, h => by
    simp only [lexF, Bool.and_eq_true] at hB
    obtain ⟨⟨⟨hr, hfr⟩, hp⟩, hB'⟩ := hB
    have hr' : k ∈ Region.ready md l.toArray listed := by simpa using hr
    obtain ⟨_, o, h0, _⟩ := mem_ready.1 hr'
    have h0' : l[k]? = some o := by simpa using h0
    simp only [h0] at hp
    rw [pickOps, h0'] at h
    have hq : qOp P l.toArray C k (wpQuiet P l.toArray C Qf (pickOps l ks)) a := by unfold qOp; simp only [h0]; exact h
    obtain ⟨v, hy, hK⟩ := yieldsIn_of_qOp h0 hq
    have := flow_lex hsel hQ w hC ks _ _ (fun k hk => hin k (List.mem_cons_of_mem _ hk)) (inv.set hr') hB' hf hK
    rw [List.length_cons, show ks.length + 1 + g = (ks.length + g) + 1 by omega]
    exact flow_first h0 (Region.noSelect_spec hsel) (fun c a w h => hQ c _ _ w h) (hin k (List.mem_cons_self ..)) _ listed a w inv (Region.free_spec h0 hfr) hr' (yields_if hy hp) hC this
theorem wp_region_flow {id : Nat} {l : List Oper} {a : Act} {w : World} (ks : List Nat) (C : World → Prop) (hm : P.follows .mixedOrders = true)
    (hB : (Region.noSelect l.toArray && lexF .any l.toArray ks (Array.replicate l.length false) && decide (ks.length ≤ l.length)) = true) (hC : C { w with drawn := w.drawn + 1 })
    (h : wpQuiet P l.toArray C (fun a' => anyF P .any l.toArray (Calm Q) C ks (l.length - ks.length) (listedOf l.length ks) a' { w with drawn := w.drawn + 1 }) (pickOps l ks) a) : (Code.region id l.toArray true).wp P Q a w := by
  refine Code.wp_mono Calm.imp ?_
  refine wp_region_any hm ?_
  simp only [Bool.and_eq_true, decide_eq_true_eq] at hB
  have inv0 : Shut .any l.toArray (Array.replicate l.length false) := ⟨by simp, fun j oj _ hl => (by rw [getD_replicate_false] at hl; cases hl)⟩
  have := flow_lex (P := P) (md := .any) (Q := Calm Q) (g := l.length - ks.length) hB.1.1 (fun c a a' w h => (h : False).elim) _ hC ks _ a (fun _ h => h) inv0 hB.1.2 (fun a' h' => h') h
  rw [show ks.length + (l.length - ks.length) = l.toArray.size by simp; omega] at this
  have h2 := any_of_flow _ _ _ _ this
  simpa using h2

theorem flow_op {l : List Oper} (i : Nat) {o : Oper} {a : Act} {w : World} {K : Act → World → Prop} (ho : l[i]? = some o) (h : wpList P l.toArray (FlowPost K Q) [o] a w) : wpOp P l.toArray (Calm Q) i K a w := by
  unfold wpOp
  simp only [List.getElem?_toArray, ho]
  unfold wpList at h
  split
  · rename_i hw
    rw [if_pos hw] at h
    rcases h with h | ⟨h1, h2⟩
    · exact .inl (Oper.wp_mono (fun a' w' h' => h') (wp_of_flow h))
    · exact .inr ⟨h1, Calm.letsOut h2⟩
  · rename_i hw
    rw [if_neg hw] at h
    exact h
/-- One alone may come up. -/
theorem flow_one {l : List Oper} {ks : List Nat} (i : Nat) {o : Oper} {f : Nat} {listed : Array Bool} {a : Act} {w : World} (hr : Region.ready md l.toArray listed = [i]) (ho : l[i]? = some o)
    (h : wpList P l.toArray (FlowPost (fun a' w' => C w' ∧ anyF P md l.toArray (Calm Q) C ks f (listed.setIfInBounds i true) a' w') Q) [o] a w) : anyF P md l.toArray (Calm Q) C ks (f + 1) listed a w := by
  refine ⟨fun h0 => (by rw [hr] at h0; cases h0), fun j hj => ?_⟩
  rw [hr] at hj
  obtain rfl : j = i := by simpa using hj
  exact wpOp_mono (fun a' w' h' => ⟨fun _ => h'.1, h'.2⟩) (flow_op _ ho h)
/-- One of two comes up. -/
theorem flow_two {l : List Oper} {ks : List Nat} (i j : Nat) {o o' : Oper} {f : Nat} {listed : Array Bool} {a : Act} {w : World} (hr : Region.ready md l.toArray listed = [i, j]) (ho : l[i]? = some o) (ho' : l[j]? = some o')
    (h1 : wpList P l.toArray (FlowPost (fun a' w' => C w' ∧ anyF P md l.toArray (Calm Q) C ks f (listed.setIfInBounds i true) a' w') Q) [o] a w)
    (h2 : wpList P l.toArray (FlowPost (fun a' w' => C w' ∧ anyF P md l.toArray (Calm Q) C ks f (listed.setIfInBounds j true) a' w') Q) [o'] a w) : anyF P md l.toArray (Calm Q) C ks (f + 1) listed a w := by
  refine ⟨fun h0 => (by rw [hr] at h0; cases h0), fun k hk => ?_⟩
  rw [hr] at hk
  simp only [List.mem_cons, List.not_mem_nil, or_false] at hk
  rcases hk with rfl | rfl
  · exact wpOp_mono (fun a' w' h' => ⟨fun _ => h'.1, h'.2⟩) (flow_op _ ho h1)
  · exact wpOp_mono (fun a' w' h' => ⟨fun _ => h'.1, h'.2⟩) (flow_op _ ho' h2)
/-- What is left comes in one order, behind all of ks. -/
theorem flow_seq {l : List Oper} {ks : List Nat} {Qc : Exit → Act → World → Prop} : ∀ (ts : List Nat) (f : Nat) (listed : Array Bool) (a : Act) (w : World), ts.length ≤ f → (ts.all fun t => !needB md l.toArray ks t) = true → seqL md l.toArray ts listed = true → wpList P l.toArray Qc (pickOps l ts) a w → anyF P md l.toArray Qc C ks f listed a w
  | [], f, listed, a, w, _, _, hs, h => by
    have hr : Region.ready md l.toArray listed = [] := by simpa [seqL] using hs
    have hQ : Qc .normal a w := h
    cases f with
    | zero => exact ⟨hr, hQ⟩
    | succ f => exact ⟨fun _ => hQ, by rw [hr]; simp⟩
  | t :: ts, f, listed, a, w, hl, hn, hs, h => by
    simp only [seqL, Bool.and_eq_true, decide_eq_true_eq] at hs
    obtain ⟨f, rfl⟩ : ∃ f', f = f' + 1 := ⟨f - 1, by simp at hl; omega⟩
    refine ⟨fun h0 => (by rw [hs.1] at h0; cases h0), fun j hj => ?_⟩
    have hjr := hj
    rw [hs.1] at hj
    obtain rfl : j = t := by simpa using hj
    obtain ⟨_, o, h0, _⟩ := mem_ready.1 hjr
    have h0' : l[j]? = some o := by simpa using h0
    rw [pickOps, h0'] at h
    simp only [List.all_cons, Bool.and_eq_true] at hn
    have hw : wpOp P l.toArray Qc j (wpList P l.toArray Qc (pickOps l ts)) a w := by unfold wpOp; simp only [h0]; exact h
    refine wpOp_mono (fun a' w' h' => ⟨fun e => ?_, flow_seq ts f _ a' w' (by simp at hl; omega) hn.2 hs.2 h'⟩) hw
    rw [e] at hn
    exact absurd hn.1 (by simp)
theorem flow_rest {l : List Oper} {ks : List Nat} (ts : List Nat) {f : Nat} {listed : Array Bool} {a : Act} {w : World} (hB : (decide (ts.length ≤ f) && (ts.all fun t => !needB md l.toArray ks t) && seqL md l.toArray ts listed) = true)
    (h : wpList P l.toArray (Exit.then (fun a w => Q .normal a w) (Calm Q)) (pickOps l ts) a w) : anyF P md l.toArray (Calm Q) C ks f listed a w := by
  simp only [Bool.and_eq_true, decide_eq_true_eq] at hB
  refine flow_seq ts f listed a w hB.1.1 hB.1.2 hB.2 ?_
  have e : Exit.then (fun a w => Q .normal a w) (Calm Q) = Calm Q := by
    funext e a w
    cases e <;> rfl
  rw [e] at h
  exact h
end

open Classical in
/-- Another world, whose blocks of D are as w has them. -/
noncomputable def Alt (w : World) (D : List Nat) : Option World → World
  | none => w
  | some q => if (∀ b ∈ D, q.heap[b]? = w.heap[b]?) then q else w
theorem alt_heap (w : World) {D : List Nat} (q : Option World) {b : Nat} (h : b ∈ D) : (Alt w D q).heap[b]? = w.heap[b]? := by
  cases q with
  | none => rfl
  | some q =>
    simp only [Alt]
    by_cases hq : ∀ b ∈ D, q.heap[b]? = w.heap[b]?
    · rw [if_pos hq]; exact hq b h
    · rw [if_neg hq]
theorem cell?_alt {w : World} {D : List Nat} {q : Option World} {a : Addr} (h : a.block ∈ D) : (Alt w D q).cell? a = w.cell? a := World.cell?_of_block (alt_heap w q h)
/-- The blocks of D are as w has them. -/
def AltC (w : World) (D : List Nat) (w' : World) : Prop := ∃ q, w' = Alt w D q
theorem altC_of {w w' : World} {D : List Nat} (h : ∀ b ∈ D, w'.heap[b]? = w.heap[b]?) : AltC w D w' := ⟨some w', by simp only [Alt]; rw [if_pos h]⟩
theorem altC_drew (w : World) (D : List Nat) : AltC w D { w with drawn := w.drawn + 1 } := altC_of fun _ _ => rfl
theorem altC_frame {S : Nat → Prop} {w w' : World} {D : List Nat} (h : Frame' S w w') (hD : ∀ b ∈ D, b < w.heap.size ∧ ¬ S b) : AltC w D w' := altC_of fun b hb => h.block b (hD b hb).1 (hD b hb).2
theorem altC_below {w w' : World} {D : List Nat} (h : Below w.heap.size w w') (hD : ∀ b ∈ D, b < w.heap.size) : AltC w D w' := altC_of fun b hb => h.block b (hD b hb)
end Go.Proofs.YtolbceckbnifmaaGreat

namespace Go.Proofs.YtolbceckbnifmaaGreat
open Go.RowKit Go.Proofs

theorem infoRnd : (Tryz.prog.info? 65).map (fun i => (i.zero, i.size, i.bytes)) = some (some (.agg #[.slice none 0 0, .bool false, .slice none 0 0, .slice none 0 0, .slice none 0 0, .slice none 0 0]), 6, 128) := by kernel_rfl
/-- What appending and storing leaves. -/
structure AppPost {α : Type} (E : World → List Value → α → Prop) (e : TypeId) (size : Nat) (W : World) (g i : Nat) (t : TypeId) (C : Array Value) (B : Nat) (rn v' : Value) (l : List α) (fr : Nat → Prop) (w' : World) : Prop where
  hg : Has w' g t C
  put : Has (w'.setCell ⟨g, i, none⟩ v') g t (C.setIfInBounds i v')
  own : OAgg E e size fr (w'.setCell ⟨g, i, none⟩ v') B v' l
  fr1 : Frame' (fun b => rn.ownBlock = some b) W w'
  fr2 : Frame' (fun b => b = g ∨ rn.ownBlock = some b) W (w'.setCell ⟨g, i, none⟩ v')
  blk : v'.ownBlock = rn.ownBlock ∨ ∃ b, v'.ownBlock = some b ∧ W.heap.size ≤ b
theorem app_put {α : Type} {E : World → List Value → α → Prop} {e : TypeId} {size : Nat} {tS : TypeId} {z : Value} {bytes : Nat} (hinfo : (Tryz.prog.info? e).map (fun i => (i.zero, i.size, i.bytes)) = some (some z, size, bytes)) (htS : Tryz.prog.underlying tS = some (.slice e)) (hzs : z.cells.size = size) (hsz : 0 < size) (hby : bytes ≤ 1000)
    {W : World} {g : Nat} (i : Nat) {t : TypeId} {C : Array Value} {B : Nat} {rn : Value} {l : List α} {fr fx : Nat → Prop} {us : List Value} {x : α} (hg : Has W g t C) (hO : OAgg E e size fr W B rn l) (hx : On fx W fun W' => E W' us x) (h6 : us.length = size) (h1 : ∀ u ∈ us, u.oneCell' = true)
    (hfx : ∀ b, rn.ownBlock = some b → ¬ fx b) (g1 : ¬ fr g) (g2 : ¬ fx g) (g3 : rn.ownBlock ≠ some g) (hs : B ≤ W.heap.size) (hn : l.length ≤ 1000) :
    ∃ v' w', (Builtin.append_ #[tS, tS] tS #[rn, .slice (some ⟨W.heap.size, 0, none⟩) 1 1]).run Tryz.prog (W.alloc (.cells us.toArray e)).drew = .ok v' w' ∧ AppPost E e size W g i t C B rn v' (l ++ [x]) (fun b => fr b ∨ fx b) w' := by
  have hb : Below W.heap.size W (W.alloc (.cells us.toArray e)).drew := ((Below.refl _ _).alloc (Nat.le_refl _) _).drew
  have hN : Has (W.alloc (.cells us.toArray e)).drew W.heap.size e us.toArray := (Has.new W e us.toArray).drew
  obtain ⟨v', w', k1, k2, k3, k4⟩ := run_appAgg hinfo htS hzs hsz hby tS (hO.below hb) (fun j u hj => by rw [hN.cell j]; simpa using hj) h6 h1 (hx.below hb) hfx (by omega) (by have := hb.size; omega)
  have hg1 : Has w' g t C := (k3.block g (hg.below hb hg.lt).lt (fun e => g3 e.symm)).trans (hg.below hb hg.lt)
  have hvg : v'.ownBlock ≠ some g := by
    rcases k4 with h | h
    · rw [h]; exact g3
    · rw [h]; intro e; have e' := Option.some.inj e; have h1 := hg.lt; have h2 := hb.size; omega
  have f1 : Frame' (fun b => rn.ownBlock = some b) W w' := (Frame'.of_below hb).trans ((Frame'.of_grown k3).mono fun k _ h => h.symm)
  have f2 : Frame' (fun b => b = g) w' (w'.setCell ⟨g, i, none⟩ v') := Frame'.setCell (p := ⟨g, i, none⟩) (Frame'.refl (fun b => b = g) w') (.inl rfl) _
  refine ⟨v', w', k1, hg1, hg1.put i v', k2.frame f2 (fun b hb e => ?_) (fun b hb e => hvg (by rw [hb, e])), f1, (f1.mono fun k _ h => .inr h).trans (f2.mono fun k _ h => .inl h), k4.imp id fun h => ⟨_, h, hb.size⟩⟩
  subst e
  exact hb.elim g1 g2

/-- A round's six cells, and the blocks that they speak of. -/
def fpR (fp : Nat → Prop) (An : Option Addr) (nn : Nat) (Ad : Option Addr) (nd : Nat) (A4 : Option Addr) (n4 : Nat) (A5 : Option Addr) (n5 : Nat) (v : Value) (b : Nat) : Prop := ((fp b ∨ v.ownBlock = some b) ∨ fpS An nn b ∨ fpS Ad nd b) ∨ fpS A4 n4 b ∨ fpS A5 n5 b
theorem rnd_on {W : World} {fp : Nat → Prop} {B : Nat} {A : Option Addr} {n c : Nat} {had : List Int} {An : Option Addr} {nn cn : Nat} {Ad : Option Addr} {nd cd : Nat} {lost : Int} {A4 : Option Addr} {n4 c4 : Nat} {el : List Int} {A5 : Option Addr} {n5 c5 : Nat} {out : List Int}
    (hO : OAgg ERat 63 3 fp W B (.slice A n c) (had.map wholeS)) (hn : RWrds W An nn cn (lm lost)) (hd : RWrds W Ad nd cd [1]) (h4 : RInts W A4 n4 c4 el) (h5 : RInts W A5 n5 c5 out) :
    On (fpR fp An nn Ad nd A4 n4 A5 n5 (.slice A n c)) W fun W' => ERnd W' [.slice A n c, .bool false, .slice An nn cn, .slice Ad nd cd, .slice A4 n4 c4, .slice A5 n5 c5] (rndS had lost el out) :=
  ((hO.on.and (rat_on hn hd)).and (h4.on.and h5.on)).imp fun _ hW => ⟨A, n, c, .bool false, .slice An nn cn, .slice Ad nd cd, A4, n4, c4, A5, n5, c5, rfl, hW.1.1, hW.1.2, hW.2.1, hW.2.2⟩
theorem fpS_none (n : Nat) (b : Nat) : ¬ fpS none n b := fun h => by obtain ⟨_, _, e⟩ := h; cases e
theorem fpS_some {g n b : Nat} (h : fpS (some ⟨g, 0, none⟩) n b) : b = g := by obtain ⟨_, _, e⟩ := h; cases e; rfl
/-- An outcome's three slices in memory. -/
def ROut (w : World) (Ae : Option Addr) (ne ce : Nat) (Ar : Option Addr) (nr cr : Nat) (Av : Option Addr) (nv cv : Nat) (o : Outc) : Prop := RInts w Ae ne ce o.1 ∧ RAgg ERnd 6 w Ar nr cr o.2.1 ∧ RAgg ETie 2 w Av nv cv o.2.2
theorem ROut.below {w w' : World} {Ae : Option Addr} {ne ce : Nat} {Ar : Option Addr} {nr cr : Nat} {Av : Option Addr} {nv cv : Nat} {o : Outc} (h : ROut w Ae ne ce Ar nr cr Av nv cv o) (hb : Below w.heap.size w w') : ROut w' Ae ne ce Ar nr cr Av nv cv o :=
  ⟨h.1.below hb, h.2.1.below below_rnd hb, h.2.2.below below_tie hb⟩
theorem ROut.nil_ (w : World) : ROut w none 0 0 none 0 0 none 0 0 ([], [], []) := ⟨RInts.nil_ _, RAgg.nil_ _ _ _, RAgg.nil_ _ _ _⟩
end Go.Proofs.YtolbceckbnifmaaGreat
