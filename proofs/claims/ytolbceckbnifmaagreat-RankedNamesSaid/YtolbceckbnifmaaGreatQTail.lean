/-
  Regions that draw their order: a head whose operations read, or call what only makes memory, ahead of a tail in one forced order. No program is named here.
-/
import Derived.Test.YtolbceckbnifmaaGreatMem
import Derived.StillTail
import Derived.Deep.Quiet
namespace Go.Proofs.YtolbceckbnifmaaGreat
open Go.RowKit

section
variable {P : Program} {ops : Array Oper} {md : Region.Mode} {C : World → Prop}

/-- f operations of the first n are still to come, in whatever order; behind them L. -/
def anyHead (P : Program) (md : Region.Mode) (ops : Array Oper) (C : World → Prop) (n : Nat) (L : Array Bool → Act → Prop) : Nat → Array Bool → Act → Prop
  | 0, listed, a => L listed a
  | f + 1, listed, a => Region.ready md ops listed ≠ [] ∧ ∀ i ∈ Region.ready md ops listed, i < n ∧ qOp P ops C i (anyHead P md ops C n L f (listed.setIfInBounds i true)) a

theorem any_of_head {n g : Nat} {L : Array Bool → Act → Prop} {Q' : Exit → Act → World → Prop} (hL : ∀ listed a w, C w → L listed a → wpAny P md ops Q' g listed a w) (f : Nat) :
    ∀ (listed : Array Bool) (a : Act) (w : World), C w → anyHead P md ops C n L f listed a → wpAny P md ops Q' (f + g) listed a w := by
  induction f with
  | zero => intro listed a w hw h; rw [Nat.zero_add]; exact hL _ _ _ hw h
  | succ f ih =>
    intro listed a w hw h
    rw [show f + 1 + g = (f + g) + 1 by omega]
    exact ⟨fun h0 => absurd h0 h.1, fun i hi => wpOp_of_qOp hw (fun a' w' hw' h' => ih _ a' w' hw' h') (h.2 i hi).2⟩

/-- One that may come up now may be taken first. -/
theorem head_first {n i : Nat} {oi : Oper} {v : Value} {L : Array Bool → Act → Prop} (hi : ops[i]? = some oi) (hsel : ∀ (j : Nat) (o : Oper) cs b, ops[j]? = some o → o.op ≠ .select cs b)
    (hs : Region.sinkB md ops n = true) (hc : Region.chainB md ops n = true) (hn : n < ops.size) (hin : i < n) (hdone : ∀ listed a, L listed a → ∀ j ∈ Region.ready md ops listed, n ≤ j) (f : Nat) :
    ∀ (listed : Array Bool) (a : Act), HeadInv md ops n listed →
      (∀ j oj, ops[j]? = some oj → j ≠ i → listed.getD j true = false → (∀ e ∈ oj.after, Region.binds md e = true → e.on ≠ i) → oi.apart ops oj = true) →
      i ∈ Region.ready md ops listed → YieldsIn P ops C oi v a →
      anyHead P md ops C n L f (listed.setIfInBounds i true) (a.put oi.dst v) → anyHead P md ops C n L (f + 1) listed a := by
  induction f with
  | zero =>
    intro listed a inv _ hr hy H
    refine ⟨fun h => (by rw [h] at hr; cases hr), fun j hj => ?_⟩
    have hjn : j < n := by
      apply Decidable.byContradiction
      intro hge
      exact tail_waits hs hc hn inv _ i rfl hin (mem_ready.1 hr).1 j (Nat.le_of_not_lt hge) hj
    refine ⟨hjn, ?_⟩
    by_cases hji : j = i
    · rw [hji]; exact hy.qOp hi H
    · exact absurd (hdone _ _ H j (ready_mono hj hji)) (Nat.not_le_of_lt hjn)
  | succ f ih =>
    intro listed a inv hfree hr hy H
    refine ⟨fun h => (by rw [h] at hr; cases hr), fun j hj => ?_⟩
    have hjn : j < n := by
      apply Decidable.byContradiction
      intro hge
      exact tail_waits hs hc hn inv _ i rfl hin (mem_ready.1 hr).1 j (Nat.le_of_not_lt hge) hj
    refine ⟨hjn, ?_⟩
    by_cases hji : j = i
    · rw [hji]; exact hy.qOp hi H
    · obtain ⟨hjun, oj, hoj, hall⟩ := mem_ready.1 hj
      have hiun := (mem_ready.1 hr).1
      have hlt : i < listed.size := by rw [inv.size]; exact (Array.getElem?_eq_some_iff.1 hi).1
      have hnot : ∀ e ∈ oj.after, Region.binds md e = true → e.on ≠ i := fun e he hb heq => by
        have h1 := hall e he hb
        rw [heq, getD_both hiun] at h1
        cases h1
      have step := qOp_put hoj (hfree j oj hoj hji hjun hnot) (fun cs b => hsel i oi cs b hi) (fun cs b => hsel j oj cs b hoj) hy (H.2 j (ready_mono hj hji)).2
      refine qOp_mono (fun a' h3 => ih (listed.setIfInBounds j true) a' (inv.set hj hjn) (fun k ok hk hki hun hno => hfree k ok hk hki ?_ hno) (ready_mono hr (Ne.symm hji)) h3.1 ?_) step
      · by_cases hjk : j = k
        · rw [← hjk]; exact hjun
        · rwa [getD_set_ne true hjk] at hun
      · rw [Array.setIfInBounds_comm _ _ hji]
        exact h3.2

theorem head_lex {n g : Nat} {Lq : Act → Prop} (hsel : Region.noSelect ops = true) (hs : Region.sinkB md ops n = true) (hc : Region.chainB md ops n = true) (hn : n < ops.size) (l : List Oper) :
    ∀ (k : Nat) (listed : Array Bool) (a : Act), (∀ j, j < l.length → l[j]? = ops[k + j]?) → k + l.length = n → HeadInv md ops n listed → Region.lexHead md ops g l.length k listed = true → wpQuiet P ops C Lq l a →
    anyHead P md ops C n (fun listed' a' => Region.seqB md ops g n listed' = true ∧ Lq a') l.length listed a := by
  induction l with
  | nil =>
    intro k listed a _ hk _ hB h
    obtain rfl : k = n := by simpa using hk
    exact ⟨by simpa [Region.lexHead] using hB, h⟩
  | cons o l ih =>
    intro k listed a hl hk inv hB h
    have h0 : ops[k]? = some o := by simpa using (hl 0 (by simp)).symm
    simp only [List.length_cons, Region.lexHead, Bool.and_eq_true] at hB
    obtain ⟨⟨hr, hf⟩, hB'⟩ := hB
    have hkn : k < n := by rw [List.length_cons] at hk; omega
    have hr' : k ∈ Region.ready md ops listed := by simpa using hr
    have hq : qOp P ops C k (wpQuiet P ops C Lq l) a := by unfold qOp; simp only [h0]; exact h
    obtain ⟨v, hy, hK⟩ := yieldsIn_of_qOp h0 hq
    refine head_first h0 (Region.noSelect_spec hsel) hs hc hn hkn (fun listed' a' hL => seqB_ready hL.1) l.length listed a inv (Region.free_spec h0 hf) hr' hy ?_
    refine ih (k + 1) _ _ (fun j hj => ?_) (by rw [List.length_cons] at hk; omega) (inv.set hr' hkn) hB' hK
    have := hl (j + 1) (by simp; omega)
    simpa [Nat.add_assoc, Nat.add_comm 1 j] using this
end

/-- The first n operations in the order of the text, quietly; then the tail, in its one order, from every world that they may leave. -/
theorem wp_region_quiet_tail {P : Program} {C : World → Prop} {id : Nat} {Q : Exit → Act → World → Prop} {a : Act} {w : World} {l : List Oper} (n : Nat) (hm : P.follows .mixedOrders = true) (hB : Region.lexTailB .any l.toArray n = true) (hC : C { w with drawn := w.drawn + 1 })
    (h : wpQuiet P l.toArray C (fun a' => ∀ w', C w' → wpList P l.toArray Q (l.drop n) a' w') (l.take n) a) : (Code.region id l.toArray true).wp P Q a w := by
  simp only [Region.lexTailB, Bool.and_eq_true, decide_eq_true_eq] at hB
  obtain ⟨⟨⟨⟨hsel, hn⟩, hs⟩, hc⟩, hlex⟩ := hB
  have hn' : n < l.length := by simpa using hn
  have htl : (l.take n).length = n := by simp; omega
  have hdl : (l.drop n).length = l.toArray.size - n := by simp
  have inv0 : HeadInv .any l.toArray n (Array.replicate l.toArray.size false) :=
    ⟨by simp, fun j oj _ hl => (by rw [getD_replicate_false] at hl; cases hl), fun t _ ht => getD_in (by simpa using ht) (getD_replicate_false _ _)⟩
  have H := head_lex (P := P) (C := C) (md := .any) (g := l.toArray.size - n) hsel hs hc hn (l.take n) 0 _ a (fun j hj => by
    rw [htl] at hj
    simp [hj]) (by simpa using htl) inv0 (by rw [htl]; exact hlex) h
  refine wp_region_any hm ?_
  have := any_of_head (Q' := Q) (g := l.toArray.size - n) (fun listed a' w' hw hL => by
    have := wpAny_of_seq (md := .any) (Q' := Q) (l.drop n) n listed a' w' (fun j => by simp [List.getElem?_drop]) (by rw [hdl]; exact hL.1) (hL.2 w' hw)
    rwa [hdl] at this) _ _ _ _ hC H
  rw [htl, show n + (l.toArray.size - n) = l.toArray.size by omega] at this
  exact this
/-- The same, where the head only reads old memory and its callees only make new memory. -/
theorem wp_region_more_tail {P : Program} {id : Nat} {Q : Exit → Act → World → Prop} {a : Act} {w : World} {l : List Oper} (n : Nat) (hm : P.follows .mixedOrders = true) (hB : Region.lexTailB .any l.toArray n = true)
    (h : wpQuiet P l.toArray (fun w' => ∃ q, w' = More w q) (fun a' => ∀ w', (∃ q, w' = More w q) → wpList P l.toArray Q (l.drop n) a' w') (l.take n) a) : (Code.region id l.toArray true).wp P Q a w :=
  wp_region_quiet_tail (C := fun w' => ∃ q, w' = More w q) n hm hB ⟨⟨[], w.drawn + 1⟩, by simp [More]⟩ h

section
variable {P : Program} {ops : Array Oper} {md : Region.Mode} {C : World → Prop}
/-- Operation t waits for i, through others too. -/
def awaits (md : Region.Mode) (ops : Array Oper) : Nat → Nat → Nat → Bool
  | 0, _, _ => false
  | f + 1, t, i => match ops[t]? with
    | some o => o.after.any fun e => Region.binds md e && (e.on == i || awaits md ops f e.on i)
    | none => false
/-- What is listed is closed under waiting. -/
structure Shut (md : Region.Mode) (ops : Array Oper) (listed : Array Bool) : Prop where
  size : listed.size = ops.size
  closed : ∀ j oj, ops[j]? = some oj → listed.getD j false = true → ∀ e ∈ oj.after, Region.binds md e = true → listed.getD e.on false = true
theorem Shut.set {i : Nat} {listed : Array Bool} (inv : Shut md ops listed) (hi : i ∈ Region.ready md ops listed) : Shut md ops (listed.setIfInBounds i true) := by
  obtain ⟨_, oi, hoi, hall⟩ := mem_ready.1 hi
  refine ⟨by simp [inv.size], fun j oj hj hl e he hb => ?_⟩
  by_cases hij : i = j
  · subst hij
    have : oj = oi := Option.some.inj (hj.symm.trans hoi)
    subst this
    exact getD_set_true (hall e he hb)
  · rw [getD_set_ne false hij] at hl
    exact getD_set_true (inv.closed j oj hj hl e he hb)
theorem Shut.awaits {listed : Array Bool} (inv : Shut md ops listed) {i : Nat} : ∀ (f t : Nat), awaits md ops f t i = true → (∀ o, ops[t]? = some o → ∀ e ∈ o.after, Region.binds md e = true → listed.getD e.on false = true) → listed.getD i false = true := by
  intro f
  induction f with
  | zero => intro t h; cases h
  | succ f ih =>
    intro t h hall
    unfold Proofs.YtolbceckbnifmaaGreat.awaits at h
    split at h
    · rename_i o ho
      obtain ⟨e, he, hb⟩ := Array.any_eq_true'.1 h
      simp only [Bool.and_eq_true, Bool.or_eq_true, beq_iff_eq] at hb
      obtain ⟨hb1, hb2⟩ := hb
      have h1 := hall o ho e he hb1
      rcases hb2 with h2 | h2
      · rw [← h2]; exact h1
      · exact ih e.on h2 fun o' ho' e' he' hb' => inv.closed e.on o' ho' h1 e' he' hb'
    · cases h
/-- As long as one of the head is to come, none of the tail comes up. -/
theorem late_waits {ks : List Nat} (hs : (ks.all fun i => (List.range ops.size).all fun t => ks.contains t || awaits md ops ops.size t i) = true) {listed : Array Bool} (inv : Shut md ops listed) {i : Nat} (hi : i ∈ ks) (hun : listed.getD i true = false) {t : Nat} (ht : t ∈ Region.ready md ops listed) : t ∈ ks := by
  obtain ⟨_, ot, hot, hall⟩ := mem_ready.1 ht
  have htlt : t < ops.size := (Array.getElem?_eq_some_iff.1 hot).1
  have h1 := List.all_eq_true.1 (List.all_eq_true.1 hs i hi) t (List.mem_range.2 htlt)
  simp only [Bool.or_eq_true] at h1
  rcases h1 with h1 | h1
  · simpa using h1
  · exfalso
    have h2 := inv.awaits _ _ h1 (fun o ho e he hb => by
      have : o = ot := Option.some.inj (ho.symm.trans hot)
      subst this
      exact hall e he hb)
    rw [getD_both hun] at h2
    cases h2

def anyPick (P : Program) (md : Region.Mode) (ops : Array Oper) (C : World → Prop) (ks : List Nat) (L : Array Bool → Act → Prop) : Nat → Array Bool → Act → Prop
  | 0, listed, a => L listed a
  | f + 1, listed, a => Region.ready md ops listed ≠ [] ∧ ∀ i ∈ Region.ready md ops listed, i ∈ ks ∧ qOp P ops C i (anyPick P md ops C ks L f (listed.setIfInBounds i true)) a
theorem any_of_pick {ks : List Nat} {g : Nat} {L : Array Bool → Act → Prop} {Q' : Exit → Act → World → Prop} (hL : ∀ listed a w, C w → L listed a → wpAny P md ops Q' g listed a w) (f : Nat) :
    ∀ (listed : Array Bool) (a : Act) (w : World), C w → anyPick P md ops C ks L f listed a → wpAny P md ops Q' (f + g) listed a w := by
  induction f with
  | zero => intro listed a w hw h; rw [Nat.zero_add]; exact hL _ _ _ hw h
  | succ f ih =>
    intro listed a w hw h
    rw [show f + 1 + g = (f + g) + 1 by omega]
    exact ⟨fun h0 => absurd h0 h.1, fun i hi => wpOp_of_qOp hw (fun a' w' hw' h' => ih _ a' w' hw' h') (h.2 i hi).2⟩
theorem pick_first {ks : List Nat} {i : Nat} {oi : Oper} {v : Value} {L : Array Bool → Act → Prop} (hi : ops[i]? = some oi) (hsel : ∀ (j : Nat) (o : Oper) cs b, ops[j]? = some o → o.op ≠ .select cs b)
    (hs : (ks.all fun i => (List.range ops.size).all fun t => ks.contains t || awaits md ops ops.size t i) = true) (hin : i ∈ ks) (hdone : ∀ listed a, L listed a → ∀ j ∈ Region.ready md ops listed, j ∉ ks) (f : Nat) :
    ∀ (listed : Array Bool) (a : Act), Shut md ops listed →
      (∀ j oj, ops[j]? = some oj → j ≠ i → listed.getD j true = false → (∀ e ∈ oj.after, Region.binds md e = true → e.on ≠ i) → oi.apart ops oj = true) →
      i ∈ Region.ready md ops listed → YieldsIn P ops C oi v a →
      anyPick P md ops C ks L f (listed.setIfInBounds i true) (a.put oi.dst v) → anyPick P md ops C ks L (f + 1) listed a := by
  induction f with
  | zero =>
    intro listed a inv _ hr hy H
    refine ⟨fun h => (by rw [h] at hr; cases hr), fun j hj => ?_⟩
    have hjn := late_waits hs inv hin (mem_ready.1 hr).1 hj
    refine ⟨hjn, ?_⟩
    by_cases hji : j = i
    · rw [hji]; exact hy.qOp hi H
    · exact absurd hjn (hdone _ _ H j (ready_mono hj hji))
  | succ f ih =>
    intro listed a inv hfree hr hy H
    refine ⟨fun h => (by rw [h] at hr; cases hr), fun j hj => ?_⟩
    have hjn := late_waits hs inv hin (mem_ready.1 hr).1 hj
    refine ⟨hjn, ?_⟩
    by_cases hji : j = i
    · rw [hji]; exact hy.qOp hi H
    · obtain ⟨hjun, oj, hoj, hall⟩ := mem_ready.1 hj
      have hiun := (mem_ready.1 hr).1
      have hnot : ∀ e ∈ oj.after, Region.binds md e = true → e.on ≠ i := fun e he hb heq => by
        have h1 := hall e he hb
        rw [heq, getD_both hiun] at h1
        cases h1
      have step := qOp_put hoj (hfree j oj hoj hji hjun hnot) (fun cs b => hsel i oi cs b hi) (fun cs b => hsel j oj cs b hoj) hy (H.2 j (ready_mono hj hji)).2
      refine qOp_mono (fun a' h3 => ih (listed.setIfInBounds j true) a' (inv.set hj) (fun k ok hk hki hun hno => hfree k ok hk hki ?_ hno) (ready_mono hr (Ne.symm hji)) h3.1 ?_) step
      · by_cases hjk : j = k
        · rw [← hjk]; exact hjun
        · rwa [getD_set_ne true hjk] at hun
      · rw [Array.setIfInBounds_comm _ _ hji]
        exact h3.2

/-- The tail's one order. -/
def seqL (md : Region.Mode) (ops : Array Oper) : List Nat → Array Bool → Bool
  | [], listed => (Region.ready md ops listed).isEmpty
  | k :: ts, listed => decide (Region.ready md ops listed = [k]) && seqL md ops ts (listed.setIfInBounds k true)
/-- The head may come in this order, each apart from what it passes; then the tail. -/
def lexL (md : Region.Mode) (ops : Array Oper) (ts : List Nat) : List Nat → Array Bool → Bool
  | [], listed => seqL md ops ts listed
  | k :: ks, listed => (Region.ready md ops listed).contains k && Region.free md ops listed k && lexL md ops ts ks (listed.setIfInBounds k true)
def pickB (md : Region.Mode) (ops : Array Oper) (ks ts : List Nat) : Bool :=
  Region.noSelect ops && (ks.all fun i => (List.range ops.size).all fun t => ks.contains t || awaits md ops ops.size t i) && (ts.all fun t => !ks.contains t) && decide (ks.length + ts.length = ops.size) && lexL md ops ts ks (Array.replicate ops.size false)
/-- The operations with these numbers. -/
def pickOps : List Oper → List Nat → List Oper
  | _, [] => []
  | l, k :: ks => match l[k]? with
    | some o => o :: pickOps l ks
    | none => pickOps l ks

theorem any_of_seqL {l : List Oper} {Q' : Exit → Act → World → Prop} : ∀ (ts : List Nat) (listed : Array Bool) (a : Act) (w : World), seqL md l.toArray ts listed = true → wpList P l.toArray Q' (pickOps l ts) a w → wpAny P md l.toArray Q' ts.length listed a w
  | [], _, _, _, hB, h => ⟨by simpa [seqL] using hB, h⟩
  | k :: ts, listed, a, w, hB, h => by
    simp only [seqL, Bool.and_eq_true, decide_eq_true_eq] at hB
    refine ⟨fun h1 => (by rw [hB.1] at h1; cases h1), fun i hi => ?_⟩
    have hr := hi
    rw [hB.1] at hi
    have hik : i = k := by simpa using hi
    subst hik
    obtain ⟨_, o, ho, _⟩ := mem_ready.1 hr
    have ho' : l[i]? = some o := by simpa using ho
    rw [pickOps, ho'] at h
    have hw : wpOp P l.toArray Q' i (wpList P l.toArray Q' (pickOps l ts)) a w := by unfold wpOp; simp only [ho]; exact h
    exact wpOp_mono (fun a' w' h' => any_of_seqL ts _ a' w' hB.2 h') hw
theorem seqL_ready {ks ts : List Nat} (hts : (ts.all fun t => !ks.contains t) = true) {listed : Array Bool} (h : seqL md ops ts listed = true) : ∀ j ∈ Region.ready md ops listed, j ∉ ks := by
  cases ts with
  | nil => intro j hj; simp only [seqL, List.isEmpty_iff] at h; rw [h] at hj; cases hj
  | cons k ts =>
    intro j hj
    simp only [seqL, Bool.and_eq_true, decide_eq_true_eq] at h
    rw [h.1] at hj
    have : j = k := by simpa using hj
    subst this
    have := List.all_eq_true.1 hts j (List.mem_cons_self ..)
    simpa using this

theorem pick_lex {l : List Oper} {ks ts : List Nat} {Lq : Act → Prop} (hsel : Region.noSelect l.toArray = true) (hs : (ks.all fun i => (List.range l.toArray.size).all fun t => ks.contains t || awaits md l.toArray l.toArray.size t i) = true) (hts : (ts.all fun t => !ks.contains t) = true) :
    ∀ (rs : List Nat) (listed : Array Bool) (a : Act), (∀ k ∈ rs, k ∈ ks) → Shut md l.toArray listed → lexL md l.toArray ts rs listed = true → wpQuiet P l.toArray C Lq (pickOps l rs) a →
    anyPick P md l.toArray C ks (fun listed' a' => seqL md l.toArray ts listed' = true ∧ Lq a') rs.length listed a
  | [], listed, a, _, inv, hB, h => ⟨by simpa [lexL] using hB, h⟩
  | k :: rs, listed, a, hsub, inv, hB, h => by
    simp only [lexL, Bool.and_eq_true] at hB
    obtain ⟨⟨hr, hf⟩, hB'⟩ := hB
    have hr' : k ∈ Region.ready md l.toArray listed := by simpa using hr
    obtain ⟨_, o, h0, _⟩ := mem_ready.1 hr'
    have h0' : l[k]? = some o := by simpa using h0
    rw [pickOps, h0'] at h
    have hq : qOp P l.toArray C k (wpQuiet P l.toArray C Lq (pickOps l rs)) a := by unfold qOp; simp only [h0]; exact h
    obtain ⟨v, hy, hK⟩ := yieldsIn_of_qOp h0 hq
    exact pick_first h0 (Region.noSelect_spec hsel) hs (hsub k (List.mem_cons_self ..)) (fun listed' a' hL => seqL_ready hts hL.1) rs.length listed a inv (Region.free_spec h0 hf) hr' hy
      (pick_lex hsel hs hts rs _ _ (fun j hj => hsub j (List.mem_cons_of_mem _ hj)) (inv.set hr') hB' hK)
end
/-- The operations ks in that order, quietly; then ts, in their one order, from every world that the head may leave. -/
theorem wp_region_quiet_pick {P : Program} {C : World → Prop} {id : Nat} {Q : Exit → Act → World → Prop} {a : Act} {w : World} {l : List Oper} (ks ts : List Nat) (hm : P.follows .mixedOrders = true) (hB : pickB .any l.toArray ks ts = true) (hC : C { w with drawn := w.drawn + 1 })
    (h : wpQuiet P l.toArray C (fun a' => ∀ w', C w' → wpList P l.toArray Q (pickOps l ts) a' w') (pickOps l ks) a) : (Code.region id l.toArray true).wp P Q a w := by
  simp only [pickB, Bool.and_eq_true, decide_eq_true_eq] at hB
  obtain ⟨⟨⟨⟨hsel, hs⟩, hts⟩, hlen⟩, hlex⟩ := hB
  have inv0 : Shut .any l.toArray (Array.replicate l.toArray.size false) := ⟨by simp, fun j oj _ hl => (by rw [getD_replicate_false] at hl; cases hl)⟩
  have H := pick_lex (P := P) (C := C) (md := .any) hsel hs hts ks _ a (fun _ h => h) inv0 hlex h
  refine wp_region_any hm ?_
  have := any_of_pick (Q' := Q) (g := ts.length) (fun listed a' w' hw hL => any_of_seqL (md := .any) (Q' := Q) ts listed a' w' hL.1 (hL.2 w' hw)) _ _ _ _ hC H
  rw [hlen] at this
  exact this
theorem wp_region_more_pick {P : Program} {id : Nat} {Q : Exit → Act → World → Prop} {a : Act} {w : World} {l : List Oper} (ks ts : List Nat) (hm : P.follows .mixedOrders = true) (hB : pickB .any l.toArray ks ts = true)
    (h : wpQuiet P l.toArray (fun w' => ∃ q, w' = More w q) (fun a' => ∀ w', (∃ q, w' = More w q) → wpList P l.toArray Q (pickOps l ts) a' w') (pickOps l ks) a) : (Code.region id l.toArray true).wp P Q a w :=
  wp_region_quiet_pick (C := fun w' => ∃ q, w' = More w q) ks ts hm hB ⟨⟨[], w.drawn + 1⟩, by simp [More]⟩ h
end Go.Proofs.YtolbceckbnifmaaGreat
