/-
  A region that draws its order, by an invariant: each operation once, in the place of each order. No program is named here.
-/
import Derived.Test.YtleniljhacnikaaGreatQTail
namespace Go.Proofs.YtleniljhacnikaaGreat
open Go.RowKit

def dstOf (ops : Array Oper) (i : Nat) : Option Tmp := match ops[i]? with | some o => o.dst | none => none
def upd (vs : Nat → Value) (i : Nat) (v : Value) : Nat → Value := fun j => if j = i then v else vs j
/-- The values of the listed operations are in their slots. -/
def putAll (ops : Array Oper) (vs : Nat → Value) (listed : Array Bool) : List Nat → Act → Act
  | [], a => a
  | i :: r, a => putAll ops vs listed r (if listed.getD i false = true then a.put (dstOf ops i) (vs i) else a)
def apartB (ops : Array Oper) : Bool := (List.range ops.size).all fun i => (List.range ops.size).all fun j => i == j || (match dstOf ops i with | some d => dstOf ops j != some d | none => true)
def downB (ops : Array Oper) : Bool := (List.range ops.size).all fun j => match ops[j]? with | some o => o.after.all fun e => !Region.binds .any e || decide (e.on < j) | none => true

theorem dstOf_out {ops : Array Oper} {i : Nat} (h : ¬ i < ops.size) : dstOf ops i = none := by
  unfold dstOf; rw [Array.getElem?_eq_none (by omega)]
theorem apart_of {ops : Array Oper} (h : apartB ops = true) {i j : Nat} (hij : i ≠ j) : ∀ d, dstOf ops i = some d → dstOf ops j ≠ some d := by
  intro d hd
  by_cases hi : i < ops.size
  · by_cases hj : j < ops.size
    · have h1 := List.all_eq_true.1 (List.all_eq_true.1 h i (List.mem_range.2 hi)) j (List.mem_range.2 hj)
      rw [hd] at h1
      simp only [Bool.or_eq_true, beq_iff_eq, bne_iff_ne] at h1
      exact h1.resolve_left hij
    · rw [dstOf_out hj]; simp
  · rw [dstOf_out hi] at hd; cases hd
theorem putAll_put {ops : Array Oper} (hap : apartB ops = true) {vs : Nat → Value} {listed : Array Bool} {i : Nat} {v : Value} : ∀ (l : List Nat) (a : Act), i ∉ l → (putAll ops vs listed l a).put (dstOf ops i) v = putAll ops vs listed l (a.put (dstOf ops i) v)
  | [], _, _ => rfl
  | j :: r, a, h => by
    have hji : j ≠ i := fun e => h (by rw [e]; exact List.mem_cons_self ..)
    rw [putAll, putAll_put hap r _ (fun hi => h (List.mem_cons_of_mem _ hi)), putAll]
    split
    · rw [Act.put_comm a _ _ (apart_of hap hji)]
    · rfl
theorem putAll_same {ops : Array Oper} {vs vs' : Nat → Value} {listed listed' : Array Bool} : ∀ (l : List Nat) (a : Act), (∀ j ∈ l, vs j = vs' j ∧ listed.getD j false = listed'.getD j false) → putAll ops vs listed l a = putAll ops vs' listed' l a
  | [], _, _ => rfl
  | j :: r, a, h => by
    obtain ⟨h1, h2⟩ := h j (List.mem_cons_self ..)
    rw [putAll, putAll, h1, h2]
    exact putAll_same r _ fun k hk => h k (List.mem_cons_of_mem _ hk)
theorem putAll_set {ops : Array Oper} (hap : apartB ops = true) {vs : Nat → Value} {listed : Array Bool} {i : Nat} {v : Value} (hi : listed.getD i true = false) : ∀ (l : List Nat) (a : Act), i ∈ l → l.Nodup →
    (putAll ops vs listed l a).put (dstOf ops i) v = putAll ops (upd vs i v) (listed.setIfInBounds i true) l a
  | [], _, h, _ => by cases h
  | j :: r, a, h, hn => by
    obtain ⟨hj, hr⟩ := List.nodup_cons.1 hn
    by_cases e : j = i
    · subst e
      have hlt : j < listed.size := by
        rcases Nat.lt_or_ge j listed.size with h' | h'
        · exact h'
        · simp [Array.getElem?_eq_none h'] at hi
      have hf := getD_both hi
      have ht : (listed.setIfInBounds j true).getD j false = true := by simp [hlt]
      rw [putAll, putAll, if_neg (by rw [hf]; simp), if_pos ht, putAll_put hap r a hj, show upd vs j v j = v by simp [upd]]
      refine putAll_same r _ fun k hk => ?_
      have hkj : k ≠ j := fun e => hj (e ▸ hk)
      exact ⟨by simp [upd, hkj], (getD_set_ne false (Ne.symm hkj)).symm⟩
    · have hir : i ∈ r := (List.mem_cons.1 h).resolve_left (fun e' => e e'.symm)
      rw [putAll, putAll, getD_set_ne false (Ne.symm e), show upd vs i v j = vs j by simp [upd, e]]
      exact putAll_set hap hi r _ hir hr
/-- How many are to come. -/
def toCome (listed : Array Bool) (l : List Nat) : Nat := l.countP fun j => !listed.getD j false
theorem toCome_out {listed : Array Bool} {i : Nat} : ∀ (l : List Nat), i ∉ l → toCome (listed.setIfInBounds i true) l = toCome listed l := by
  intro l h
  unfold toCome
  refine List.countP_congr fun j hj => ?_
  rw [getD_set_ne false (fun e => h (by rw [e]; exact hj))]
theorem toCome_set {listed : Array Bool} {i : Nat} (hi : listed.getD i true = false) : ∀ (l : List Nat), i ∈ l → l.Nodup → toCome listed l = toCome (listed.setIfInBounds i true) l + 1
  | [], h, _ => by cases h
  | j :: r, h, hn => by
    obtain ⟨hj, hr⟩ := List.nodup_cons.1 hn
    by_cases e : j = i
    · subst e
      have hlt : j < listed.size := by
        rcases Nat.lt_or_ge j listed.size with h' | h'
        · exact h'
        · simp [Array.getElem?_eq_none h'] at hi
      have hf := getD_both hi
      have ht : (listed.setIfInBounds j true).getD j false = true := by simp [hlt]
      have h2 := toCome_out (listed := listed) r hj
      unfold toCome at h2 ⊢
      rw [List.countP_cons, List.countP_cons, hf, ht, h2]
      simp
    · have hir : i ∈ r := (List.mem_cons.1 h).resolve_left (fun e' => e e'.symm)
      have h2 := toCome_set hi r hir hr
      unfold toCome at h2 ⊢
      rw [List.countP_cons, List.countP_cons, getD_set_ne false (Ne.symm e), h2]
      omega
/-- Where none may come up, all have come. -/
theorem all_listed {ops : Array Oper} (hdn : downB ops = true) {listed : Array Bool} (hs : listed.size = ops.size) (h : Region.ready .any ops listed = []) : ∀ i, i < ops.size → listed.getD i false = true := by
  intro i
  induction i using Nat.strongRecOn with
  | _ i ih =>
    intro hi
    cases hl : listed.getD i false with
    | true => rfl
    | false =>
      exfalso
      obtain ⟨o, ho⟩ : ∃ o, ops[i]? = some o := ⟨ops[i], Array.getElem?_eq_getElem hi⟩
      have h1 := List.all_eq_true.1 hdn i (List.mem_range.2 hi)
      rw [ho] at h1
      have hmem : i ∈ Region.ready .any ops listed := mem_ready.2 ⟨getD_in (by omega) hl, o, ho, fun e he hb => by
        have h2 := Array.all_eq_true'.1 h1 e he
        simp only [Bool.or_eq_true, Bool.not_eq_true', decide_eq_true_eq] at h2
        have h3 := h2.resolve_left (by rw [hb]; simp)
        exact ih e.on h3 (by omega)⟩
      rw [h] at hmem
      cases hmem

/-- The act, the listed operations' values put. -/
def actAt (ops : Array Oper) (a0 : Act) (vs : Nat → Value) (listed : Array Bool) : Act := putAll ops vs listed (List.range ops.size) a0

theorem any_inv {P : Program} {ops : Array Oper} {Q : Exit → Act → World → Prop} {a0 : Act} (hap : apartB ops = true) (hdn : downB ops = true) (J : Array Bool → (Nat → Value) → World → Prop)
    (hstep : ∀ listed vs w i o, ops[i]? = some o → listed.getD i true = false → (∀ e ∈ o.after, Region.binds .any e = true → listed.getD e.on false = true) → J listed vs w →
      wpOp P ops Q i (fun a' w' => ∃ v, a' = (actAt ops a0 vs listed).put o.dst v ∧ J (listed.setIfInBounds i true) (upd vs i v) w') (actAt ops a0 vs listed) w)
    (hend : ∀ listed vs w, (∀ i, i < ops.size → listed.getD i false = true) → J listed vs w → Q .normal (actAt ops a0 vs listed) w) (f : Nat) :
    ∀ (listed : Array Bool) (vs : Nat → Value) (w : World), listed.size = ops.size → toCome listed (List.range ops.size) = f → J listed vs w → wpAny P .any ops Q f listed (actAt ops a0 vs listed) w := by
  induction f with
  | zero =>
    intro listed vs w hs hc hJ
    have hall : ∀ i, i < ops.size → listed.getD i false = true := fun i hi => by
      have := List.countP_eq_zero.1 hc i (List.mem_range.2 hi)
      simpa using this
    refine ⟨?_, hend _ _ _ hall hJ⟩
    rw [List.eq_nil_iff_forall_not_mem]
    intro i hi
    obtain ⟨h1, o, ho, _⟩ := mem_ready.1 hi
    have := hall i (Array.getElem?_eq_some_iff.1 ho).1
    rw [getD_both h1] at this
    cases this
  | succ f ih =>
    intro listed vs w hs hc hJ
    refine ⟨fun h0 => hend _ _ _ (all_listed hdn hs h0) hJ, fun i hi => ?_⟩
    obtain ⟨h1, o, ho, hall⟩ := mem_ready.1 hi
    have hlt := (Array.getElem?_eq_some_iff.1 ho).1
    refine wpOp_mono (fun a' w' h => ?_) (hstep listed vs w i o ho h1 hall hJ)
    obtain ⟨v, rfl, hJ'⟩ := h
    have hd : o.dst = dstOf ops i := by unfold dstOf; rw [ho]
    rw [hd, actAt, putAll_set hap h1 _ _ (List.mem_range.2 hlt) List.nodup_range]
    exact ih _ _ _ (by simp [hs]) (by have := toCome_set h1 _ (List.mem_range.2 hlt) List.nodup_range; omega) hJ'

/-- A region that draws its order, by an invariant. -/
theorem wp_region_inv {P : Program} {id : Nat} {ops : Array Oper} {Q : Exit → Act → World → Prop} {a0 : Act} {w : World} (hm : P.follows .mixedOrders = true) (hap : apartB ops = true) (hdn : downB ops = true) (J : Array Bool → (Nat → Value) → World → Prop) (vs0 : Nat → Value)
    (h0 : J (Array.replicate ops.size false) vs0 { w with drawn := w.drawn + 1 })
    (hstep : ∀ listed vs w i o, ops[i]? = some o → listed.getD i true = false → (∀ e ∈ o.after, Region.binds .any e = true → listed.getD e.on false = true) → J listed vs w →
      wpOp P ops Q i (fun a' w' => ∃ v, a' = (actAt ops a0 vs listed).put o.dst v ∧ J (listed.setIfInBounds i true) (upd vs i v) w') (actAt ops a0 vs listed) w)
    (hend : ∀ listed vs w, (∀ i, i < ops.size → listed.getD i false = true) → J listed vs w → Q .normal (actAt ops a0 vs listed) w) : (Code.region id ops true).wp P Q a0 w := by
  refine wp_region_any hm ?_
  have hnone : ∀ (l : List Nat) (a : Act), putAll ops vs0 (Array.replicate ops.size false) l a = a := by
    intro l
    induction l with
    | nil => intro a; rfl
    | cons j r ih => intro a; rw [putAll, getD_replicate_false, if_neg (by simp)]; exact ih a
  have hc : toCome (Array.replicate ops.size false) (List.range ops.size) = ops.size := by
    unfold toCome
    rw [List.countP_eq_length.2 (fun j _ => by rw [getD_replicate_false]; rfl), List.length_range]
  have := any_inv (a0 := a0) hap hdn J hstep hend ops.size _ vs0 _ (by simp) hc h0
  rwa [actAt, hnone] at this

theorem put_size (a : Act) (d : Option Tmp) (v : Value) : (a.put d v).tmps.size = a.tmps.size := by cases d <;> simp [Act.put]
theorem putAll_other {ops : Array Oper} {vs : Nat → Value} {listed : Array Bool} {d : Nat} : ∀ (l : List Nat) (a : Act), (∀ j ∈ l, dstOf ops j ≠ some d) → (putAll ops vs listed l a).tmps.getD d undef = a.tmps.getD d undef
  | [], _, _ => rfl
  | j :: r, a, h => by
    rw [putAll, putAll_other r _ fun k hk => h k (List.mem_cons_of_mem _ hk)]
    split
    · have hj := h j (List.mem_cons_self ..)
      cases hd : dstOf ops j with
      | none => rfl
      | some d' =>
        have : d' ≠ d := fun e => hj (by rw [hd, e])
        simp [Act.put, Array.getElem?_setIfInBounds_ne this]
    · rfl
theorem putAll_at {ops : Array Oper} (hap : apartB ops = true) {vs : Nat → Value} {listed : Array Bool} {i d : Nat} (hd : dstOf ops i = some d) (hi : listed.getD i false = true) : ∀ (l : List Nat) (a : Act), d < a.tmps.size → i ∈ l → l.Nodup → (putAll ops vs listed l a).tmps.getD d undef = vs i
  | [], _, _, h, _ => by cases h
  | j :: r, a, ha, h, hn => by
    obtain ⟨hj, hr⟩ := List.nodup_cons.1 hn
    by_cases e : j = i
    · subst e
      rw [putAll, if_pos hi, putAll_other r _ fun k hk => apart_of hap (i := j) (j := k) (fun e => hj (by rw [e]; exact hk)) d hd, hd]
      simp [Act.put, ha]
    · rw [putAll]
      refine putAll_at hap hd hi r _ ?_ ((List.mem_cons.1 h).resolve_left (fun e' => e e'.symm)) hr
      split
      · rw [put_size]; exact ha
      · exact ha
theorem at_listed {ops : Array Oper} (hap : apartB ops = true) {a0 : Act} {vs : Nat → Value} {listed : Array Bool} {i d : Nat} (hd : dstOf ops i = some d) (hlt : i < ops.size) (hi : listed.getD i false = true) (ha : d < a0.tmps.size) : (actAt ops a0 vs listed).eval (.tmp d) = vs i :=
  putAll_at hap hd hi _ _ ha (List.mem_range.2 hlt) List.nodup_range
theorem at_other {ops : Array Oper} {a0 : Act} {vs : Nat → Value} {listed : Array Bool} {d : Nat} (hd : ((List.range ops.size).all fun j => dstOf ops j != some d) = true) : (actAt ops a0 vs listed).eval (.tmp d) = a0.eval (.tmp d) :=
  putAll_other _ _ fun j hj => by have := List.all_eq_true.1 hd j hj; simpa using this
/-- All are listed: the values, put one after the other. -/
def putEach (ops : Array Oper) (vs : Nat → Value) : List Nat → Act → Act
  | [], a => a
  | i :: r, a => putEach ops vs r (a.put (dstOf ops i) (vs i))
theorem putAll_each {ops : Array Oper} {vs : Nat → Value} {listed : Array Bool} : ∀ (l : List Nat) (a : Act), (∀ i ∈ l, listed.getD i false = true) → putAll ops vs listed l a = putEach ops vs l a
  | [], _, _ => rfl
  | i :: r, a, h => by
    rw [putAll, if_pos (h i (List.mem_cons_self ..)), putEach]
    exact putAll_each r _ fun k hk => h k (List.mem_cons_of_mem _ hk)
theorem actAt_all {ops : Array Oper} {a0 : Act} {vs : Nat → Value} {listed : Array Bool} (h : ∀ i, i < ops.size → listed.getD i false = true) : actAt ops a0 vs listed = putEach ops vs (List.range ops.size) a0 :=
  putAll_each _ _ fun i hi => h i (List.mem_range.1 hi)
theorem wpOp_here {P : Program} {ops : Array Oper} {Q : Exit → Act → World → Prop} {i : Nat} {o : Oper} {K : Act → World → Prop} {a : Act} {w : World} (ho : ops[i]? = some o) (hg : o.guard = none) (h : o.wp P a w K Q) : wpOp P ops Q i K a w := by
  have hw : Region.wanted o (yielded ops a.tmps) = true := by simp [Region.wanted, hg]
  unfold wpOp
  simp only [ho]
  rw [if_pos hw]
  exact .inl h
section
variable {o : Oper} {a : Act} {w : World} {Q : Exit → Act → World → Prop} {K : Act → World → Prop}
/-- A function of the program is called, its body not empty. -/
theorem operCall {P : Program} {f : FuncId} {x : Operand} {ats : Array TypeId} (ho : o.op = .call { callee := .value (.func f), args := #[x], argTypes := ats }) {v : Value} (hx : a.eval x = v)
    (hf : ∀ args w, (callFunc f args).run P w = .ok (.enter f args) w) (h : Calls P f #[v] w fun e w' => ∃ u, e = .returned u ∧ K (a.put o.dst u) w') : Oper.wp P o a w K Q := by
  have e : execOp a.eval o = callFunc f #[v] := by
    obtain ⟨dst, op, ty, pos, after, guard⟩ := o
    simp only at ho
    subst ho
    rw [← hx, execOp_call_go]
    simp
  unfold Oper.wp
  rw [e, hf, Oper.upon_enter]
  refine h.mono ?_
  rintro e' w' ⟨u, rfl, hK⟩
  exact hK
theorem call_in {P : Program} {f : FuncId} {fn : Func} (hf : P.funcs[f]? = some fn) (hname : (fn.name == "runtime.NumGoroutine") = false) (hb : fn.body.isNone = false) (args : Array Value) (w : World) :
    (callFunc f args).run P w = .ok (.enter f args) w := by
  have h1 : fn.name ≠ "runtime.NumGoroutine" := by simpa using hname
  have h2 : fn.body ≠ none := by intro h; rw [h] at hb; cases hb
  simp [callFunc, hf, h1, h2]
/-- The same, two arguments. -/
theorem operCall2 {P : Program} {f : FuncId} {x y : Operand} {ats : Array TypeId} (ho : o.op = .call { callee := .value (.func f), args := #[x, y], argTypes := ats }) {v u : Value} (hx : a.eval x = v) (hy : a.eval y = u)
    (hf : ∀ args w, (callFunc f args).run P w = .ok (.enter f args) w) (h : Calls P f #[v, u] w fun e w' => ∃ u, e = .returned u ∧ K (a.put o.dst u) w') : Oper.wp P o a w K Q := by
  have e : execOp a.eval o = callFunc f #[v, u] := by
    obtain ⟨dst, op, ty, pos, after, guard⟩ := o
    simp only at ho
    subst ho
    rw [← hx, ← hy, execOp_call_go]
    simp
  unfold Oper.wp
  rw [e, hf, Oper.upon_enter]
  refine h.mono ?_
  rintro e' w' ⟨u, rfl, hK⟩
  exact hK
end
end Go.Proofs.YtleniljhacnikaaGreat
