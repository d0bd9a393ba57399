/-
  A region that draws its order and appends: x = append(x, e): reads, the box of e, the append, the variable's address, the store. No program is named here.
-/
import Derived.Test.YtleniljhacnikaaGreatQInv
namespace Go.Proofs.YtleniljhacnikaaGreat
open Go.RowKit

/-- Reads 0 .. N - 1, the box N, the append N + 1, the address N + 2, the store N + 3: what holds while they come up. -/
structure JApp (ops : Array Oper) (N : Nat) (V : Nat → Value) (Ba : World → Prop) (Bb : Nat → World → Prop) (Bc : Value → World → Prop) (Bd : World → Prop) (listed : Array Bool) (vs : Nat → Value) (w : World) : Prop where
  sh : Shut .any ops listed
  rd : ∀ i, i < N → listed.getD i false = true → vs i = V i
  ad : listed.getD (N + 2) false = true → vs (N + 2) = V (N + 2)
  bef : listed.getD N false = false → Ba w
  box : listed.getD N false = true → ∃ g, vs N = .slice (some ⟨g, 0, none⟩) 1 1 ∧ (listed.getD (N + 1) false = false → Bb g w)
  app : listed.getD (N + 1) false = true → listed.getD (N + 3) false = false → Bc (vs (N + 1)) w
  fin : listed.getD (N + 3) false = true → Bd w
def appOrdB (ops : Array Oper) (N : Nat) : Bool :=
  decide (ops.size = N + 4) && ((List.range (N + 1)).all fun i => awaits .any ops ops.size (N + 1) i) && awaits .any ops ops.size (N + 3) (N + 1) && awaits .any ops ops.size (N + 3) (N + 2)

/-- The values put, the slots laid open. -/
def putDs (vs : Nat → Value) : List (Option Tmp) → Nat → Act → Act
  | [], _, a => a
  | d :: r, i, a => putDs vs r (i + 1) (a.put d (vs i))
theorem putEach_from {ops : Array Oper} {vs : Nat → Value} : ∀ (n i : Nat) (a : Act), putEach ops vs (List.range' i n) a = putDs vs ((List.range' i n).map (dstOf ops)) i a
  | 0, _, _ => rfl
  | n + 1, i, a => by rw [List.range'_succ, putEach, List.map_cons, putDs]; exact putEach_from n (i + 1) _
theorem putEach_ds {ops : Array Oper} {vs : Nat → Value} {a : Act} (ds : List (Option Tmp)) (h : (List.range ops.size).map (dstOf ops) = ds) : putEach ops vs (List.range ops.size) a = putDs vs ds 0 a := by
  rw [← h, List.range_eq_range']
  exact putEach_from _ _ _
section
variable {P : Program} {ops : Array Oper} {Q : Exit → Act → World → Prop} {a0 : Act} {N : Nat} {V : Nat → Value} {Ba : World → Prop} {Bb : Nat → World → Prop} {Bc : Value → World → Prop} {Bd : World → Prop}
/-- The frame that operation o meets: what it waits for has its value; what the region does not write is as it was. -/
def Sees (ops : Array Oper) (a0 : Act) (V : Nat → Value) (N : Nat) (o : Oper) (a : Act) : Prop :=
  (∀ j, j < N → (∃ e ∈ o.after, Region.binds .any e = true ∧ e.on = j) → ∀ d, dstOf ops j = some d → d < a0.tmps.size → a.eval (.tmp d) = V j) ∧
    ∀ d, ((List.range ops.size).all fun j => dstOf ops j != some d) = true → a.eval (.tmp d) = a0.eval (.tmp d)
theorem shut_all {listed : Array Bool} (inv : Shut .any ops listed) {i t : Nat} (ha : awaits .any ops ops.size t i = true) (ht : listed.getD t false = true) : listed.getD i false = true :=
  inv.awaits _ _ ha fun o ho e he hb => inv.closed t o ho ht e he hb

theorem wp_region_app {id : Nat} {w : World} (N : Nat) (hm : P.follows .mixedOrders = true) (hap : apartB ops = true) (hdn : downB ops = true) (hord : appOrdB ops N = true) (hng : (ops.all fun o => o.guard.isNone) = true) (V : Nat → Value) (Ba : World → Prop) (Bb : Nat → World → Prop) (Bc : Value → World → Prop) (Bd : World → Prop)
    (h0 : Ba { w with drawn := w.drawn + 1 })
    (hread : ∀ i, i < N → ∀ o, ops[i]? = some o → ∀ a w', Sees ops a0 V N o a → (Ba w' ∨ ∃ g, Bb g w') → o.wp P a w' (fun a'' w'' => a'' = a.put o.dst (V i) ∧ (Ba w' → Ba w'') ∧ ∀ g, Bb g w' → Bb g w'') Q)
    (hbox : ∀ o, ops[N]? = some o → ∀ a w', Sees ops a0 V N o a → Ba w' → o.wp P a w' (fun a'' w'' => ∃ g, a'' = a.put o.dst (.slice (some ⟨g, 0, none⟩) 1 1) ∧ Bb g w'') Q)
    (happ : ∀ o, ops[N + 1]? = some o → ∀ a w' g, Sees ops a0 V N o a → (∀ d, dstOf ops N = some d → d < a0.tmps.size → a.eval (.tmp d) = .slice (some ⟨g, 0, none⟩) 1 1) → Bb g w' → o.wp P a w' (fun a'' w'' => ∃ v', a'' = a.put o.dst v' ∧ Bc v' w'') Q)
    (haddr : ∀ o, ops[N + 2]? = some o → ∀ a w', Sees ops a0 V N o a → o.wp P a w' (fun a'' w'' => a'' = a.put o.dst (V (N + 2)) ∧ w'' = w') Q)
    (hstore : ∀ o, ops[N + 3]? = some o → ∀ a w' v', (∀ d, dstOf ops (N + 1) = some d → d < a0.tmps.size → a.eval (.tmp d) = v') → (∀ d, dstOf ops (N + 2) = some d → d < a0.tmps.size → a.eval (.tmp d) = V (N + 2)) → Bc v' w' → o.wp P a w' (fun a'' w'' => a'' = a.put o.dst undef ∧ Bd w'') Q)
    (hend : ∀ vs w', Bd w' → Q .normal (putEach ops vs (List.range ops.size) a0) w') : (Code.region id ops true).wp P Q a0 w := by
  simp only [appOrdB, Bool.and_eq_true, decide_eq_true_eq] at hord
  obtain ⟨⟨⟨hN, hpre⟩, h31⟩, h32⟩ := hord
  have hpre' : ∀ i, i < N + 1 → awaits .any ops ops.size (N + 1) i = true := fun i hi => List.all_eq_true.1 hpre i (List.mem_range.2 hi)
  have hf : ∀ j, (Array.replicate ops.size false).getD j false = false := fun j => getD_replicate_false _ _
  refine wp_region_inv hm hap hdn (JApp ops N V Ba Bb Bc Bd) (fun _ => undef) ?_ ?_ ?_
  · exact ⟨⟨by simp, fun j oj _ hl => (by rw [hf] at hl; cases hl)⟩, fun i _ h => (by rw [hf] at h; cases h), fun h => (by rw [hf] at h; cases h), fun _ => h0, fun h => (by rw [hf] at h; cases h), fun h => (by rw [hf] at h; cases h), fun h => (by rw [hf] at h; cases h)⟩
  · intro listed vs wx i o ho hun hall hJ
    have hi : i < N + 4 := by have := (Array.getElem?_eq_some_iff.1 ho).1; omega
    have hg : o.guard = none := by
      have := Array.all_eq_true.1 hng i (by omega)
      rw [Array.getElem?_eq_getElem (by omega)] at ho
      rw [Option.some.inj ho] at this
      simpa using this
    have huf := getD_both hun
    have hrdy : i ∈ Region.ready .any ops listed := mem_ready.2 ⟨hun, o, ho, hall⟩
    have hsh := hJ.sh.set hrdy
    have hsee : Sees ops a0 V N o (actAt ops a0 vs listed) := by
      refine ⟨fun j hj ⟨e, he, hb, hje⟩ d hd hda => ?_, fun d hd => at_other hd⟩
      have hlj : listed.getD j false = true := by rw [← hje]; exact hall e he hb
      rw [at_listed hap hd (by omega) hlj hda, hJ.rd j hj hlj]
    have sne : ∀ {k}, i ≠ k → (listed.setIfInBounds i true).getD k false = listed.getD k false := fun h => getD_set_ne false h
    have une : ∀ {k} {v : Value}, k ≠ i → upd vs i v k = vs k := fun h => by simp [upd, h]
    have ueq : ∀ {v : Value}, upd vs i v i = v := by simp [upd]
    refine wpOp_here ho hg ?_
    rcases (show i < N ∨ i = N ∨ i = N + 1 ∨ i = N + 2 ∨ i = N + 3 by omega) with h1 | h1 | h1 | h1 | h1
    · have hn1 : listed.getD (N + 1) false = false := by
        cases h : listed.getD (N + 1) false with
        | false => rfl
        | true => have := shut_all hJ.sh (hpre' i (by omega)) h; rw [huf] at this; cases this
      have hw : Ba wx ∨ ∃ g, Bb g wx := by
        cases h : listed.getD N false with
        | false => exact .inl (hJ.bef h)
        | true => obtain ⟨g, _, hb⟩ := hJ.box h; exact .inr ⟨g, hb hn1⟩
      refine Oper.wp_mono ?_ (hread i h1 o ho _ wx hsee hw)
      rintro a'' w'' ⟨rfl, hA, hB⟩
      refine ⟨_, rfl, hsh, fun k hk hl => ?_, fun hl => ?_, fun hl => hA (hJ.bef (by rwa [sne (by omega)] at hl)), fun hl => ?_, fun hl => ?_, fun hl => ?_⟩
      · by_cases e : k = i
        · rw [e]; exact ueq
        · rw [une e]; exact hJ.rd k hk (by rwa [sne (Ne.symm e)] at hl)
      · rw [une (by omega)]; exact hJ.ad (by rwa [sne (by omega)] at hl)
      · obtain ⟨g, e, hb⟩ := hJ.box (by rwa [sne (by omega)] at hl)
        exact ⟨g, by rw [une (by omega)]; exact e, fun _ => hB g (hb hn1)⟩
      · rw [sne (by omega), hn1] at hl; cases hl
      · rw [sne (by omega)] at hl
        have := shut_all hJ.sh h31 hl
        rw [hn1] at this; cases this
    · subst h1
      refine Oper.wp_mono ?_ (hbox o ho _ wx hsee (hJ.bef huf))
      rintro a'' w'' ⟨g, rfl, hB⟩
      have hn1 : listed.getD (i + 1) false = false := by
        cases h : listed.getD (i + 1) false with
        | false => rfl
        | true => have := shut_all hJ.sh (hpre' i (by omega)) h; rw [huf] at this; cases this
      refine ⟨_, rfl, hsh, fun k hk hl => ?_, fun hl => ?_, fun hl => ?_, fun _ => ⟨g, ueq, fun _ => hB⟩, fun hl => ?_, fun hl => ?_⟩
      · rw [une (by omega)]; exact hJ.rd k hk (by rwa [sne (by omega)] at hl)
      · rw [une (by omega)]; exact hJ.ad (by rwa [sne (by omega)] at hl)
      · have : (listed.setIfInBounds i true).getD i false = true := by
          have : i < listed.size := by rw [hJ.sh.size]; omega
          simp [this]
        rw [this] at hl; cases hl
      · rw [sne (by omega), hn1] at hl; cases hl
      · rw [sne (by omega)] at hl
        have := shut_all hJ.sh h31 hl
        rw [hn1] at this; cases this
    · subst h1
      have hlN : listed.getD N false = true := by
        have hin : ∀ o', ops[N + 1]? = some o' → ∀ e ∈ o'.after, Region.binds .any e = true → listed.getD e.on false = true := fun o' ho' e he hb => by
          have : o' = o := Option.some.inj (ho'.symm.trans ho)
          subst this
          exact hall e he hb
        exact hJ.sh.awaits _ _ (hpre' N (by omega)) hin
      obtain ⟨g, eg, hb⟩ := hJ.box hlN
      refine Oper.wp_mono ?_ (happ o ho _ wx g hsee (fun d hd hda => by rw [at_listed hap hd (by omega) hlN hda, eg]) (hb huf))
      rintro a'' w'' ⟨v', rfl, hC⟩
      have hn3 : listed.getD (N + 3) false = false := by
        cases h : listed.getD (N + 3) false with
        | false => rfl
        | true => have := shut_all hJ.sh h31 h; rw [huf] at this; cases this
      refine ⟨_, rfl, hsh, fun k hk hl => ?_, fun hl => ?_, fun hl => ?_, fun hl => ⟨g, by rw [une (by omega)]; exact eg, fun h => ?_⟩, fun _ _ => by rw [ueq]; exact hC, fun hl => ?_⟩
      · rw [une (by omega)]; exact hJ.rd k hk (by rwa [sne (by omega)] at hl)
      · rw [une (by omega)]; exact hJ.ad (by rwa [sne (by omega)] at hl)
      · rw [sne (by omega), hlN] at hl; cases hl
      · have : (listed.setIfInBounds (N + 1) true).getD (N + 1) false = true := by
          have : N + 1 < listed.size := by rw [hJ.sh.size]; omega
          simp [this]
        rw [this] at h; cases h
      · rw [sne (by omega), hn3] at hl; cases hl
    · subst h1
      refine Oper.wp_mono ?_ (haddr o ho _ wx hsee)
      rintro a'' w'' ⟨rfl, rfl⟩
      have hn3 : listed.getD (N + 3) false = false := by
        cases h : listed.getD (N + 3) false with
        | false => rfl
        | true => have := shut_all hJ.sh h32 h; rw [huf] at this; cases this
      refine ⟨_, rfl, hsh, fun k hk hl => ?_, fun _ => ueq, fun hl => hJ.bef (by rwa [sne (by omega)] at hl), fun hl => ?_, fun hl _ => ?_, fun hl => ?_⟩
      · rw [une (by omega)]; exact hJ.rd k hk (by rwa [sne (by omega)] at hl)
      · obtain ⟨g, e, hb⟩ := hJ.box (by rwa [sne (by omega)] at hl)
        exact ⟨g, by rw [une (by omega)]; exact e, fun h => hb (by rwa [sne (by omega)] at h)⟩
      · rw [une (by omega)]; exact hJ.app (by rwa [sne (by omega)] at hl) hn3
      · rw [sne (by omega), hn3] at hl; cases hl
    · subst h1
      have hin : ∀ o', ops[N + 3]? = some o' → ∀ e ∈ o'.after, Region.binds .any e = true → listed.getD e.on false = true := fun o' ho' e he hb => by
        have : o' = o := Option.some.inj (ho'.symm.trans ho)
        subst this
        exact hall e he hb
      have hl1 := hJ.sh.awaits _ _ h31 hin
      have hl2 := hJ.sh.awaits _ _ h32 hin
      have hlN := shut_all hJ.sh (hpre' N (by omega)) hl1
      refine Oper.wp_mono ?_ (hstore o ho _ wx (vs (N + 1)) (fun d hd hda => at_listed hap hd (by omega) hl1 hda) (fun d hd hda => by rw [at_listed hap hd (by omega) hl2 hda, hJ.ad hl2]) (hJ.app hl1 huf))
      rintro a'' w'' ⟨rfl, hD⟩
      refine ⟨_, rfl, hsh, fun k hk hl => ?_, fun hl => ?_, fun hl => ?_, fun hl => ?_, fun hl h => ?_, fun _ => hD⟩
      · rw [une (by omega)]; exact hJ.rd k hk (by rwa [sne (by omega)] at hl)
      · rw [une (by omega)]; exact hJ.ad (by rwa [sne (by omega)] at hl)
      · rw [sne (by omega), hlN] at hl; cases hl
      · obtain ⟨g, e, hb⟩ := hJ.box (by rwa [sne (by omega)] at hl)
        exact ⟨g, by rw [une (by omega)]; exact e, fun h => by rw [sne (by omega), hl1] at h; cases h⟩
      · have : (listed.setIfInBounds (N + 3) true).getD (N + 3) false = true := by
          have : N + 3 < listed.size := by rw [hJ.sh.size]; omega
          simp [this]
        rw [this] at h; cases h
  · intro listed vs wx hall hJ
    rw [actAt_all hall]
    exact hend vs wx (hJ.fin (hall _ (by omega)))
/-- An operation that only reads. -/
theorem operRead {o : Oper} {a : Act} {w : World} {K : Act → World → Prop} {v : Value} (hr : (execOp a.eval o).run P w = .ok (.value v) w) (hK : K (a.put o.dst v) w) : o.wp P a w K Q := by
  unfold Oper.wp; rw [hr]; exact hK
end
end Go.Proofs.YtleniljhacnikaaGreat
