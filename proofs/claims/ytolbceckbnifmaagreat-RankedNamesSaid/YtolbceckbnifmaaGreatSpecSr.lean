/-
  The Smith set, in plain terms. No program is named here.
  The Smith set by enumerating all sets, in plain terms. No program is named here.
-/
import Derived.Test.YtolbceckbnifmaaGreatSpecC
namespace Go.Proofs.YtolbceckbnifmaaGreat

/-- Every member of D beats everybody else. -/
structure Dom (m : M) (C : Nat) (D : List Int) : Prop where
  sub : D.Sublist (rangeI C)
  ne : D ≠ []
  all : ∀ x y : Nat, x < C → y < C → (x : Int) ∈ D → (y : Int) ∉ D → m y x < m x y
theorem Dom.nested {m : M} {C : Nat} {D E : List Int} (h : Dom m C D) (h' : Dom m C E) : D ⊆ E ∨ E ⊆ D := by
  by_cases hs : D ⊆ E
  · exact .inl hs
  · right
    obtain ⟨x, hx⟩ := Classical.not_forall.1 hs
    obtain ⟨hxD, hxE⟩ := Classical.not_imp.1 hx
    intro y hy
    refine Classical.byContradiction fun hyD => ?_
    have rx := mem_rangeI.1 (h.sub.subset hxD)
    have ry := mem_rangeI.1 (h'.sub.subset hy)
    obtain ⟨X, rfl⟩ : ∃ X : Nat, x = X := ⟨x.toNat, by omega⟩
    obtain ⟨Y, rfl⟩ : ∃ Y : Nat, y = Y := ⟨y.toNat, by omega⟩
    have h1 := h.all X Y (by omega) (by omega) hxD hyD
    have h2 := h'.all Y X (by omega) (by omega) hy hxE
    omega
/-- The least such set. -/
structure Smith (m : M) (C : Nat) (S : List Int) : Prop where
  dom : Dom m C S
  least : ∀ D, Dom m C D → S.length ≤ D.length
theorem sub_len {D E : List Int} (hD : D.Nodup) (_ : E.Nodup) (hs : D ⊆ E) (hl : E.length ≤ D.length) : E ⊆ D := by
  intro x hx
  refine Classical.byContradiction fun hn => ?_
  have h1 : (x :: D).Nodup := List.nodup_cons.2 ⟨hn, hD⟩
  have h2 : (x :: D) ⊆ E := fun y hy => by rcases List.mem_cons.1 hy with rfl | hy; exact hx; exact hs hy
  have := h1.length_le_of_subset h2
  rw [List.length_cons] at this
  omega
theorem Dom.nodup {m : M} {C : Nat} {D : List Int} (h : Dom m C D) : D.Nodup := (nodup_rangeI C).sublist h.sub
theorem Smith.sub {m : M} {C : Nat} {S D : List Int} (h : Smith m C S) (hD : Dom m C D) : S ⊆ D := by
  rcases h.dom.nested hD with h1 | h1
  · exact h1
  · exact sub_len hD.nodup h.dom.nodup h1 (h.least D hD)
theorem Smith.unique {m : M} {C : Nat} {S T : List Int} (h : Smith m C S) (h' : Smith m C T) : S = T := by
  rw [← filter_sub h.dom.sub (nodup_rangeI C), ← filter_sub h'.dom.sub (nodup_rangeI C)]
  refine List.filter_congr fun x _ => ?_
  rw [Bool.eq_iff_iff, inL_iff, inL_iff]
  exact ⟨fun hx => h.sub h'.dom hx, fun hx => h'.sub h.dom hx⟩
/-- Whom x does not beat. -/
def nbS (m : M) (x y : Nat) : Prop := m x y ≤ m y x
instance (m : M) (x y : Nat) : Decidable (nbS m x y) := by unfold nbS; infer_instance
/-- What grows from one: everything in it is in every set that must hold the first. -/
structure Grow (m : M) (C first : Nat) (L : List Int) : Prop where
  nd : L.Nodup
  rng : ∀ x ∈ L, 0 ≤ x ∧ x < C
  has : (first : Int) ∈ L
  all : ∀ D, Dom m C D → (first : Int) ∈ D → L ⊆ D
/-- All that the first i let in are there, and of the next one all below Y. -/
def Let (m : M) (C : Nat) (L : List Int) (i Y : Nat) : Prop := ∀ j x, L[j]? = some x → ∀ y : Nat, y < C → nbS m x.toNat y → (j < i ∨ j = i ∧ y < Y) → (y : Int) ∈ L
theorem Grow.start (m : M) {C first : Nat} (h : first < C) : Grow m C first [(first : Int)] :=
  ⟨by simp, fun x hx => by rw [List.mem_singleton.1 hx]; omega, by simp, fun D _ hf x hx => by rw [List.mem_singleton.1 hx]; exact hf⟩
theorem Dom.closed {m : M} {C : Nat} {D : List Int} (h : Dom m C D) {x y : Nat} (hx : x < C) (hy : y < C) (hxD : (x : Int) ∈ D) (hn : nbS m x y) : (y : Int) ∈ D :=
  Classical.byContradiction fun hyD => by have := h.all x y hx hy hxD hyD; unfold nbS at hn; omega
theorem Grow.add {m : M} {C first : Nat} {L : List Int} (h : Grow m C first L) {x y : Nat} (hx : (x : Int) ∈ L) (hy : y < C) (hn : nbS m x y) (hyL : (y : Int) ∉ L) : Grow m C first (L ++ [(y : Int)]) := by
  refine ⟨?_, fun z hz => ?_, List.mem_append_left _ h.has, fun D hD hf z hz => ?_⟩
  · rw [List.nodup_append]
    exact ⟨h.nd, by simp, fun a ha b hb e => by rw [List.mem_singleton.1 hb] at e; subst e; exact hyL ha⟩
  · rcases List.mem_append.1 hz with hz | hz
    · exact h.rng z hz
    · rw [List.mem_singleton.1 hz]; omega
  · rcases List.mem_append.1 hz with hz | hz
    · exact h.all D hD hf hz
    · rw [List.mem_singleton.1 hz]
      exact hD.closed (by have := h.rng _ hx; omega) hy (h.all D hD hf hx) hn
theorem Let.zero (m : M) (C : Nat) (L : List Int) : Let m C L 0 0 := fun j x _ y _ _ h => by omega
theorem Let.row {m : M} {C : Nat} {L : List Int} {i : Nat} (h : Let m C L i C) : Let m C L (i + 1) 0 := fun j x hj y hy hn hc => h j x hj y hy hn (by omega)
theorem Let.skip {m : M} {C : Nat} {L : List Int} {i Y x : Nat} (h : Let m C L i Y) (hx : L[i]? = some (x : Int)) (hs : ¬ nbS m x Y ∨ (Y : Int) ∈ L) : Let m C L i (Y + 1) := fun j z hj y hy hn hc => by
  by_cases e : j = i ∧ y = Y
  · obtain ⟨rfl, rfl⟩ := e
    rw [hx] at hj
    obtain rfl := Option.some.inj hj
    rcases hs with hs | hs
    · exact absurd hn hs
    · exact hs
  · exact h j z hj y hy hn (by omega)
theorem Let.add {m : M} {C : Nat} {L : List Int} {i Y x : Nat} (h : Let m C L i Y) (hx : L[i]? = some (x : Int)) : Let m C (L ++ [(Y : Int)]) i (Y + 1) := fun j z hj y hy hn hc => by
  by_cases e : y = Y
  · subst e; simp
  · refine List.mem_append_left _ (h j z ?_ y hy hn (by omega))
    have hi := (List.getElem?_eq_some_iff.1 hx).1
    rwa [List.getElem?_append_left (by omega)] at hj
theorem Let.all {m : M} {C : Nat} {L : List Int} {i : Nat} (h : Let m C L i 0) (hi : L.length ≤ i) {x y : Nat} (hx : (x : Int) ∈ L) (hy : y < C) (hn : nbS m x y) : (y : Int) ∈ L := by
  obtain ⟨j, hj⟩ := List.getElem?_of_mem hx
  have := (List.getElem?_eq_some_iff.1 hj).1
  exact h j x hj y hy (by simpa using hn) (by omega)
/-- A set in ascending order. -/
def ordS (C : Nat) (L : List Int) : List Int := (rangeI C).filter (inL L)
theorem mem_ordS {C : Nat} {L : List Int} (h : ∀ x ∈ L, 0 ≤ x ∧ x < C) {x : Int} : x ∈ ordS C L ↔ x ∈ L := by
  unfold ordS
  rw [List.mem_filter, inL_iff, mem_rangeI]
  exact ⟨fun h => h.2, fun hx => ⟨h x hx, hx⟩⟩
theorem length_ordS {C : Nat} {L : List Int} (h : ∀ x ∈ L, 0 ≤ x ∧ x < C) (hn : L.Nodup) : (ordS C L).length = L.length := by
  have h1 : (ordS C L).Nodup := (nodup_rangeI C).sublist List.filter_sublist
  have h2 := h1.length_le_of_subset (l₂ := L) fun x hx => (mem_ordS h).1 hx
  have h3 := hn.length_le_of_subset (l₂ := ordS C L) fun x hx => (mem_ordS h).2 hx
  omega
theorem Grow.dom {m : M} {C first : Nat} {L : List Int} (h : Grow m C first L) (hc : ∀ x y : Nat, (x : Int) ∈ L → y < C → nbS m x y → (y : Int) ∈ L) : Dom m C (ordS C L) := by
  refine ⟨List.filter_sublist, List.ne_nil_of_mem ((mem_ordS h.rng).2 h.has), fun x y hx hy hxD hyD => ?_⟩
  rw [mem_ordS h.rng] at hxD hyD
  refine Int.not_le.1 fun hn => hyD (hc x y hxD hy hn)
/-- The least of what grows from the first k. -/
structure Least (m : M) (C k : Nat) (L : List Int) : Prop where
  dom : Dom m C (ordS C L)
  nd : L.Nodup
  rng : ∀ x ∈ L, 0 ≤ x ∧ x < C
  least : ∀ D, Dom m C D → (∃ f : Nat, f < k ∧ (f : Int) ∈ D) → L.length ≤ D.length
theorem Least.smith {m : M} {C : Nat} {L : List Int} (h : Least m C C L) : Smith m C (ordS C L) := by
  refine ⟨h.dom, fun D hD => ?_⟩
  rw [length_ordS h.rng h.nd]
  obtain ⟨a, ha⟩ := List.exists_mem_of_ne_nil D hD.ne
  have := mem_rangeI.1 (hD.sub.subset ha)
  obtain ⟨A, rfl⟩ : ∃ A : Nat, a = A := ⟨a.toNat, by omega⟩
  exact h.least D hD ⟨A, by omega, ha⟩
theorem Grow.least {m : M} {C first : Nat} {L : List Int} (h : Grow m C first L) (_ : ∀ x y : Nat, (x : Int) ∈ L → y < C → nbS m x y → (y : Int) ∈ L) {D : List Int} (hD : Dom m C D) (hf : (first : Int) ∈ D) : L.length ≤ D.length :=
  h.nd.length_le_of_subset (h.all D hD hf)
theorem Least.one {m : M} {C : Nat} {L : List Int} (h : Grow m C 0 L) (hc : ∀ x y : Nat, (x : Int) ∈ L → y < C → nbS m x y → (y : Int) ∈ L) : Least m C 1 L :=
  ⟨h.dom hc, h.nd, h.rng, fun D hD ⟨f, hf, hm⟩ => by
    have e : f = 0 := Nat.lt_one_iff.1 hf
    rw [e] at hm
    exact h.least hc hD hm⟩
theorem Least.next {m : M} {C k : Nat} {L L' : List Int} (h : Least m C k L) (h' : Grow m C k L') (hc : ∀ x y : Nat, (x : Int) ∈ L' → y < C → nbS m x y → (y : Int) ∈ L') (hl : L'.length < L.length) : Least m C (k + 1) L' :=
  ⟨h'.dom hc, h'.nd, h'.rng, fun D hD ⟨f, hf, hm⟩ => by
    by_cases e : f = k
    · subst e; exact h'.least hc hD hm
    · have := h.least D hD ⟨f, by omega, hm⟩; omega⟩
theorem Least.keep {m : M} {C k : Nat} {L L' : List Int} (h : Least m C k L) (h' : Grow m C k L') (hc : ∀ x y : Nat, (x : Int) ∈ L' → y < C → nbS m x y → (y : Int) ∈ L') (hl : ¬ L'.length < L.length) : Least m C (k + 1) L :=
  ⟨h.dom, h.nd, h.rng, fun D hD ⟨f, hf, hm⟩ => by
    by_cases e : f = k
    · subst e; have := h'.least hc hD hm; omega
    · exact h.least D hD ⟨f, by omega, hm⟩⟩
end Go.Proofs.YtolbceckbnifmaaGreat

namespace Go.Proofs.YtolbceckbnifmaaGreat

/-- The set of a number: its bits. -/
def bitS (C s : Nat) : List Int := (rangeI C).filter fun c => decide (s / 2 ^ c.toNat % 2 = 1)
theorem mem_bitS {C s x : Nat} : (x : Int) ∈ bitS C s ↔ x < C ∧ s / 2 ^ x % 2 = 1 := by
  unfold bitS
  rw [List.mem_filter, mem_rangeI, decide_eq_true_eq, Int.toNat_natCast]
  exact ⟨fun h => ⟨by omega, h.2⟩, fun h => ⟨by omega, h.2⟩⟩
theorem bitS_sub (C s : Nat) : (bitS C s).Sublist (rangeI C) := List.filter_sublist
theorem bit_test (s x : Nat) : s.testBit x = decide (s / 2 ^ x % 2 = 1) := by
  rw [Nat.testBit_eq_decide_div_mod_eq]
theorem bitS_ne {C s : Nat} (h0 : 1 ≤ s) (h : s < 2 ^ C) : bitS C s ≠ [] := by
  obtain ⟨i, hi⟩ := Nat.exists_testBit_of_ne_zero (show s ≠ 0 by omega)
  have hC : i < C := Nat.lt_of_not_le fun hc => by
    have h2 : s < 2 ^ i := Nat.lt_of_lt_of_le h (Nat.pow_le_pow_right (by omega) hc)
    rw [Nat.testBit_lt_two_pow h2] at hi; cases hi
  refine List.ne_nil_of_mem (mem_bitS.2 ⟨hC, ?_⟩)
  rw [bit_test] at hi
  exact of_decide_eq_true hi
/-- Every set is that of a number. -/
theorem bits_of (p : Nat → Bool) : ∀ C, ∃ s, s < 2 ^ C ∧ ∀ c, c < C → (s / 2 ^ c % 2 = 1 ↔ p c = true)
  | 0 => ⟨0, by simp, fun c h => by omega⟩
  | C + 1 => by
    obtain ⟨s, hs, hp⟩ := bits_of p C
    by_cases e : p C = true
    · refine ⟨2 ^ C + s, by rw [Nat.pow_succ]; omega, fun c hc => ?_⟩
      by_cases ec : c = C
      · subst ec
        rw [Nat.add_comm, Nat.add_div_right _ (Nat.pos_of_ne_zero (by simp)), Nat.div_eq_of_lt hs]
        simp [e]
      · rw [← hp c (by omega)]
        obtain ⟨d, rfl⟩ : ∃ d, C = c + 1 + d := ⟨C - c - 1, by omega⟩
        have h2 : 2 ^ (c + 1 + d) = 2 ^ c * (2 * 2 ^ d) := by rw [Nat.pow_add, Nat.pow_succ]; rw [Nat.mul_assoc]
        rw [h2, Nat.mul_add_div (Nat.pos_of_ne_zero (by simp))]
        rw [show (2 * 2 ^ d + s / 2 ^ c) % 2 = s / 2 ^ c % 2 by omega]
    · refine ⟨s, by rw [Nat.pow_succ]; omega, fun c hc => ?_⟩
      by_cases ec : c = C
      · subst ec
        rw [Nat.div_eq_of_lt hs]
        simp [e]
      · exact hp c (by omega)
theorem sub_bits {C : Nat} {D : List Int} (hD : D.Sublist (rangeI C)) (hne : D ≠ []) : ∃ s, 1 ≤ s ∧ s < 2 ^ C ∧ bitS C s = D := by
  obtain ⟨s, hs, hp⟩ := bits_of (fun c => decide ((c : Int) ∈ D)) C
  have he : bitS C s = D := by
    rw [← filter_sub hD (nodup_rangeI C)]
    unfold bitS
    refine List.filter_congr fun x hx => ?_
    have hr := mem_rangeI.1 hx
    obtain ⟨X, rfl⟩ : ∃ X : Nat, x = X := ⟨x.toNat, by omega⟩
    rw [Bool.eq_iff_iff, inL_iff, decide_eq_true_eq, Int.toNat_natCast, hp X (by omega), decide_eq_true_eq]
  refine ⟨s, Nat.pos_of_ne_zero fun e => hne ?_, hs, he⟩
  rw [← he, e]
  unfold bitS
  exact List.filter_eq_nil_iff.2 fun x _ => by simp
/-- Every member of a set beats everybody outside, as the code asks it. -/
def rulesP (m : M) (C : Nat) (S : List Int) : Prop := ∀ x y : Nat, x < C → y < C → (x : Int) ∈ S → (y : Int) ∉ S → m y x < m x y
theorem dom_bits {m : M} {C s : Nat} (h0 : 1 ≤ s) (h : s < 2 ^ C) (hr : rulesP m C (bitS C s)) : Dom m C (bitS C s) := ⟨bitS_sub C s, bitS_ne h0 h, hr⟩
/-- Where the enumeration stands: all numbers below k have been seen. -/
def SeenS (m : M) (C k : Nat) (L : List Int) : Prop :=
  (L = [] ∧ ∀ s, 1 ≤ s → s < k → ¬ rulesP m C (bitS C s)) ∨ (Dom m C L ∧ ∀ s, 1 ≤ s → s < k → rulesP m C (bitS C s) → L.length ≤ (bitS C s).length)
theorem SeenS.start (m : M) (C : Nat) : SeenS m C 1 [] := .inl ⟨rfl, fun s h1 h2 => by omega⟩
theorem SeenS.take {m : M} {C k : Nat} {L : List Int} (h : SeenS m C k L) (h0 : 1 ≤ k) (hk : k < 2 ^ C) (hl : L = [] ∨ (bitS C k).length < L.length) (hr : rulesP m C (bitS C k)) : SeenS m C (k + 1) (bitS C k) := by
  refine .inr ⟨dom_bits h0 hk hr, fun s h1 h2 h3 => ?_⟩
  by_cases e : s = k
  · subst e; exact Nat.le_refl _
  · rcases h with ⟨_, h⟩ | ⟨hd, h⟩
    · exact absurd h3 (h s h1 (by omega))
    · rcases hl with hl | hl
      · exact absurd hl hd.ne
      · have := h s h1 (by omega) h3; omega
theorem SeenS.skip {m : M} {C k : Nat} {L : List Int} (h : SeenS m C k L) (hl : (L ≠ [] ∧ ¬ (bitS C k).length < L.length) ∨ ¬ rulesP m C (bitS C k)) : SeenS m C (k + 1) L := by
  rcases h with ⟨e, h⟩ | ⟨hd, h⟩
  · refine .inl ⟨e, fun s h1 h2 => ?_⟩
    by_cases es : s = k
    · subst es
      rcases hl with hl | hl
      · exact absurd e hl.1
      · exact hl
    · exact h s h1 (by omega)
  · refine .inr ⟨hd, fun s h1 h2 h3 => ?_⟩
    by_cases es : s = k
    · subst es
      rcases hl with hl | hl
      · omega
      · exact absurd h3 hl
    · exact h s h1 (by omega) h3
theorem dom_all {m : M} {C : Nat} (h : 0 < C) : Dom m C (rangeI C) :=
  ⟨List.Sublist.refl _, fun e => by have := congrArg List.length e; rw [length_rangeI] at this; simp at this; omega, fun x y _ hy _ hn => absurd (mem_rangeI.2 ⟨by omega, by omega⟩) hn⟩
theorem SeenS.smith {m : M} {C : Nat} {L : List Int} (h : SeenS m C (2 ^ C) L) (h0 : 0 < C) : Smith m C L := by
  have key : ∀ D, Dom m C D → ∃ s, 1 ≤ s ∧ s < 2 ^ C ∧ bitS C s = D ∧ rulesP m C (bitS C s) := fun D hD => by
    obtain ⟨s, h1, h2, h3⟩ := sub_bits hD.sub hD.ne
    exact ⟨s, h1, h2, h3, by rw [h3]; exact hD.all⟩
  rcases h with ⟨e, h⟩ | ⟨hd, h⟩
  · obtain ⟨s, h1, h2, _, h4⟩ := key _ (dom_all h0)
    exact absurd h4 (h s h1 h2)
  · refine ⟨hd, fun D hD => ?_⟩
    obtain ⟨s, h1, h2, h3, h4⟩ := key D hD
    have := h s h1 h2 h4
    rwa [h3] at this
/-- The same as a Bool. -/
def rulesB (m : M) (C : Nat) (S : List Int) : Bool := (List.range C).all fun x => (List.range C).all fun y => !inL S x || inL S y || decide (m y x < m x y)
theorem rulesB_iff {m : M} {C : Nat} {S : List Int} : rulesB m C S = true ↔ rulesP m C S := by
  unfold rulesB rulesP
  simp only [List.all_eq_true, List.mem_range, Bool.or_eq_true, Bool.not_eq_true', decide_eq_true_eq]
  constructor
  · intro h x y hx hy hxS hyS
    rcases h x hx y hy with (h1 | h1) | h1
    · rw [inL_iff.2 hxS] at h1; cases h1
    · exact absurd (inL_iff.1 h1) hyS
    · exact h1
  · intro h x hx y hy
    by_cases h1 : (x : Int) ∈ S
    · by_cases h2 : (y : Int) ∈ S
      · exact .inl (.inr (inL_iff.2 h2))
      · exact .inr (h x y hx hy h1 h2)
    · exact .inl (.inl (by rw [← Bool.not_eq_true, inL_iff]; exact h1))
/-- The Smith set: who is in every set that rules. -/
def smithS (m : M) (C : Nat) : List Int := (rangeI C).filter fun x => (List.range (2 ^ C)).all fun s => decide (s = 0) || !rulesB m C (bitS C s) || inL (bitS C s) x
theorem smith_eq {m : M} {C : Nat} {S : List Int} (h : Smith m C S) : smithS m C = S := by
  rw [← filter_sub h.dom.sub (nodup_rangeI C)]
  unfold smithS
  refine List.filter_congr fun x hx => ?_
  rw [Bool.eq_iff_iff, inL_iff, List.all_eq_true]
  constructor
  · intro ha
    obtain ⟨s, h1, h2, h3⟩ := sub_bits h.dom.sub h.dom.ne
    have := ha s (List.mem_range.2 h2)
    rw [h3, rulesB_iff.2 h.dom.all] at this
    have h4 : ¬ s = 0 := by omega
    simpa [h4, inL_iff] using this
  · intro hm s hs
    have hs := List.mem_range.1 hs
    by_cases h0 : s = 0
    · simp [h0]
    · cases hr : rulesB m C (bitS C s) with
      | false => simp
      | true =>
        have hd := dom_bits (by omega) hs (rulesB_iff.1 hr)
        simp [inL_iff.2 (h.sub hd hm)]
/-- What Smith answers. -/
def smithErr (m : M) (c : Int) : Int := if c < 1 ∨ 10 < c then 2 else if rightS m c = true then 0 else 8
def smithV (m : M) (c : Int) : List Int := if smithErr m c = 0 then smithS m c.toNat else []
theorem smithErr_ok {m : M} {c : Int} (h : rightS m c = true) : smithErr m c = 0 := by
  have := rightS_iff.1 h
  unfold smithErr; rw [if_neg (by omega), if_pos h]
theorem smithErr_arg {m : M} {c : Int} (h : c < 1 ∨ 10 < c) : smithErr m c = 2 := by unfold smithErr; rw [if_pos h]
theorem smithErr_bad {m : M} {c : Int} (h : ¬ (c < 1 ∨ 10 < c)) (h2 : rightS m c = false) : smithErr m c = 8 := by unfold smithErr; rw [if_neg h, if_neg (by rw [h2]; simp)]
theorem smithV_bad {m : M} {c : Int} (h : smithErr m c ≠ 0) : smithV m c = [] := by unfold smithV; rw [if_neg h]
theorem smithV_ok {m : M} {C : Nat} {S : List Int} (hr : rightS m C = true) (h : Smith m C S) : smithV m C = S := by
  unfold smithV; rw [if_pos (smithErr_ok hr), Int.toNat_natCast]; exact smith_eq h
/-- There is one. -/
theorem smith_ex {m : M} {C : Nat} (h0 : 0 < C) : ∃ S, Smith m C S := by
  have key : ∀ k, ∃ L, SeenS m C (k + 1) L ∨ 2 ^ C ≤ k := by
    intro k
    induction k with
    | zero => exact ⟨[], .inl (SeenS.start m C)⟩
    | succ k ih =>
      obtain ⟨L, h | h⟩ := ih
      · by_cases hk : k + 1 < 2 ^ C
        · by_cases hr : rulesP m C (bitS C (k + 1))
          · by_cases hl : L = [] ∨ (bitS C (k + 1)).length < L.length
            · exact ⟨_, .inl (h.take (by omega) hk hl hr)⟩
            · exact ⟨L, .inl (h.skip (.inl ⟨fun e => hl (.inl e), fun e => hl (.inr e)⟩))⟩
          · exact ⟨L, .inl (h.skip (.inr hr))⟩
        · exact ⟨L, .inr (by omega)⟩
      · exact ⟨L, .inr (by omega)⟩
  have hp : 0 < 2 ^ C := Nat.pow_pos (by omega)
  obtain ⟨L, h | h⟩ := key (2 ^ C - 1)
  · rw [Nat.sub_add_cancel hp] at h; exact ⟨L, h.smith h0⟩
  · omega
theorem smithS_ok {m : M} {C : Nat} (h0 : 0 < C) : Smith m C (smithS m C) := by
  obtain ⟨S, h⟩ := smith_ex (m := m) h0
  rw [smith_eq h]; exact h
end Go.Proofs.YtolbceckbnifmaaGreat
