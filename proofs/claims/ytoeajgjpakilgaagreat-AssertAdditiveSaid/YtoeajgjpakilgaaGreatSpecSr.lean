/-
  The Smith set, in plain terms. No program is named here.
  The Smith set by enumerating all sets, in plain terms. No program is named here.
-/
import Derived.Test.YtoeajgjpakilgaaGreatSpecC
namespace Go.Proofs.YtoeajgjpakilgaaGreat

/-- Every member of D beats everybody else. -/
structure Dom (m : M) (C : Nat) (D : List Int) : Prop where
  sub : D.Sublist (rangeI C)
  ne : D ≠ []
  all : ∀ x y : Nat, x < C → y < C → (x : Int) ∈ D → (y : Int) ∉ D → m y x < m x y
theorem Dom.nested {m : M} {C : Nat} {D E : List Int} (h : Dom m C D) (h' : Dom m C E) : D ⊆ E ∨ E ⊆ D := by
  by_cases hs : D ⊆ E
  · exact .inl hs
  · right
    obtain ⟨x, hx⟩ := Classical.not_forall.1 hs
    obtain ⟨hxD, hxE⟩ := Classical.not_imp.1 hx
    intro y hy
    refine Classical.byContradiction fun hyD => ?_
    have rx := mem_rangeI.1 (h.sub.subset hxD)
    have ry := mem_rangeI.1 (h'.sub.subset hy)
    obtain ⟨X, rfl⟩ : ∃ X : Nat, x = X := ⟨x.toNat, by omega⟩
    obtain ⟨Y, rfl⟩ : ∃ Y : Nat, y = Y := ⟨y.toNat, by omega⟩
    have h1 := h.all X Y (by omega) (by omega) hxD hyD
    have h2 := h'.all Y X (by omega) (by omega) hy hxE
    omega
/-- The least such set. -/
structure Smith (m : M) (C : Nat) (S : List Int) : Prop where
  dom : Dom m C S
  least : ∀ D, Dom m C D → S.length ≤ D.length
theorem sub_len {D E : List Int} (hD : D.Nodup) (_ : E.Nodup) (hs : D ⊆ E) (hl : E.length ≤ D.length) : E ⊆ D := by
  intro x hx
  refine Classical.byContradiction fun hn => ?_
  have h1 : (x :: D).Nodup := List.nodup_cons.2 ⟨hn, hD⟩
  have h2 : (x :: D) ⊆ E := fun y hy => by rcases List.mem_cons.1 hy with rfl | hy; exact hx; exact hs hy
  have := h1.length_le_of_subset h2
  rw [List.length_cons] at this
  omega
theorem Dom.nodup {m : M} {C : Nat} {D : List Int} (h : Dom m C D) : D.Nodup := (nodup_rangeI C).sublist h.sub
theorem Smith.sub {m : M} {C : Nat} {S D : List Int} (h : Smith m C S) (hD : Dom m C D) : S ⊆ D := by
  rcases h.dom.nested hD with h1 | h1
  · exact h1
  · exact sub_len hD.nodup h.dom.nodup h1 (h.least D hD)
/-- Whom x does not beat. -/
def nbS (m : M) (x y : Nat) : Prop := m x y ≤ m y x
instance (m : M) (x y : Nat) : Decidable (nbS m x y) := by unfold nbS; infer_instance
/-- What grows from one: everything in it is in every set that must hold the first. -/
structure Grow (m : M) (C first : Nat) (L : List Int) : Prop where
  nd : L.Nodup
  rng : ∀ x ∈ L, 0 ≤ x ∧ x < C
  has : (first : Int) ∈ L
  all : ∀ D, Dom m C D → (first : Int) ∈ D → L ⊆ D
/-- All that the first i let in are there, and of the next one all below Y. -/
def Let (m : M) (C : Nat) (L : List Int) (i Y : Nat) : Prop := ∀ j x, L[j]? = some x → ∀ y : Nat, y < C → nbS m x.toNat y → (j < i ∨ j = i ∧ y < Y) → (y : Int) ∈ L
theorem Grow.start (m : M) {C first : Nat} (h : first < C) : Grow m C first [(first : Int)] :=
  ⟨by simp, fun x hx => by rw [List.mem_singleton.1 hx]; omega, by simp, fun D _ hf x hx => by rw [List.mem_singleton.1 hx]; exact hf⟩
theorem Dom.closed {m : M} {C : Nat} {D : List Int} (h : Dom m C D) {x y : Nat} (hx : x < C) (hy : y < C) (hxD : (x : Int) ∈ D) (hn : nbS m x y) : (y : Int) ∈ D :=
  Classical.byContradiction fun hyD => by have := h.all x y hx hy hxD hyD; unfold nbS at hn; omega
theorem Grow.add {m : M} {C first : Nat} {L : List Int} (h : Grow m C first L) {x y : Nat} (hx : (x : Int) ∈ L) (hy : y < C) (hn : nbS m x y) (hyL : (y : Int) ∉ L) : Grow m C first (L ++ [(y : Int)]) := by
  refine ⟨?_, fun z hz => ?_, List.mem_append_left _ h.has, fun D hD hf z hz => ?_⟩
  · rw [List.nodup_append]
    exact ⟨h.nd, by simp, fun a ha b hb e => by rw [List.mem_singleton.1 hb] at e; subst e; exact hyL ha⟩
  · rcases List.mem_append.1 hz with hz | hz
    · exact h.rng z hz
    · rw [List.mem_singleton.1 hz]; omega
  · rcases List.mem_append.1 hz with hz | hz
    · exact h.all D hD hf hz
    · rw [List.mem_singleton.1 hz]
      exact hD.closed (by have := h.rng _ hx; omega) hy (h.all D hD hf hx) hn
theorem Let.zero (m : M) (C : Nat) (L : List Int) : Let m C L 0 0 := fun j x _ y _ _ h => by omega
theorem Let.row {m : M} {C : Nat} {L : List Int} {i : Nat} (h : Let m C L i C) : Let m C L (i + 1) 0 := fun j x hj y hy hn hc => h j x hj y hy hn (by omega)
theorem Let.skip {m : M} {C : Nat} {L : List Int} {i Y x : Nat} (h : Let m C L i Y) (hx : L[i]? = some (x : Int)) (hs : ¬ nbS m x Y ∨ (Y : Int) ∈ L) : Let m C L i (Y + 1) := fun j z hj y hy hn hc => by
  by_cases e : j = i ∧ y = Y
  · obtain ⟨rfl, rfl⟩ := e
    rw [hx] at hj
    obtain rfl := Option.some.inj hj
    rcases hs with hs | hs
    · exact absurd hn hs
    · exact hs
  · exact h j z hj y hy hn (by omega)
theorem Let.add {m : M} {C : Nat} {L : List Int} {i Y x : Nat} (h : Let m C L i Y) (hx : L[i]? = some (x : Int)) : Let m C (L ++ [(Y : Int)]) i (Y + 1) := fun j z hj y hy hn hc => by
  by_cases e : y = Y
  · subst e; simp
  · refine List.mem_append_left _ (h j z ?_ y hy hn (by omega))
    have hi := (List.getElem?_eq_some_iff.1 hx).1
    rwa [List.getElem?_append_left (by omega)] at hj
theorem Let.all {m : M} {C : Nat} {L : List Int} {i : Nat} (h : Let m C L i 0) (hi : L.length ≤ i) {x y : Nat} (hx : (x : Int) ∈ L) (hy : y < C) (hn : nbS m x y) : (y : Int) ∈ L := by
  obtain ⟨j, hj⟩ := List.getElem?_of_mem hx
  have := (List.getElem?_eq_some_iff.1 hj).1
  exact h j x hj y hy (by simpa using hn) (by omega)
/-- A set in ascending order. -/
def ordS (C : Nat) (L : List Int) : List Int := (rangeI C).filter (inL L)
theorem mem_ordS {C : Nat} {L : List Int} (h : ∀ x ∈ L, 0 ≤ x ∧ x < C) {x : Int} : x ∈ ordS C L ↔ x ∈ L := by
  unfold ordS
  rw [List.mem_filter, inL_iff, mem_rangeI]
  exact ⟨fun h => h.2, fun hx => ⟨h x hx, hx⟩⟩
theorem Grow.dom {m : M} {C first : Nat} {L : List Int} (h : Grow m C first L) (hc : ∀ x y : Nat, (x : Int) ∈ L → y < C → nbS m x y → (y : Int) ∈ L) : Dom m C (ordS C L) := by
  refine ⟨List.filter_sublist, List.ne_nil_of_mem ((mem_ordS h.rng).2 h.has), fun x y hx hy hxD hyD => ?_⟩
  rw [mem_ordS h.rng] at hxD hyD
  refine Int.not_le.1 fun hn => hyD (hc x y hxD hy hn)
/-- The least of what grows from the first k. -/
structure Least (m : M) (C k : Nat) (L : List Int) : Prop where
  dom : Dom m C (ordS C L)
  nd : L.Nodup
  rng : ∀ x ∈ L, 0 ≤ x ∧ x < C
  least : ∀ D, Dom m C D → (∃ f : Nat, f < k ∧ (f : Int) ∈ D) → L.length ≤ D.length
theorem Grow.least {m : M} {C first : Nat} {L : List Int} (h : Grow m C first L) (_ : ∀ x y : Nat, (x : Int) ∈ L → y < C → nbS m x y → (y : Int) ∈ L) {D : List Int} (hD : Dom m C D) (hf : (first : Int) ∈ D) : L.length ≤ D.length :=
  h.nd.length_le_of_subset (h.all D hD hf)
theorem Least.one {m : M} {C : Nat} {L : List Int} (h : Grow m C 0 L) (hc : ∀ x y : Nat, (x : Int) ∈ L → y < C → nbS m x y → (y : Int) ∈ L) : Least m C 1 L :=
  ⟨h.dom hc, h.nd, h.rng, fun D hD ⟨f, hf, hm⟩ => by
    have e : f = 0 := Nat.lt_one_iff.1 hf
    rw [e] at hm
    exact h.least hc hD hm⟩
theorem Least.keep {m : M} {C k : Nat} {L L' : List Int} (h : Least m C k L) (h' : Grow m C k L') (hc : ∀ x y : Nat, (x : Int) ∈ L' → y < C → nbS m x y → (y : Int) ∈ L') (hl : ¬ L'.length < L.length) : Least m C (k + 1) L :=
  ⟨h.dom, h.nd, h.rng, fun D hD ⟨f, hf, hm⟩ => by
    by_cases e : f = k
    · subst e; have := h'.least hc hD hm; omega
    · exact h.least D hD ⟨f, by omega, hm⟩⟩
end Go.Proofs.YtoeajgjpakilgaaGreat

namespace Go.Proofs.YtoeajgjpakilgaaGreat

/-- The set of a number: its bits. -/
def bitS (C s : Nat) : List Int := (rangeI C).filter fun c => decide (s / 2 ^ c.toNat % 2 = 1)
theorem mem_bitS {C s x : Nat} : (x : Int) ∈ bitS C s ↔ x < C ∧ s / 2 ^ x % 2 = 1 := by
  unfold bitS
  rw [List.mem_filter, mem_rangeI, decide_eq_true_eq, Int.toNat_natCast]
  exact ⟨fun h => ⟨by omega, h.2⟩, fun h => ⟨by omega, h.2⟩⟩
theorem bitS_sub (C s : Nat) : (bitS C s).Sublist (rangeI C) := List.filter_sublist
theorem bit_test (s x : Nat) : s.testBit x = decide (s / 2 ^ x % 2 = 1) := by
  rw [Nat.testBit_eq_decide_div_mod_eq]
theorem bitS_ne {C s : Nat} (h0 : 1 ≤ s) (h : s < 2 ^ C) : bitS C s ≠ [] := by
  obtain ⟨i, hi⟩ := Nat.exists_testBit_of_ne_zero (show s ≠ 0 by omega)
  have hC : i < C := Nat.lt_of_not_le fun hc => by
    have h2 : s < 2 ^ i := Nat.lt_of_lt_of_le h (Nat.pow_le_pow_right (by omega) hc)
    rw [Nat.testBit_lt_two_pow h2] at hi; cases hi
  refine List.ne_nil_of_mem (mem_bitS.2 ⟨hC, ?_⟩)
  rw [bit_test] at hi
  exact of_decide_eq_true hi
/-- Every member of a set beats everybody outside, as the code asks it. -/
def rulesP (m : M) (C : Nat) (S : List Int) : Prop := ∀ x y : Nat, x < C → y < C → (x : Int) ∈ S → (y : Int) ∉ S → m y x < m x y
theorem dom_bits {m : M} {C s : Nat} (h0 : 1 ≤ s) (h : s < 2 ^ C) (hr : rulesP m C (bitS C s)) : Dom m C (bitS C s) := ⟨bitS_sub C s, bitS_ne h0 h, hr⟩
/-- Where the enumeration stands: all numbers below k have been seen. -/
def SeenS (m : M) (C k : Nat) (L : List Int) : Prop :=
  (L = [] ∧ ∀ s, 1 ≤ s → s < k → ¬ rulesP m C (bitS C s)) ∨ (Dom m C L ∧ ∀ s, 1 ≤ s → s < k → rulesP m C (bitS C s) → L.length ≤ (bitS C s).length)
theorem SeenS.start (m : M) (C : Nat) : SeenS m C 1 [] := .inl ⟨rfl, fun s h1 h2 => by omega⟩
theorem SeenS.take {m : M} {C k : Nat} {L : List Int} (h : SeenS m C k L) (h0 : 1 ≤ k) (hk : k < 2 ^ C) (hl : L = [] ∨ (bitS C k).length < L.length) (hr : rulesP m C (bitS C k)) : SeenS m C (k + 1) (bitS C k) := by
  refine .inr ⟨dom_bits h0 hk hr, fun s h1 h2 h3 => ?_⟩
  by_cases e : s = k
  · subst e; exact Nat.le_refl _
  · rcases h with ⟨_, h⟩ | ⟨hd, h⟩
    · exact absurd h3 (h s h1 (by omega))
    · rcases hl with hl | hl
      · exact absurd hl hd.ne
      · have := h s h1 (by omega) h3; omega
theorem SeenS.skip {m : M} {C k : Nat} {L : List Int} (h : SeenS m C k L) (hl : (L ≠ [] ∧ ¬ (bitS C k).length < L.length) ∨ ¬ rulesP m C (bitS C k)) : SeenS m C (k + 1) L := by
  rcases h with ⟨e, h⟩ | ⟨hd, h⟩
  · refine .inl ⟨e, fun s h1 h2 => ?_⟩
    by_cases es : s = k
    · subst es
      rcases hl with hl | hl
      · exact absurd e hl.1
      · exact hl
    · exact h s h1 (by omega)
  · refine .inr ⟨hd, fun s h1 h2 h3 => ?_⟩
    by_cases es : s = k
    · subst es
      rcases hl with hl | hl
      · omega
      · exact absurd h3 hl
    · exact h s h1 (by omega) h3
end Go.Proofs.YtoeajgjpakilgaaGreat
