/-
  Strongest paths, in plain terms. No program is named here.
  The strength of a path, and the outcome of the method, in plain terms. No program is named here.
  The rounds of Strengths, in plain terms. No program is named here.
-/
import Derived.Test.YtolbceckbnifmaaGreatSpecA
import Derived.Test.YtolbceckbnifmaaGreatSpecC
namespace Go.Proofs.YtolbceckbnifmaaGreat

/-- The link from x to y, or 0. -/
def lnkS (m : M) : M := fun x y => if m y x < m x y then m x y else 0
/-- Combined with each of the first k in between. -/
def longK (s : M) : Nat → M
  | 0 => s
  | k + 1 => fun a b => if a = b then s a b else max (longK s k a b) (min (s a k) (s k b))
def longM (s : M) : M := longK s 10
theorem longK_zero (s : M) : longK s 0 = s := rfl
theorem longK_succ (s : M) (k a b : Nat) : longK s (k + 1) a b = if a = b then s a b else max (longK s k a b) (min (s a k) (s k b)) := rfl
theorem longK_diag (s : M) (k a : Nat) : longK s k a a = s a a := by
  cases k with
  | zero => rfl
  | succ k => rw [longK_succ, if_pos rfl]
theorem longK_ge (s : M) (a b : Nat) : ∀ k, s a b ≤ longK s k a b
  | 0 => Int.le_refl _
  | k + 1 => by
    rw [longK_succ]
    have := longK_ge s a b k
    split <;> omega
theorem longK_mid {s : M} {a b : Nat} (h : a ≠ b) : ∀ {k y : Nat}, y < k → min (s a y) (s y b) ≤ longK s k a b
  | k + 1, y, hy => by
    rw [longK_succ, if_neg h]
    by_cases e : y = k
    · subst e; omega
    · have := longK_mid (s := s) h (k := k) (y := y) (by omega); omega
theorem longK_at (s : M) (a b : Nat) : ∀ k, longK s k a b = s a b ∨ ∃ y, y < k ∧ longK s k a b = min (s a y) (s y b)
  | 0 => .inl rfl
  | k + 1 => by
    rw [longK_succ]
    by_cases e : a = b
    · rw [if_pos e]; exact .inl rfl
    · rw [if_neg e]
      by_cases hm : longK s k a b ≤ min (s a k) (s k b)
      · exact .inr ⟨k, by omega, by omega⟩
      · rw [show max (longK s k a b) (min (s a k) (s k b)) = longK s k a b by omega]
        rcases longK_at s a b k with h | ⟨y, h1, h2⟩
        · exact .inl h
        · exact .inr ⟨y, by omega, h2⟩
/-- All entries are numbers of ballots. -/
def Bd (s : M) : Prop := ∀ a b, a < 10 → b < 10 → 0 ≤ s a b ∧ s a b ≤ 1000000
theorem longK_bd {s : M} (h : Bd s) {k : Nat} (hk : k ≤ 10) : Bd (longK s k) := fun a b ha hb => by
  rcases longK_at s a b k with e | ⟨y, hy, e⟩
  · rw [e]; exact h a b ha hb
  · rw [e]; have h1 := h a y ha (by omega); have h2 := h y b (by omega) hb; omega
theorem longM_bd {s : M} (h : Bd s) : Bd (longM s) := longK_bd h (Nat.le_refl _)
theorem lnkS_bd {m : M} (h : Bd m) : Bd (lnkS m) := fun a b ha hb => by
  unfold lnkS
  have := h a b ha hb
  split <;> omega
theorem lnkS_diag (m : M) (a : Nat) : lnkS m a a = 0 := by unfold lnkS; rw [if_neg (by omega)]
theorem right_bd {m : M} {c : Int} (h : rightS m c = true) : Bd m := fun a b ha hb => by
  have h1 := (rightS_iff.1 h).2.2 a b ha hb
  have h2 := (rightS_iff.1 h).2.2 b a hb ha
  exact ⟨h1.1, by omega⟩
/-- The links combined k times. -/
def iterM (m : M) : Nat → M
  | 0 => lnkS m
  | k + 1 => longM (iterM m k)
theorem iterM_bd {m : M} (h : Bd m) : ∀ k, Bd (iterM m k)
  | 0 => lnkS_bd h
  | k + 1 => longM_bd (iterM_bd h k)
theorem iterM_diag (m : M) (a : Nat) : ∀ k, iterM m k a a = 0
  | 0 => lnkS_diag m a
  | k + 1 => by show longK _ _ a a = 0; rw [longK_diag]; exact iterM_diag m a k
theorem iterM_ge (m : M) (a b : Nat) : ∀ k, lnkS m a b ≤ iterM m k a b
  | 0 => Int.le_refl _
  | k + 1 => Int.le_trans (iterM_ge m a b k) (longK_ge _ _ _ _)

/-- A path of links that are at least t: from x over l, whose last is y. -/
inductive Pth (m : M) (t : Int) : Nat → List Nat → Nat → Prop where
  | one {x y : Nat} (hx : x < 10) (hy : y < 10) (h : t ≤ lnkS m x y) : Pth m t x [y] y
  | cons {x y z : Nat} {l : List Nat} (hx : x < 10) (h : t ≤ lnkS m x y) (r : Pth m t y l z) : Pth m t x (y :: l) z
/-- One reaches the other. -/
def Rch (m : M) (t : Int) (x y : Nat) : Prop := ∃ l, Pth m t x l y
theorem Pth.lt {m : M} {t : Int} {x y : Nat} {l : List Nat} (h : Pth m t x l y) : x < 10 ∧ y < 10 ∧ ∀ z ∈ l, z < 10 := by
  induction h with
  | one hx hy h => exact ⟨hx, hy, fun z hz => by rw [List.mem_singleton.1 hz]; exact hy⟩
  | cons hx h r ih => exact ⟨hx, ih.2.1, fun z hz => by rcases List.mem_cons.1 hz with rfl | hz; exact ih.1; exact ih.2.2 z hz⟩
theorem Pth.app {m : M} {t : Int} {x y z : Nat} {l r : List Nat} (h : Pth m t x l y) (h2 : Pth m t y r z) : Pth m t x (l ++ r) z := by
  induction h with
  | one hx hy h => exact .cons hx h h2
  | cons hx h r ih => exact .cons hx h (ih h2)
theorem Rch.trans {m : M} {t : Int} {x y z : Nat} (h : Rch m t x y) (h2 : Rch m t y z) : Rch m t x z := by
  obtain ⟨l, h⟩ := h; obtain ⟨r, h2⟩ := h2; exact ⟨_, h.app h2⟩
theorem Pth.weak {m : M} {t t' : Int} {x y : Nat} {l : List Nat} (ht : t' ≤ t) (h : Pth m t x l y) : Pth m t' x l y := by
  induction h with
  | one hx hy h => exact .one hx hy (Int.le_trans ht h)
  | cons hx h r ih => exact .cons hx (Int.le_trans ht h) ih
theorem Pth.last_mem {m : M} {t : Int} {x y : Nat} {l : List Nat} (h : Pth m t x l y) : y ∈ l := by
  induction h with
  | one hx hy h => simp
  | cons hx h r ih => exact List.mem_cons_of_mem _ ih
theorem Pth.nodes {m : M} {t : Int} {C x y : Nat} {l : List Nat} (hm : rightS m C = true) (ht : 1 ≤ t) (h : Pth m t x l y) : x < C ∧ ∀ z ∈ l, z < C := by
  have key : ∀ {a b : Nat}, a < 10 → b < 10 → t ≤ lnkS m a b → a < C ∧ b < C := fun {a b} ha hb hl => by
    have h1 := ((rightS_iff.1 hm).2.2 a b ha hb).2.2
    unfold lnkS at hl
    refine ⟨Nat.lt_of_not_le fun hc => ?_, Nat.lt_of_not_le fun hc => ?_⟩
    · have := h1 (.inr (.inl (by omega))); split at hl <;> omega
    · have := h1 (.inr (.inr (by omega))); split at hl <;> omega
  induction h with
  | one hx hy h => exact ⟨(key hx hy h).1, fun z hz => by rw [List.mem_singleton.1 hz]; exact (key hx hy h).2⟩
  | cons hx h r ih => exact ⟨(key hx r.lt.1 h).1, fun z hz => by rcases List.mem_cons.1 hz with rfl | hz; exact ih.1; exact ih.2 z hz⟩
/-- From one of its nodes on. -/
theorem Pth.from {m : M} {t : Int} {x y z : Nat} {l : List Nat} (h : Pth m t x l y) (hz : z ∈ l) (hne : z ≠ y) : ∃ l', Pth m t z l' y ∧ (z :: l').Sublist l := by
  induction h with
  | one hx hy h => exact absurd (List.mem_singleton.1 hz) hne
  | @cons x y' y l hx h r ih =>
    rcases List.mem_cons.1 hz with rfl | hz
    · exact ⟨l, r, List.Sublist.refl _⟩
    · obtain ⟨l', h1, h2⟩ := ih hz hne
      exact ⟨l', h1, h2.cons _⟩
/-- Without a node twice. -/
theorem Pth.simple {m : M} {t : Int} {x y : Nat} {l : List Nat} (h : Pth m t x l y) (hne : x ≠ y) : ∃ l', Pth m t x l' y ∧ (x :: l').Nodup := by
  induction h with
  | @one x y hx hy h => exact ⟨[y], .one hx hy h, by simp [hne]⟩
  | @cons x y z l hx h r ih =>
    by_cases e : y = z
    · subst e; exact ⟨[y], .one hx r.lt.1 h, by simp [hne]⟩
    · obtain ⟨l', h1, h2⟩ := ih e
      by_cases hm : x ∈ y :: l'
      · rcases List.mem_cons.1 hm with rfl | hm
        · exact ⟨l', h1, h2⟩
        · obtain ⟨l'', h3, h4⟩ := h1.from hm hne
          exact ⟨l'', h3, (List.nodup_cons.1 h2).2.sublist h4⟩
      · exact ⟨y :: l', .cons hx h h1, List.nodup_cons.2 ⟨hm, h2⟩⟩
/-- Its last link. -/
theorem Pth.snoc {m : M} {t : Int} {x y : Nat} {l : List Nat} (h : Pth m t x l y) : (l = [y] ∧ t ≤ lnkS m x y) ∨ ∃ z l', l = l' ++ [y] ∧ Pth m t x l' z ∧ t ≤ lnkS m z y := by
  induction h with
  | one hx hy h => exact .inl ⟨rfl, h⟩
  | @cons x y z l hx h r ih =>
    right
    rcases ih with ⟨rfl, h1⟩ | ⟨w, l', rfl, h1, h2⟩
    · exact ⟨y, [y], rfl, .one hx r.lt.1 h, h1⟩
    · exact ⟨w, y :: l', rfl, .cons hx h h1, h2⟩
theorem iterM_sound {m : M} {t : Int} (ht : 1 ≤ t) : ∀ (k : Nat) {a b : Nat}, a < 10 → b < 10 → t ≤ iterM m k a b → Rch m t a b
  | 0, a, b, ha, hb, h => ⟨[b], .one ha hb h⟩
  | k + 1, a, b, ha, hb, h => by
    rcases longK_at (iterM m k) a b 10 with e | ⟨y, hy, e⟩
    · exact iterM_sound ht k ha hb (by rw [← e]; exact h)
    · have h' : t ≤ min (iterM m k a y) (iterM m k y b) := by rw [← e]; exact h
      exact (iterM_sound ht k ha hy (by omega)).trans (iterM_sound ht k hy hb (by omega))
/-- S holds the strengths of the strongest paths. -/
structure Str (m S : M) : Prop where
  bd : Bd S
  diag : ∀ a, a < 10 → S a a = 0
  iff : ∀ {a b : Nat} {t : Int}, a < 10 → b < 10 → a ≠ b → 1 ≤ t → (t ≤ S a b ↔ Rch m t a b)
theorem Str.unique {m S T : M} (h : Str m S) (h' : Str m T) {a b : Nat} (ha : a < 10) (hb : b < 10) : S a b = T a b := by
  by_cases e : a = b
  · subst e; rw [h.diag a ha, h'.diag a ha]
  · have h1 := h.bd a b ha hb
    have h2 := h'.bd a b ha hb
    have k1 : 1 ≤ S a b → S a b ≤ T a b := fun hs => (h'.iff ha hb e hs).2 ((h.iff ha hb e hs).1 (Int.le_refl _))
    have k2 : 1 ≤ T a b → T a b ≤ S a b := fun hs => (h.iff ha hb e hs).2 ((h'.iff ha hb e hs).1 (Int.le_refl _))
    omega
/-- What no longer grows holds the strengths. -/
theorem str_fix {m S : M} {k : Nat} (hm : Bd m) (hS : ∀ a b, a < 10 → b < 10 → S a b = iterM m k a b) (hf : ∀ a b, a < 10 → b < 10 → longM S a b = S a b) : Str m S := by
  have hb : Bd S := fun a b ha hb => by rw [hS a b ha hb]; exact iterM_bd hm k a b ha hb
  refine ⟨hb, fun a ha => by rw [hS a a ha ha, iterM_diag], fun {a b t} ha hb' hne ht => ⟨fun h => iterM_sound ht k ha hb' (by rw [← hS a b ha hb']; exact h), ?_⟩⟩
  rintro ⟨l, h⟩
  induction h with
  | one hx hy h => rw [hS _ _ hx hy]; exact Int.le_trans h (iterM_ge m _ _ k)
  | @cons x y z l hx h r ih =>
    have hy := r.lt.1
    have h1 : t ≤ S x y := by rw [hS _ _ hx hy]; exact Int.le_trans h (iterM_ge m _ _ k)
    by_cases e : y = z
    · subst e; exact h1
    · have h2 := ih hy hb' e
      rw [← hf x z hx hb']
      exact Int.le_trans (by omega) (longK_mid (s := S) hne (k := 10) (y := y) hy)

/-! What the reference computes. -/
/-- One more link, over the first k. -/
def refK (m s : M) : Nat → M
  | 0 => fun a b => if a = b then s a b else max (s a b) (lnkS m a b)
  | k + 1 => fun a b => if a = b then s a b else max (refK m s k a b) (min (s a k) (lnkS m k b))
def refM (m : M) (C : Nat) : Nat → M
  | 0 => fun _ _ => 0
  | k + 1 => fun a b => if a < C ∧ b < C then refK m (refM m C k) C a b else refM m C k a b
theorem refK_ge (m s : M) (a b : Nat) : ∀ k, s a b ≤ refK m s k a b ∧ (a ≠ b → lnkS m a b ≤ refK m s k a b)
  | 0 => by unfold refK; split <;> constructor <;> intros <;> omega
  | k + 1 => by
    have := refK_ge m s a b k
    unfold refK
    split
    · exact ⟨Int.le_refl _, fun h => by omega⟩
    · rename_i h; have h2 := this.2 h; exact ⟨by omega, fun _ => by omega⟩
theorem refK_mid {m s : M} {a b : Nat} (h : a ≠ b) : ∀ {k z : Nat}, z < k → min (s a z) (lnkS m z b) ≤ refK m s k a b
  | k + 1, z, hz => by
    unfold refK
    rw [if_neg h]
    by_cases e : z = k
    · subst e; omega
    · have := refK_mid (m := m) (s := s) h (k := k) (z := z) (by omega); omega
theorem refK_at (m s : M) (a b : Nat) : ∀ k, refK m s k a b = s a b ∨ (a ≠ b ∧ (refK m s k a b = lnkS m a b ∨ ∃ z, z < k ∧ refK m s k a b = min (s a z) (lnkS m z b)))
  | 0 => by
    unfold refK
    split
    · exact .inl rfl
    · rename_i h
      by_cases e : s a b ≤ lnkS m a b
      · exact .inr ⟨h, .inl (by omega)⟩
      · exact .inl (by omega)
  | k + 1 => by
    unfold refK
    split
    · exact .inl rfl
    · rename_i h
      by_cases e : refK m s k a b ≤ min (s a k) (lnkS m k b)
      · exact .inr ⟨h, .inr ⟨k, by omega, by omega⟩⟩
      · rw [show max (refK m s k a b) (min (s a k) (lnkS m k b)) = refK m s k a b by omega]
        rcases refK_at m s a b k with h1 | ⟨_, h1 | ⟨z, h2, h3⟩⟩
        · exact .inl h1
        · exact .inr ⟨h, .inl h1⟩
        · exact .inr ⟨h, .inr ⟨z, by omega, h3⟩⟩
theorem refK_bd {m s : M} (hm : Bd m) (h : Bd s) {k : Nat} (hk : k ≤ 10) : Bd (refK m s k) := fun a b ha hb => by
  have h0 := h a b ha hb
  have hl := lnkS_bd hm
  rcases refK_at m s a b k with e | ⟨_, e | ⟨z, hz, e⟩⟩
  · rw [e]; exact h0
  · rw [e]; exact hl a b ha hb
  · rw [e]; have h1 := h a z ha (by omega); have h2 := hl z b (by omega) hb; omega
theorem refM_bd {m : M} (hm : Bd m) {C : Nat} (hC : C ≤ 10) : ∀ k, Bd (refM m C k)
  | 0 => fun _ _ _ _ => by show (0 : Int) ≤ 0 ∧ (0 : Int) ≤ 1000000; omega
  | k + 1 => fun a b ha hb => by
    show 0 ≤ (if a < C ∧ b < C then refK m (refM m C k) C a b else refM m C k a b) ∧ (if a < C ∧ b < C then refK m (refM m C k) C a b else refM m C k a b) ≤ 1000000
    have h1 := refM_bd hm hC k
    split
    · exact refK_bd hm h1 hC a b ha hb
    · exact h1 a b ha hb
theorem refM_diag (m : M) (C a : Nat) : ∀ k, refM m C k a a = 0
  | 0 => rfl
  | k + 1 => by
    show (if a < C ∧ a < C then refK m (refM m C k) C a a else refM m C k a a) = 0
    have ih := refM_diag m C a k
    split
    · rcases refK_at m (refM m C k) a a C with e | ⟨h, _⟩
      · rw [e, ih]
      · exact absurd rfl h
    · exact ih
theorem refM_sound {m : M} {C : Nat} (hC : C ≤ 10) {t : Int} (ht : 1 ≤ t) : ∀ (k : Nat) {a b : Nat}, a < 10 → b < 10 → t ≤ refM m C k a b → Rch m t a b
  | 0, a, b, _, _, h => by have h : t ≤ 0 := h; omega
  | k + 1, a, b, ha, hb, h => by
    have h : t ≤ (if a < C ∧ b < C then refK m (refM m C k) C a b else refM m C k a b) := h
    split at h
    · rcases refK_at m (refM m C k) a b C with e | ⟨_, e | ⟨z, hz, e⟩⟩
      · rw [e] at h; exact refM_sound hC ht k ha hb h
      · rw [e] at h; exact ⟨[b], .one ha hb h⟩
      · rw [e] at h
        have hz' : z < 10 := by omega
        exact (refM_sound hC ht k ha hz' (by omega)).trans ⟨[b], .one hz' hb (by omega)⟩
    · exact refM_sound hC ht k ha hb h
theorem refM_mono {m : M} {C : Nat} (k a b : Nat) : refM m C k a b ≤ refM m C (k + 1) a b := by
  show _ ≤ (if a < C ∧ b < C then refK m (refM m C k) C a b else refM m C k a b)
  split
  · exact (refK_ge m _ a b C).1
  · exact Int.le_refl _
theorem refM_full {m : M} {C : Nat} (hm : rightS m C = true) {t : Int} (ht : 1 ≤ t) : ∀ (k : Nat) {a b : Nat} {l : List Nat}, Pth m t a l b → (a :: l).Nodup → l.length ≤ k → t ≤ refM m C k a b
  | 0, a, b, l, h, _, hl => by have := h.last_mem; have h2 := List.length_pos_of_mem this; omega
  | k + 1, a, b, l, h, hn, hl => by
    have hnd := h.nodes hm ht
    have hbl := h.last_mem
    have hab : a ≠ b := fun e => by subst e; exact (List.nodup_cons.1 hn).1 hbl
    show t ≤ (if a < C ∧ b < C then refK m (refM m C k) C a b else refM m C k a b)
    rw [if_pos ⟨hnd.1, hnd.2 b hbl⟩]
    rcases h.snoc with ⟨_, h1⟩ | ⟨z, l', rfl, h1, h2⟩
    · exact Int.le_trans h1 ((refK_ge m _ a b C).2 hab)
    · have hn' : (a :: l').Nodup := hn.sublist (by simp)
      have ih := refM_full hm ht k h1 hn' (by simp at hl; omega)
      have hz := (h1.nodes hm ht).2 z h1.last_mem
      exact Int.le_trans (by omega) (refK_mid (s := refM m C k) hab hz)
theorem str_ref {m : M} {C : Nat} (hm : rightS m C = true) : Str m (refM m C (C - 1)) := by
  have hb := right_bd hm
  have hC : C ≤ 10 := by have := (rightS_iff.1 hm).2.1; omega
  refine ⟨refM_bd hb hC _, fun a _ => refM_diag m C a _, fun {a b t} ha hb' hne ht => ⟨fun h => refM_sound hC ht _ ha hb' h, ?_⟩⟩
  rintro ⟨l, h⟩
  obtain ⟨l', h1, h2⟩ := h.simple hne
  refine refM_full hm ht _ h1 h2 ?_
  have h3 := h1.nodes hm ht
  have h4 : (a :: l') ⊆ List.range C := fun z hz => List.mem_range.2 (by rcases List.mem_cons.1 hz with rfl | hz; exact h3.1; exact h3.2 z hz)
  have h5 := h2.length_le_of_subset h4
  rw [List.length_range, List.length_cons] at h5
  omega
/-! The winners of the method. -/
theorem Str.trans {m S : M} (h : Str m S) {a b c : Nat} (ha : a < 10) (hb : b < 10) (hc : c < 10) (hac : a ≠ c) : min (S a b) (S b c) ≤ S a c := by
  by_cases e1 : a = b
  · subst e1; rw [h.diag a ha]; have := h.bd a c ha hc; omega
  by_cases e2 : b = c
  · subst e2; rw [h.diag b hb]; have := h.bd a b ha hb; omega
  by_cases ht : 1 ≤ min (S a b) (S b c)
  · exact (h.iff ha hc hac ht).2 (((h.iff ha hb e1 ht).1 (by omega)).trans ((h.iff hb hc e2 ht).1 (by omega)))
  · have := h.bd a c ha hc; omega
/-- Behind is transitive. -/
theorem Str.behind {m S : M} (h : Str m S) {a b c : Nat} (ha : a < 10) (hb : b < 10) (hc : c < 10) (h1 : S b a < S a b) (h2 : S c b < S b c) : S c a < S a c := by
  have hab : a ≠ b := fun e => by subst e; omega
  have hbc : b ≠ c := fun e => by subst e; omega
  have hac : a ≠ c := fun e => by subst e; omega
  have t1 := h.trans ha hb hc hac
  have t2 := h.trans hb hc ha hab.symm
  have t3 := h.trans hc ha hb hbc.symm
  omega
/-- How many of the first Y one is not behind. -/
def hadP (S : M) (x : Nat) : Nat → Nat
  | 0 => 0
  | Y + 1 => hadP S x Y + if x ≠ Y ∧ S Y x ≤ S x Y then 1 else 0
theorem hadP_succ (S : M) (x Y : Nat) : hadP S x (Y + 1) = hadP S x Y + if x ≠ Y ∧ S Y x ≤ S x Y then 1 else 0 := rfl
theorem hadP_le (S : M) (x : Nat) : ∀ Y, hadP S x Y ≤ Y ∧ (x < Y → hadP S x Y + 1 ≤ Y)
  | 0 => ⟨Nat.le_refl _, fun h => by omega⟩
  | Y + 1 => by
    have ih := hadP_le S x Y
    rw [hadP_succ]
    by_cases e : x = Y
    · subst e; rw [if_neg (fun h => h.1 rfl)]; exact ⟨by omega, fun _ => by omega⟩
    · refine ⟨by split <;> omega, fun hx => ?_⟩
      have := ih.2 (by omega)
      split <;> omega
theorem hadP_all {S : M} {x C : Nat} (hx : x < C) : hadP S x C + 1 = C ↔ ∀ y, y < C → S y x ≤ S x y := by
  have key : ∀ Y, Y ≤ C → (hadP S x Y + (if x < Y then 1 else 0) = Y ↔ ∀ y, y < Y → S y x ≤ S x y) := by
    intro Y
    induction Y with
    | zero => intro _; simp [hadP]
    | succ Y ih =>
      intro hY
      have ih := ih (by omega)
      have hl := hadP_le S x Y
      rw [hadP_succ]
      constructor
      · intro h y hy
        by_cases e : x = Y
        · subst e
          rw [if_neg (fun h => h.1 rfl), if_pos (by omega)] at h
          rw [if_neg (by omega)] at ih
          by_cases e2 : y = x
          · subst e2; exact Int.le_refl _
          · exact ih.1 (by omega) y (by omega)
        · by_cases hc : S Y x ≤ S x Y
          · rw [if_pos ⟨e, hc⟩] at h
            by_cases e2 : y = Y
            · subst e2; exact hc
            · refine ih.1 ?_ y (by omega)
              by_cases h3 : x < Y
              · rw [if_pos h3]; rw [if_pos (by omega)] at h; omega
              · rw [if_neg h3]; rw [if_neg (by omega)] at h; omega
          · rw [if_neg (fun h => hc h.2)] at h
            exfalso
            by_cases h3 : x < Y
            · rw [if_pos (by omega)] at h; have := hl.2 h3; omega
            · rw [if_neg (by omega)] at h; omega
      · intro h
        by_cases e : x = Y
        · subst e
          rw [if_neg (fun h => h.1 rfl), if_pos (by omega)]
          rw [if_neg (by omega)] at ih
          have := ih.2 fun y hy => h y (by omega)
          omega
        · rw [if_pos ⟨e, h Y (by omega)⟩]
          have := ih.2 fun y hy => h y (by omega)
          by_cases h3 : x < Y
          · rw [if_pos h3] at this; rw [if_pos (by omega)]; omega
          · rw [if_neg h3] at this; rw [if_neg (by omega)]; omega
  have := key C (Nat.le_refl _)
  rw [if_pos hx] at this
  exact this
/-- Somebody is behind nobody. -/
theorem Str.top {m S : M} (h : Str m S) : ∀ {C : Nat}, 0 < C → C ≤ 10 → ∃ x, x < C ∧ ∀ y, y < C → S y x ≤ S x y
  | 1, _, _ => ⟨0, Nat.zero_lt_one, fun y hy => by
    have e : y = 0 := Nat.lt_one_iff.1 hy
    rw [e]; exact Int.le_refl _⟩
  | C + 2, _, hC => by
    obtain ⟨x, hx, hm⟩ := h.top (C := C + 1) (by omega) (by omega)
    by_cases hc : S (C + 1) x ≤ S x (C + 1)
    · refine ⟨x, by omega, fun y hy => ?_⟩
      by_cases e : y = C + 1
      · subst e; exact hc
      · exact hm y (by omega)
    · refine ⟨C + 1, by omega, fun y hy => ?_⟩
      by_cases e : y = C + 1
      · subst e; exact Int.le_refl _
      · refine Int.not_lt.1 fun hlt => ?_
        have := h.behind (a := y) (b := C + 1) (c := x) (by omega) (by omega) (by omega) hlt (by omega)
        have := hm y (by omega)
        omega
end Go.Proofs.YtolbceckbnifmaaGreat

namespace Go.Proofs.YtolbceckbnifmaaGreat

def lnkI (m : M) (x y : Int) : Int := if 0 ≤ x ∧ x < 10 ∧ 0 ≤ y ∧ y < 10 then lnkS m x.toNat y.toNat else 0
/-- The least link between the first k of p. -/
def minT (m : M) (p : List Int) : Nat → Int
  | 0 => 1000001
  | k + 1 => if k = 0 then 1000001 else min (minT m p k) (lnkI m (p.getD (k - 1) 0) (p.getD k 0))
def strP (m : M) (p : List Int) : Int := if rightS m 10 = true ∧ 2 ≤ p.length then minT m p p.length else 0
theorem lnkI_bd {m : M} (h : Bd m) (x y : Int) : 0 ≤ lnkI m x y ∧ lnkI m x y ≤ 1000000 := by
  unfold lnkI
  split
  · rename_i hh; exact lnkS_bd h _ _ (by omega) (by omega)
  · omega
theorem minT_bd {m : M} (h : Bd m) (p : List Int) : ∀ k, 0 ≤ minT m p k ∧ minT m p k ≤ 1000001
  | 0 => by show (0 : Int) ≤ 1000001 ∧ (1000001 : Int) ≤ 1000001; omega
  | k + 1 => by
    have ih := minT_bd h p k
    have hl := lnkI_bd h (p.getD (k - 1) 0) (p.getD k 0)
    unfold minT
    split <;> omega
theorem minT_one (m : M) (p : List Int) : minT m p 1 = 1000001 := rfl
theorem minT_succ (m : M) (p : List Int) {k : Nat} (h : 0 < k) : minT m p (k + 1) = min (minT m p k) (lnkI m (p.getD (k - 1) 0) (p.getD k 0)) := by
  show (if k = 0 then _ else _) = _
  rw [if_neg (by omega)]
theorem minT_le {m : M} {p : List Int} : ∀ {n k : Nat}, 0 < k → k < n → minT m p n ≤ lnkI m (p.getD (k - 1) 0) (p.getD k 0)
  | n + 1, k, h0, hk => by
    rw [minT_succ m p (show 0 < n by omega)]
    by_cases e : k = n
    · subst e; omega
    · have := minT_le (m := m) (p := p) (n := n) h0 (by omega); omega
/-- Somebody is no candidate. -/
theorem minT_out {m : M} (h : Bd m) {p : List Int} (hl : 2 ≤ p.length) {k : Nat} (hk : k < p.length) (ho : p.getD k 0 < 0 ∨ 10 ≤ p.getD k 0) : minT m p p.length = 0 := by
  have h1 := (minT_bd h p p.length).1
  have h2 : minT m p p.length ≤ 0 := by
    by_cases e : k = 0
    · have := minT_le (m := m) (p := p) (n := p.length) (k := 1) (by omega) (by omega)
      unfold lnkI at this
      rw [if_neg (by subst e; simp only [Nat.sub_self]; omega)] at this
      exact this
    · have := minT_le (m := m) (p := p) (n := p.length) (k := k) (by omega) hk
      unfold lnkI at this
      rw [if_neg (by omega)] at this
      exact this
  omega
/-! Strengths: what both compute. -/
def strErr (m : M) (c : Int) : Int := if c < 1 ∨ 10 < c then 2 else if rightS m c = true then 0 else 8
def strV (m : M) (c : Int) : M := if strErr m c = 0 then refM m c.toNat (c.toNat - 1) else fun _ _ => 0
theorem strErr_ok {m : M} {c : Int} (h : rightS m c = true) : strErr m c = 0 := by
  have := rightS_iff.1 h
  unfold strErr; rw [if_neg (by omega), if_pos h]
theorem strV_ok {m : M} {C : Nat} (h : rightS m C = true) : Str m (strV m C) := by
  unfold strV; rw [if_pos (strErr_ok h), Int.toNat_natCast]; exact str_ref h
/-! The outcome. -/
/-- How many each one is not behind. -/
def hadPL (S : M) (C : Nat) : List Int := (List.range C).map fun x : Nat => (hadP S x C : Int)
theorem length_hadPL (S : M) (C : Nat) : (hadPL S C).length = C := by simp [hadPL]
theorem get_hadPL (S : M) {C x : Nat} (h : x < C) : (hadPL S C)[x]? = some (hadP S x C : Int) := by
  unfold hadPL; rw [List.getElem?_map, List.getElem?_range h]; rfl
/-- Who is behind nobody. -/
def topS (S : M) (C : Nat) : List Int := (rangeI C).filter fun x => decide (hadP S x.toNat C + 1 = C)
theorem mem_topS {S : M} {C : Nat} {x : Nat} : (x : Int) ∈ topS S C ↔ x < C ∧ ∀ y, y < C → S y x ≤ S x y := by
  unfold topS
  rw [List.mem_filter, mem_rangeI, decide_eq_true_eq, Int.toNat_natCast]
  constructor
  · rintro ⟨h1, h2⟩; exact ⟨by omega, (hadP_all (by omega)).1 h2⟩
  · rintro ⟨h1, h2⟩; exact ⟨by omega, (hadP_all h1).2 h2⟩
theorem topS_ne {m S : M} (h : Str m S) {C : Nat} (h0 : 0 < C) (hC : C ≤ 10) : topS S C ≠ [] := by
  obtain ⟨x, hx, hm⟩ := h.top h0 hC
  exact List.ne_nil_of_mem (mem_topS.2 ⟨hx, hm⟩)
theorem getI_hadPL {S : M} {C : Nat} {x : Int} (hx : 0 ≤ x ∧ x < C) : getI (hadPL S C) x = (hadP S x.toNat C : Int) := by
  unfold getI
  rw [List.getD_eq_getElem?_getD, get_hadPL S (by omega)]; rfl
theorem best_top {m S : M} (h : Str m S) {C : Nat} (h0 : 0 < C) (hC : C ≤ 10) : bestS (getI (hadPL S C)) (rangeI C) = topS S C := by
  obtain ⟨z, hz, hm⟩ := h.top h0 hC
  have hzt := (hadP_all (S := S) hz).2 hm
  unfold bestS topS
  refine List.filter_congr fun x hx => ?_
  have rx := mem_rangeI.1 hx
  have hlx := (hadP_le S x.toNat C).2 (by omega)
  rw [Bool.eq_iff_iff, List.all_eq_true, decide_eq_true_eq]
  constructor
  · intro ha
    have := of_decide_eq_true (ha (z : Int) (mem_rangeI.2 ⟨by omega, by omega⟩))
    rw [getI_hadPL rx, getI_hadPL (by omega), Int.toNat_natCast] at this
    omega
  · intro e k hk
    have rk := mem_rangeI.1 hk
    have hlk := (hadP_le S k.toNat C).2 (by omega)
    rw [decide_eq_true_eq, getI_hadPL rx, getI_hadPL rk]
    omega
/-- The candidate of among that comes first in the lot. -/
def frstS (lot among : List Int) : Int := (lot.find? (inL among)).getD 0
def pathO (S : M) (C : Nat) (lot : List Int) : Outc := ([frstS lot (topS S C)], [rndS (hadPL S C) 0 [frstS lot (topS S C)] []], tiedS [] (topS S C) (frstS lot (topS S C)))
end Go.Proofs.YtolbceckbnifmaaGreat

namespace Go.Proofs.YtolbceckbnifmaaGreat

/-- The sum of the entries. -/
def sum10 (s : M) : Int := ((List.range 10).map fun a => ((List.range 10).map fun b => s a b).sum).sum
theorem sum_le {f g : Nat → Int} : ∀ {n : Nat}, (∀ a, a < n → f a ≤ g a) → ((List.range n).map f).sum ≤ ((List.range n).map g).sum
  | 0, _ => Int.le_refl _
  | n + 1, h => by
    rw [List.range_succ, List.map_append, List.map_append, List.sum_append, List.sum_append]
    have ih := sum_le (f := f) (g := g) (n := n) fun a ha => h a (by omega)
    have := h n (by omega)
    simp
    omega
theorem sum_lt {f g : Nat → Int} : ∀ {n k : Nat}, (∀ a, a < n → f a ≤ g a) → k < n → f k < g k → ((List.range n).map f).sum < ((List.range n).map g).sum
  | n + 1, k, h, hk, hlt => by
    rw [List.range_succ, List.map_append, List.map_append, List.sum_append, List.sum_append]
    have hn := h n (by omega)
    by_cases e : k = n
    · subst e
      have ih := sum_le (f := f) (g := g) (n := k) fun a ha => h a (by omega)
      simp
      omega
    · have ih := sum_lt (f := f) (g := g) (n := n) (k := k) (fun a ha => h a (by omega)) (by omega) hlt
      simp
      omega
theorem sum10_lt {s t : M} (h : ∀ a b, a < 10 → b < 10 → s a b ≤ t a b) (hne : matEq s t = false) : sum10 s < sum10 t := by
  have hx : ∃ a b, a < 10 ∧ b < 10 ∧ s a b < t a b := by
    refine Classical.byContradiction fun hn => ?_
    have : matEq s t = true := matEq_iff.2 fun a b ha hb => by
      have h1 := h a b ha hb
      have h2 : ¬ s a b < t a b := fun hl => hn ⟨a, b, ha, hb, hl⟩
      omega
    rw [this] at hne; cases hne
  obtain ⟨a, b, ha, hb, hl⟩ := hx
  exact sum_lt (fun x hx => sum_le fun y hy => h x y hx hy) ha (sum_lt (fun y hy => h a y ha hy) hb hl)
theorem sum10_congr {s t : M} (h : ∀ a b, a < 10 → b < 10 → s a b = t a b) : sum10 s = sum10 t := by
  have h1 : sum10 s ≤ sum10 t := sum_le fun x hx => sum_le fun y hy => Int.le_of_eq (h x y hx hy)
  have h2 : sum10 t ≤ sum10 s := sum_le fun x hx => sum_le fun y hy => Int.le_of_eq (h x y hx hy).symm
  omega
theorem sum10_bd {s : M} (h : Bd s) : 0 ≤ sum10 s ∧ sum10 s ≤ 100000000 := by
  have key : ∀ {f : Nat → Int} {B : Int}, (∀ a, a < 10 → 0 ≤ f a ∧ f a ≤ B) → 0 ≤ ((List.range 10).map f).sum ∧ ((List.range 10).map f).sum ≤ 10 * B := fun {f B} hf => by
    have h0 := hf 0 (by omega); have h1 := hf 1 (by omega); have h2 := hf 2 (by omega); have h3 := hf 3 (by omega); have h4 := hf 4 (by omega)
    have h5 := hf 5 (by omega); have h6 := hf 6 (by omega); have h7 := hf 7 (by omega); have h8 := hf 8 (by omega); have h9 := hf 9 (by omega)
    have e : List.range 10 = [0, 1, 2, 3, 4, 5, 6, 7, 8, 9] := rfl
    rw [e]
    simp
    omega
  have := key (f := fun a => ((List.range 10).map fun b => s a b).sum) (B := 10000000) fun a ha => by
    have := key (f := fun b => s a b) (B := 1000000) fun b hb => h a b ha hb
    omega
  unfold sum10
  omega
/-- Where the rounds stand: s is what k rounds have made, t what there was before. -/
def RndP (m s t : M) (k : Nat) : Prop := (∀ a b, a < 10 → b < 10 → s a b = iterM m k a b) ∧ ((k = 0 ∧ ∀ a b, a < 10 → b < 10 → t a b = 0) ∨ (0 < k ∧ ∀ a b, a < 10 → b < 10 → t a b = iterM m (k - 1) a b))
theorem RndP.le {m s t : M} {k : Nat} (hm : Bd m) (h : RndP m s t k) : ∀ a b, a < 10 → b < 10 → t a b ≤ s a b := fun a b ha hb => by
  rw [h.1 a b ha hb]
  rcases h.2 with ⟨e, h2⟩ | ⟨e, h2⟩
  · rw [h2 a b ha hb]; exact (iterM_bd hm k a b ha hb).1
  · rw [h2 a b ha hb]
    obtain ⟨j, rfl⟩ : ∃ j, k = j + 1 := ⟨k - 1, by omega⟩
    exact longK_ge (iterM m j) a b 10
theorem RndP.bd {m s t : M} {k : Nat} (hm : Bd m) (h : RndP m s t k) : Bd s := fun a b ha hb => by rw [h.1 a b ha hb]; exact iterM_bd hm k a b ha hb
theorem RndP.bd2 {m s t : M} {k : Nat} (hm : Bd m) (h : RndP m s t k) : Bd t := fun a b ha hb => by
  rcases h.2 with ⟨e, h2⟩ | ⟨e, h2⟩
  · rw [h2 a b ha hb]; omega
  · rw [h2 a b ha hb]; exact iterM_bd hm _ a b ha hb
theorem longK_congr {s t : M} (h : ∀ a b, a < 10 → b < 10 → s a b = t a b) : ∀ {k : Nat}, k ≤ 10 → ∀ a b, a < 10 → b < 10 → longK s k a b = longK t k a b
  | 0, _, a, b, ha, hb => h a b ha hb
  | k + 1, hk, a, b, ha, hb => by
    rw [longK_succ, longK_succ, h a b ha hb, h a k ha (by omega), h k b (by omega) hb, longK_congr h (k := k) (by omega) a b ha hb]
theorem RndP.next {m s t : M} {k : Nat} (h : RndP m s t k) : RndP m (longM s) s (k + 1) :=
  ⟨fun a b ha hb => longK_congr h.1 (Nat.le_refl _) a b ha hb, .inr ⟨by omega, fun a b ha hb => h.1 a b ha hb⟩⟩
/-- Both are alike: the strengths. -/
theorem RndP.done {m s t : M} {k : Nat} (hm : Bd m) (h : RndP m s t k) (e : ∀ a b, a < 10 → b < 10 → s a b = t a b) : Str m s := by
  refine str_fix hm h.1 fun a b ha hb => ?_
  rcases h.2 with ⟨_, h2⟩ | ⟨hk, h2⟩
  · have hz : ∀ a b, a < 10 → b < 10 → s a b = 0 := fun a b ha hb => (e a b ha hb).trans (h2 a b ha hb)
    rcases longK_at s a b 10 with h3 | ⟨y, hy, h3⟩
    · exact h3
    · show longK s 10 a b = _
      rw [h3, hz a b ha hb, hz a y ha hy, hz y b hy hb]; omega
  · obtain ⟨j, rfl⟩ : ∃ j, k = j + 1 := ⟨k - 1, by omega⟩
    have h4 : ∀ a b, a < 10 → b < 10 → s a b = iterM m j a b := fun a b ha hb => (e a b ha hb).trans (h2 a b ha hb)
    show longK s 10 a b = _
    rw [longK_congr h4 (Nat.le_refl _) a b ha hb]
    exact (h.1 a b ha hb).symm
theorem RndP.start {m : M} : RndP m (lnkS m) (fun _ _ => 0) 0 := ⟨fun _ _ _ _ => rfl, .inl ⟨rfl, fun _ _ _ _ => rfl⟩⟩
/-- What both functions hand back. -/
theorem strV_eq {m s : M} {C : Nat} (hr : rightS m C = true) (h : Str m s) (a b : Nat) (ha : a < 10) (hb : b < 10) : s a b = strV m C a b := h.unique (strV_ok hr) ha hb
theorem strV_bad {m : M} {c : Int} (h : strErr m c ≠ 0) : strV m c = fun _ _ => 0 := by unfold strV; rw [if_neg h]
theorem strErr_arg {m : M} {c : Int} (h : c < 1 ∨ 10 < c) : strErr m c = 2 := by unfold strErr; rw [if_pos h]
theorem strErr_bad {m : M} {c : Int} (h : ¬ (c < 1 ∨ 10 < c)) (h2 : rightS m c = false) : strErr m c = 8 := by unfold strErr; rw [if_neg h, if_neg (by rw [h2]; simp)]
end Go.Proofs.YtolbceckbnifmaaGreat
