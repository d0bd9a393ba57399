/-
  Links between candidates: who is reached by one link or more. Chapter 14, in plain terms. No program is named here.
  Sorted lists: two that hold the same, in a strict order, are one. Chapter 14, in plain terms. No program is named here.
  Stable sorting in plain terms: rotations, insertions, the symmetric merge. No program is named here.
  Stable sorting on lists: swaps, rotations and what each part of the sort leaves. No program is named here.
  Ranked pairs: what is reached by links, and which links are locked. Chapter 14, in plain terms. No program is named here.
  Ranked pairs: the links in order. Chapter 14, in plain terms. No program is named here.
  Ranked pairs: the elected candidate, the Smith set, and other names. Chapter 14, in plain terms. No program is named here.
  Ranked pairs: the laws of the chapter in plain terms: locked links one by one, the order's neighbours, the lone winner. No program is named here.
  Ranked pairs: one step of each loop: the search, the numbers of links, those that no link leads to. Chapter 14, in plain terms. No program is named here.
  Ranked pairs: what Order, Lock and Count return, errors included. Chapter 14, in plain terms. No program is named here.
-/
import Derived.Test.YtolbceckbnifmaaGreatSpecA
import Derived.Test.YtolbceckbnifmaaGreatSpecC
import Derived.Test.YtolbceckbnifmaaGreatSpecSr
import Derived.Test.YtolbceckbnifmaaGreatSpecNp
namespace Go.Proofs.YtolbceckbnifmaaGreat

/-- A link: from, to, margin, for. -/
abbrev Lk := Int × Int × Int × Int
/-- There is a way of one link or more. -/
inductive Rea (l : List Lk) : Int → Int → Prop where
  | one {k : Lk} (h : k ∈ l) : Rea l k.1 k.2.1
  | cons {k : Lk} {z : Int} (h : k ∈ l) (r : Rea l k.2.1 z) : Rea l k.1 z
theorem Rea.mono {l l' : List Lk} (hs : l ⊆ l') {x y : Int} (h : Rea l x y) : Rea l' x y := by
  induction h with
  | one h => exact .one (hs h)
  | cons h _ ih => exact .cons (hs h) ih
theorem Rea.trans {l : List Lk} {x y z : Int} (h : Rea l x y) (h' : Rea l y z) : Rea l x z := by
  induction h with
  | one h => exact .cons h h'
  | cons h _ ih => exact .cons h (ih h')
theorem Rea.nil_ {x y : Int} (h : Rea [] x y) : False := by
  cases h with
  | one h => cases h
  | cons h _ => cases h
/-- The last link of a way. -/
theorem Rea.last {l : List Lk} {x y : Int} (h : Rea l x y) : ∃ k ∈ l, k.2.1 = y ∧ (k.1 = x ∨ Rea l x k.1) := by
  induction h with
  | @one k h => exact ⟨k, h, rfl, .inl rfl⟩
  | @cons k z h _ ih =>
    obtain ⟨j, h1, h2, h3⟩ := ih
    refine ⟨j, h1, h2, .inr ?_⟩
    rcases h3 with h3 | h3
    · rw [h3]; exact .one h
    · exact .cons h h3
/-- The set S (of places) holds all links from x, and with a link all links from where it leads; none of them leads to y: then y is not reached. -/
theorem no_rea {l : List Lk} {x y : Int} {S : Nat → Prop} (h0 : ∀ (j : Nat) (k : Lk), l[j]? = some k → k.1 = x → S j) (hc : ∀ (i : Nat) (k : Lk), l[i]? = some k → S i → k.2.1 ≠ y ∧ ∀ (j : Nat) (g : Lk), l[j]? = some g → g.1 = k.2.1 → S j) : ¬ Rea l x y := fun h => by
  induction h with
  | @one k h =>
    obtain ⟨i, hi⟩ := List.getElem?_of_mem h
    exact (hc i k hi (h0 i k hi rfl)).1 rfl
  | @cons k z h _ ih =>
    obtain ⟨i, hi⟩ := List.getElem?_of_mem h
    exact ih (hc i k hi (h0 i k hi rfl)).2 hc
/-- What a search leaves behind: of the places in U' that were not in U, none leads to y, and all links from where they lead are in U'. -/
def CloS (l : List Lk) (y : Int) (U U' : List Bool) : Prop :=
  ∀ (i : Nat) (k : Lk), l[i]? = some k → U'[i]? = some true → U[i]? = some true ∨ (k.2.1 ≠ y ∧ ∀ (j : Nat) (g : Lk), l[j]? = some g → g.1 = k.2.1 → U'[j]? = some true)
/-- What was used stays used. -/
def SubU (U U' : List Bool) : Prop := U'.length = U.length ∧ ∀ i : Nat, U[i]? = some true → U'[i]? = some true
theorem SubU.refl (U : List Bool) : SubU U U := ⟨rfl, fun _ h => h⟩
theorem SubU.trans {U V W : List Bool} (h : SubU U V) (h' : SubU V W) : SubU U W := ⟨h'.1.trans h.1, fun i hi => h'.2 i (h.2 i hi)⟩
theorem CloS.refl (l : List Lk) (y : Int) (U : List Bool) : CloS l y U U := fun _ _ _ h => .inl h
theorem CloS.trans {l : List Lk} {y : Int} {U V W : List Bool} (h : CloS l y U V) (h' : CloS l y V W) (hs : SubU V W) : CloS l y U W := fun i k hi hw => by
  rcases h' i k hi hw with h1 | h1
  · rcases h i k hi h1 with h2 | h2
    · exact .inl h2
    · exact .inr ⟨h2.1, fun j g hj hg => hs.2 j (h2.2 j g hj hg)⟩
  · exact .inr h1
/-- One place is used, and the search from where its link leads has found nothing. -/
theorem CloS.step {l : List Lk} {y : Int} {U V : List Bool} {i : Nat} {k : Lk} (hi : l[i]? = some k) (hy : k.2.1 ≠ y) (h : CloS l y (U.set i true) V) (_hs : SubU (U.set i true) V) (ha : ∀ (j : Nat) (g : Lk), l[j]? = some g → g.1 = k.2.1 → V[j]? = some true) : CloS l y U V := fun j g hj hv => by
  rcases h j g hj hv with h1 | h1
  · by_cases e : j = i
    · subst e
      rw [hi] at hj
      cases hj
      exact .inr ⟨hy, ha⟩
    · rw [List.getElem?_set_ne (fun e' => e e'.symm)] at h1
      exact .inl h1
  · exact .inr h1
theorem SubU.set (U : List Bool) (i : Nat) : SubU U (U.set i true) := ⟨by simp, fun j hj => by
  by_cases e : j = i
  · subst e
    have hlt := (List.getElem?_eq_some_iff.1 hj).1
    rw [List.getElem?_set_self hlt]
  · rw [List.getElem?_set_ne (fun e' => e e'.symm)]; exact hj⟩
/-- A search that has found nothing, from nothing used. -/
theorem clo_no {l : List Lk} {x y : Int} {U : List Bool} (h : CloS l y (List.replicate l.length false) U) (h0 : ∀ (j : Nat) (k : Lk), l[j]? = some k → k.1 = x → U[j]? = some true) : ¬ Rea l x y :=
  no_rea (S := fun i => U[i]? = some true) h0 fun i k hi hu => by
    rcases h i k hi hu with h1 | h1
    · exfalso
      have := List.mem_of_getElem? h1
      simp at this
    · exact h1
end Go.Proofs.YtolbceckbnifmaaGreat

namespace Go.Proofs.YtolbceckbnifmaaGreat

theorem perm_sorted {α : Type} {R : α → α → Prop} (ha : ∀ a b, R a b → ¬ R b a) : ∀ {l r : List α}, l.Perm r → l.Pairwise R → r.Pairwise R → l = r
  | [], r, h, _, _ => (List.nil_perm.1 h).symm
  | a :: l, [], h, _, _ => absurd h.length_eq (by simp)
  | a :: l, b :: r, h, hl, hr => by
    have hl' := List.pairwise_cons.1 hl
    have hr' := List.pairwise_cons.1 hr
    have hab : a = b := by
      rcases List.mem_cons.1 (h.subset List.mem_cons_self) with e | h1
      · exact e
      · rcases List.mem_cons.1 (h.symm.subset List.mem_cons_self) with e | h2
        · exact e.symm
        · exact absurd (hl'.1 b h2) (ha b a (hr'.1 a h1))
    subst hab
    rw [perm_sorted ha ((List.perm_cons a).1 h) hl'.2 hr'.2]
/-- The place of a candidate in the lot. -/
def placeL (lot : List Int) (x : Int) : Nat := match lot.findIdx? (fun y => decide (y = x)) with | some i => i | none => lot.length
/-- Link a comes before link b. -/
def aheadL (lot : List Int) (a b : Lk) : Prop :=
  b.2.2.1 < a.2.2.1 ∨ b.2.2.1 = a.2.2.1 ∧ (b.2.2.2 < a.2.2.2 ∨ b.2.2.2 = a.2.2.2 ∧ (placeL lot a.1 < placeL lot b.1 ∨ a.1 = b.1 ∧ placeL lot a.2.1 < placeL lot b.2.1))
theorem ahead_asym {lot : List Int} (a b : Lk) (h : aheadL lot a b) : ¬ aheadL lot b a := by
  unfold aheadL at *
  rcases h with h | ⟨e1, h | ⟨e2, h | ⟨e3, h⟩⟩⟩
  · rintro (g | ⟨g1, g⟩) <;> omega
  · rintro (g | ⟨g1, g | ⟨g2, g⟩⟩) <;> omega
  · rintro (g | ⟨g1, g | ⟨g2, g | ⟨g3, g⟩⟩⟩)
    · omega
    · omega
    · omega
    · rw [g3] at h; omega
  · rintro (g | ⟨g1, g | ⟨g2, g | ⟨g3, g⟩⟩⟩)
    · omega
    · omega
    · rw [e3] at g; omega
    · omega
/-- The links in order are one list, however they were found. -/
theorem order_one {lot : List Int} {l r : List Lk} (h : l.Perm r) (hl : l.Pairwise (aheadL lot)) (hr : r.Pairwise (aheadL lot)) : l = r := perm_sorted ahead_asym h hl hr
end Go.Proofs.YtolbceckbnifmaaGreat

namespace Go.Proofs.YtolbceckbnifmaaGreat

/-- Where the value at place k comes from when the blocks [s, m) and [m, e) change places. -/
def rotI (s m e k : Nat) : Nat := if k < s then k else if k < s + (e - m) then m + (k - s) else if k < e then k - (e - m) else k
/-- Where the value at place k comes from when n places at a and n at b change places. -/
def swpI (a b n k : Nat) : Nat := if a ≤ k ∧ k < a + n then b + (k - a) else if b ≤ k ∧ k < b + n then a + (k - b) else k
theorem rot_lt {s m e k : Nat} (h : k < s) : rotI s m e k = k := by unfold rotI; rw [if_pos h]
theorem rot_ge {s m e k : Nat} (h1 : s ≤ m) (h2 : m ≤ e) (h : e ≤ k) : rotI s m e k = k := by unfold rotI; rw [if_neg (by omega), if_neg (by omega), if_neg (by omega)]
theorem rot_a {s m e k : Nat} (h1 : s ≤ k) (h2 : k < s + (e - m)) : rotI s m e k = m + (k - s) := by unfold rotI; rw [if_neg (by omega), if_pos h2]
theorem rot_b {s m e k : Nat} (_h1 : s ≤ m) (_h2 : m ≤ e) (h3 : s + (e - m) ≤ k) (h4 : k < e) : rotI s m e k = k - (e - m) := by
  unfold rotI; rw [if_neg (by omega), if_neg (by omega), if_pos h4]
/-- The steps of the rotation by blocks. -/
theorem rot_more {m i j : Nat} (hi : i ≤ m) (h : j < i) (k : Nat) : swpI (m - i) m j (rotI (m - i + j) m (m + j) k) = rotI (m - i) m (m + j) k := by
  unfold swpI rotI; repeat' split
  all_goals omega
theorem rot_less {m i j : Nat} (hi : i ≤ m) (h : i < j) (k : Nat) : swpI (m - i) (m + j - i) i (rotI (m - i) m (m + j - i) k) = rotI (m - i) m (m + j) k := by
  unfold swpI rotI; repeat' split
  all_goals omega
theorem rot_same {m i : Nat} (hi : i ≤ m) (k : Nat) : swpI (m - i) m i k = rotI (m - i) m (m + i) k := by
  unfold swpI rotI; repeat' split
  all_goals omega
theorem rot_down {j i : Nat} (h : j < i) (k : Nat) : rotI (j + 1) i (i + 1) (if k = j then j + 1 else if k = j + 1 then j else k) = rotI j i (i + 1) k := by
  unfold rotI; repeat' split
  all_goals omega

variable {α : Type}
/-- A list by places that come from another one's. -/
def byI [Inhabited α] (l : List α) (f : Nat → Nat) : List α := (List.range l.length).map fun k => l.getD (f k) default
theorem byI_len [Inhabited α] (l : List α) (f : Nat → Nat) : (byI l f).length = l.length := by unfold byI; simp
theorem byI_get [Inhabited α] (l : List α) (f : Nat → Nat) {k : Nat} (h : k < l.length) : (byI l f).getD k default = l.getD (f k) default := by
  unfold byI; rw [List.getD_eq_getElem?_getD, List.getElem?_map, List.getElem?_range h]; rfl
theorem list_ext [Inhabited α] {l r : List α} (hl : l.length = r.length) (h : ∀ k, k < l.length → l.getD k default = r.getD k default) : l = r := by
  refine List.ext_getElem hl fun k h1 h2 => ?_
  have := h k h1
  rwa [List.getD_eq_getElem?_getD, List.getD_eq_getElem?_getD, List.getElem?_eq_getElem h1, List.getElem?_eq_getElem h2] at this
/-- The list with two blocks changed is the list, in another order. -/
theorem rot_perm [Inhabited α] (l : List α) {s m e : Nat} (h1 : s ≤ m) (h2 : m ≤ e) (h3 : e ≤ l.length) : (byI l (rotI s m e)).Perm l := by
  have hA : byI l (rotI s m e) = l.take s ++ ((l.drop m).take (e - m) ++ ((l.drop s).take (m - s) ++ l.drop e)) := by
    refine list_ext ?_ fun k hk => ?_
    · rw [byI_len]; simp only [List.length_append, List.length_take, List.length_drop]; omega
    · rw [byI_len] at hk
      rw [byI_get l _ hk, List.getD_eq_getElem?_getD, List.getD_eq_getElem?_getD]
      congr 1
      by_cases c1 : k < s
      · rw [rot_lt c1, List.getElem?_append_left (by rw [List.length_take]; omega), List.getElem?_take_of_lt c1]
      rw [List.getElem?_append_right (by rw [List.length_take]; omega)]
      have e1 : (l.take s).length = s := by rw [List.length_take]; omega
      have e2 : ((l.drop m).take (e - m)).length = e - m := by rw [List.length_take, List.length_drop]; omega
      have e3 : ((l.drop s).take (m - s)).length = m - s := by rw [List.length_take, List.length_drop]; omega
      rw [e1]
      by_cases c2 : k < s + (e - m)
      · rw [rot_a (by omega) c2, List.getElem?_append_left (by omega), List.getElem?_take_of_lt (by omega), List.getElem?_drop]
      rw [List.getElem?_append_right (by omega), e2]
      by_cases c3 : k < e
      · rw [rot_b h1 h2 (by omega) c3, List.getElem?_append_left (by omega), List.getElem?_take_of_lt (by omega), List.getElem?_drop]
        congr 1; omega
      · rw [rot_ge h1 h2 (by omega), List.getElem?_append_right (by omega), e3, List.getElem?_drop]
        congr 1; omega
  rw [hA]
  have hB : l = l.take s ++ ((l.drop s).take (m - s) ++ ((l.drop m).take (e - m) ++ l.drop e)) := by
    have q1 : l.drop m = (l.drop m).take (e - m) ++ l.drop e := by
      have := (List.take_append_drop (e - m) (l.drop m)).symm
      rwa [List.drop_drop, show m + (e - m) = e by omega] at this
    have q2 : l.drop s = (l.drop s).take (m - s) ++ l.drop m := by
      have := (List.take_append_drop (m - s) (l.drop s)).symm
      rwa [List.drop_drop, show s + (m - s) = m by omega] at this
    rw [← q1, ← q2, List.take_append_drop]
  conv => rhs; rw [hB]
  refine List.Perm.append_left _ ?_
  rw [← List.append_assoc, ← List.append_assoc]
  exact List.Perm.append_right _ List.perm_append_comm

/-- A strict order up to ties. -/
structure WeakO (lt : α → α → Prop) : Prop where
  irr : ∀ a, ¬ lt a a
  trans : ∀ {a b c}, lt a b → lt b c → lt a c
  neg : ∀ {a b c}, ¬ lt a b → ¬ lt b c → ¬ lt a c
variable {lt T : α → α → Prop}
theorem WeakO.lt_le (W : WeakO lt) {a b c : α} (h : lt a b) (h' : ¬ lt c b) : lt a c := Classical.byContradiction fun n => W.neg n h' h
theorem WeakO.le_lt (W : WeakO lt) {a b c : α} (h : ¬ lt b a) (h' : lt b c) : lt a c := Classical.byContradiction fun n => W.neg h n h'
theorem WeakO.asym (W : WeakO lt) {a b : α} (h : lt a b) : ¬ lt b a := fun g => W.irr a (W.trans h g)
/-- The places from a to b are in order. -/
def SegS (lt : α → α → Prop) (d : Nat → α) (a b : Nat) : Prop := ∀ i j, a ≤ i → i < j → j < b → ¬ lt (d j) (d i)
/-- What is alike stands as T has it. -/
def StabS (lt T : α → α → Prop) (d : Nat → α) (n : Nat) : Prop := ∀ i j, i < j → j < n → lt (d j) (d i) ∨ T (d i) (d j)
/-- Only the places from a to b have changed, among themselves. -/
def MrgS (d d' : Nat → α) (a b : Nat) : Prop := (∀ k, k < a ∨ b ≤ k → d' k = d k) ∧ ∀ k, a ≤ k → k < b → ∃ k', a ≤ k' ∧ k' < b ∧ d' k = d k'
theorem MrgS.refl (d : Nat → α) (a b : Nat) : MrgS d d a b := ⟨fun _ _ => rfl, fun k h1 h2 => ⟨k, h1, h2, rfl⟩⟩
theorem MrgS.trans {d d1 d2 : Nat → α} {a b : Nat} (h : MrgS d d1 a b) (h' : MrgS d1 d2 a b) : MrgS d d2 a b :=
  ⟨fun k hk => (h'.1 k hk).trans (h.1 k hk), fun k h1 h2 => by
    obtain ⟨k1, g1, g2, g3⟩ := h'.2 k h1 h2
    obtain ⟨k2, f1, f2, f3⟩ := h.2 k1 g1 g2
    exact ⟨k2, f1, f2, g3.trans f3⟩⟩
theorem MrgS.wide {d d' : Nat → α} {a b a' b' : Nat} (h : MrgS d d' a b) (ha : a' ≤ a) (hb : b ≤ b') : MrgS d d' a' b' :=
  ⟨fun k hk => h.1 k (by omega), fun k h1 h2 => by
    by_cases c : a ≤ k ∧ k < b
    · obtain ⟨k', g1, g2, g3⟩ := h.2 k c.1 c.2
      exact ⟨k', by omega, by omega, g3⟩
    · exact ⟨k, h1, h2, h.1 k (by omega)⟩⟩
theorem MrgS.rot (d : Nat → α) {s m e : Nat} (h1 : s ≤ m) (h2 : m ≤ e) : MrgS d (fun k => d (rotI s m e k)) s e :=
  ⟨fun k hk => by
    show d _ = d k
    rcases hk with hk | hk
    · rw [rot_lt hk]
    · rw [rot_ge h1 h2 hk], fun k g1 g2 => ⟨rotI s m e k, by unfold rotI; split <;> (try split) <;> (try split) <;> omega, by unfold rotI; split <;> (try split) <;> (try split) <;> omega, rfl⟩⟩
/-- In order and stable: in T's order. -/
theorem seg_done {d : Nat → α} {n : Nat} (hs : StabS lt T d n) (h : SegS lt d 0 n) : ∀ i j, i < j → j < n → T (d i) (d j) := fun i j hij hj => (hs i j hij hj).resolve_left (h i j (Nat.zero_le _) hij hj)
/-- Two blocks change places: what comes ahead was before by cmp. -/
theorem stab_rot (_W : WeakO lt) (hT : ∀ a b, lt a b → T a b) {d : Nat → α} {n s m e : Nat} (h1 : s ≤ m) (h2 : m ≤ e) (_h3 : e ≤ n) (hs : StabS lt T d n) (hlt : ∀ x y, m ≤ x → x < e → s ≤ y → y < m → lt (d x) (d y)) : StabS lt T (fun k => d (rotI s m e k)) n := fun i j hij hj => by
  show lt (d _) (d _) ∨ T (d _) (d _)
  have hcase : rotI s m e i < rotI s m e j ∧ rotI s m e j < n ∨ (m ≤ rotI s m e i ∧ rotI s m e i < e ∧ s ≤ rotI s m e j ∧ rotI s m e j < m) := by
    unfold rotI
    split <;> split <;> (try split) <;> (try split) <;> (try split) <;> (try split) <;> omega
  rcases hcase with ⟨c1, c2⟩ | ⟨c1, c2, c3, c4⟩
  · exact hs _ _ c1 c2
  · exact .inr (hT _ _ (hlt _ _ c1 c2 c3 c4))
/-- The value at i is put at j, ahead of what it is before by cmp. -/
theorem ins_seg (W : WeakO lt) {d : Nat → α} {a j i : Nat} (h1 : a ≤ j) (h2 : j ≤ i) (hs : SegS lt d a i) (hlt : ∀ k, j ≤ k → k < i → lt (d i) (d k)) (hle : j = a ∨ ¬ lt (d i) (d (j - 1))) : SegS lt (fun k => d (rotI j i (i + 1) k)) a (i + 1) := fun x y hx hxy hy => by
  show ¬ lt (d _) (d _)
  by_cases c1 : y < j
  · rw [rot_lt c1, rot_lt (show x < j by omega)]; exact hs x y hx hxy (by omega)
  by_cases c2 : y = j
  · rw [rot_a (by omega) (by omega), rot_lt (show x < j by omega), show i + (y - j) = i by omega]
    rcases hle with e | e
    · omega
    · by_cases c3 : x = j - 1
      · rw [c3]; exact e
      · exact W.neg e (hs x (j - 1) hx (by omega) (by omega))
  rw [rot_b (k := y) h2 (by omega) (by omega) hy, show y - (i + 1 - i) = y - 1 by omega]
  by_cases c3 : x < j
  · rw [rot_lt c3]; exact hs x (y - 1) hx (by omega) (by omega)
  by_cases c4 : x = j
  · rw [rot_a (by omega) (by omega), show i + (x - j) = i by omega]
    exact W.asym (hlt (y - 1) (by omega) (by omega))
  · rw [rot_b (k := x) h2 (by omega) (by omega) (by omega), show x - (i + 1 - i) = x - 1 by omega]
    exact hs (x - 1) (y - 1) (by omega) (by omega) (by omega)
/-- The value at a is put behind those from a + 1 to i, which are before it by cmp. -/
theorem ins_seg2 (W : WeakO lt) {d : Nat → α} {a i b : Nat} (h1 : a + 1 ≤ i) (h2 : i ≤ b) (hs : SegS lt d (a + 1) b) (hlt : ∀ k, a + 1 ≤ k → k < i → lt (d k) (d a)) (hle : i = b ∨ ¬ lt (d i) (d a)) : SegS lt (fun k => d (rotI a (a + 1) i k)) a b := fun x y hx hxy hy => by
  show ¬ lt (d _) (d _)
  by_cases c1 : y < i - 1
  · rw [rot_a (k := y) (by omega) (by omega), rot_a (k := x) (by omega) (by omega)]
    exact hs _ _ (by omega) (by omega) (by omega)
  by_cases c2 : y = i - 1
  · rw [rot_b (k := y) (by omega) (by omega) (by omega) (by omega), rot_a (k := x) (by omega) (by omega), show y - (i - (a + 1)) = a by omega]
    exact W.asym (hlt _ (by omega) (by omega))
  rw [rot_ge (k := y) (by omega) (by omega) (by omega)]
  have hgt : ¬ lt (d y) (d a) := by
    rcases hle with e | e
    · omega
    · by_cases c3 : y = i
      · rw [c3]; exact e
      · exact W.neg (hs i y (by omega) (by omega) hy) e
  by_cases c3 : x < i - 1
  · rw [rot_a (k := x) (by omega) (by omega)]; exact hs _ _ (by omega) (by omega) hy
  by_cases c4 : x = i - 1
  · rw [rot_b (k := x) (by omega) (by omega) (by omega) (by omega), show x - (i - (a + 1)) = a by omega]; exact hgt
  · rw [rot_ge (k := x) (by omega) (by omega) (by omega)]; exact hs _ _ (by omega) hxy hy
/-- The cut of the symmetric merge: what the two halves hold. -/
structure SymCut (lt : α → α → Prop) (d : Nat → α) (a m b s e : Nat) : Prop where
  as_ : a ≤ s
  sm : s ≤ m
  me : m ≤ e
  eb : e ≤ b
  hi : s < m → m < e → lt (d (e - 1)) (d s)
  lo : a < s → e < b → ¬ lt (d e) (d (s - 1))
theorem SymCut.swap {d : Nat → α} {a m b s e : Nat} (W : WeakO lt) (h1 : SegS lt d a m) (h2 : SegS lt d m b) (c : SymCut lt d a m b s e) : ∀ x y, m ≤ x → x < e → s ≤ y → y < m → lt (d x) (d y) := fun x y hx hxe hy hym => by
  have hh := c.hi (by omega) (by omega)
  have q1 : lt (d x) (d s) := by
    by_cases e1 : x = e - 1
    · rw [e1]; exact hh
    · exact W.le_lt (h2 x (e - 1) hx (by omega) (by have := c.eb; omega)) hh
  by_cases e2 : y = s
  · rw [e2]; exact q1
  · exact W.lt_le q1 (h1 s y c.as_ (by omega) hym)
/-- The halves behind the rotation: each is two pieces in order. -/
theorem SymCut.segs {d : Nat → α} {a m b s e k : Nat} (h1 : SegS lt d a m) (h2 : SegS lt d m b) (c : SymCut lt d a m b s e) (hk : k = s + (e - m)) :
    SegS lt (fun i => d (rotI s m e i)) a s ∧ SegS lt (fun i => d (rotI s m e i)) s k ∧ SegS lt (fun i => d (rotI s m e i)) k e ∧ SegS lt (fun i => d (rotI s m e i)) e b := by
  obtain ⟨c1, c2, c3, c4, -, -⟩ := c
  refine ⟨fun x y hx hxy hy => ?_, fun x y hx hxy hy => ?_, fun x y hx hxy hy => ?_, fun x y hx hxy hy => ?_⟩ <;> show ¬ lt (d _) (d _)
  · rw [rot_lt (k := y) (by omega), rot_lt (k := x) (by omega)]; exact h1 _ _ (by omega) (by omega) (by omega)
  · rw [rot_a (k := y) (by omega) (by omega), rot_a (k := x) (by omega) (by omega)]; exact h2 _ _ (by omega) (by omega) (by omega)
  · rw [rot_b (k := y) (by omega) (by omega) (by omega) (by omega), rot_b (k := x) (by omega) (by omega) (by omega) (by omega)]; exact h1 _ _ (by omega) (by omega) (by omega)
  · rw [rot_ge (k := y) (by omega) (by omega) (by omega), rot_ge (k := x) (by omega) (by omega) (by omega)]; exact h2 _ _ (by omega) (by omega) (by omega)
/-- Behind the rotation nothing of the right half is before anything of the left half. -/
theorem SymCut.apart {d : Nat → α} {a m b s e k : Nat} (W : WeakO lt) (h1 : SegS lt d a m) (h2 : SegS lt d m b) (c : SymCut lt d a m b s e) (hk : k = s + (e - m)) :
    ∀ x y, a ≤ x → x < k → k ≤ y → y < b → ¬ lt (d (rotI s m e y)) (d (rotI s m e x)) := fun x y hx hxk hy hyb => by
  have hs := c.swap W h1 h2
  obtain ⟨c1, c2, c3, c4, -, hlo⟩ := c
  by_cases p1 : x < s
  · rw [rot_lt (k := x) p1]
    by_cases p2 : y < e
    · rw [rot_b (k := y) c2 c3 (by omega) p2]; exact h1 _ _ hx (by omega) (by omega)
    · rw [rot_ge (k := y) c2 c3 (by omega)]
      have hl := hlo (by omega) (by omega)
      have q1 : ¬ lt (d y) (d (s - 1)) := by
        by_cases e1 : y = e
        · rw [e1]; exact hl
        · exact W.neg (h2 e y (by omega) (by omega) hyb) hl
      by_cases e2 : x = s - 1
      · rw [e2]; exact q1
      · exact W.neg q1 (h1 x (s - 1) hx (by omega) (by omega))
  · rw [rot_a (k := x) (by omega) (by omega)]
    by_cases p2 : y < e
    · rw [rot_b (k := y) c2 c3 (by omega) p2]
      exact W.asym (hs _ _ (by omega) (by omega) (by omega) (by omega))
    · rw [rot_ge (k := y) c2 c3 (by omega)]; exact h2 _ _ (by omega) (by omega) hyb
/-- Two halves that are put in order, each for itself, when nothing of the right one is before anything of the left one. -/
theorem seg_join (d : Nat → α) {d2 d3 : Nat → α} {a k b : Nat} (hak : a ≤ k) (hkb : k ≤ b) (h : ∀ x y, a ≤ x → x < k → k ≤ y → y < b → ¬ lt (d y) (d x)) (m2 : MrgS d d2 a k) (s2 : SegS lt d2 a k) (m3 : MrgS d2 d3 k b) (s3 : SegS lt d3 k b) : SegS lt d3 a b ∧ MrgS d d3 a b := by
  refine ⟨fun x y hx hxy hy => ?_, (m2.wide (Nat.le_refl a) hkb).trans (m3.wide hak (Nat.le_refl b))⟩
  by_cases p1 : y < k
  · rw [m3.1 y (.inl p1), m3.1 x (.inl (by omega))]; exact s2 x y hx hxy p1
  by_cases p2 : x < k
  · rw [m3.1 x (.inl p2)]
    obtain ⟨x', q1, q2, q3⟩ := m2.2 x hx p2
    obtain ⟨y', r1, r2, r3⟩ := m3.2 y (by omega) hy
    rw [q3, r3, m2.1 y' (.inr r1)]
    exact h x' y' q1 q2 r1 r2
  · exact s3 x y (by omega) hxy hy
end Go.Proofs.YtolbceckbnifmaaGreat

namespace Go.Proofs.YtolbceckbnifmaaGreat
variable {α : Type} [Inhabited α]

/-- The value at a place. -/
def gd (l : List α) (k : Nat) : α := l.getD k default
theorem gd_get {l : List α} {k : Nat} {x : α} (h : l[k]? = some x) : gd l k = x := by unfold gd; rw [List.getD_eq_getElem?_getD, h]; rfl
theorem get_gd {l : List α} {k : Nat} (h : k < l.length) : l[k]? = some (gd l k) := by
  rw [List.getElem?_eq_getElem h]; congr 1; exact (gd_get (List.getElem?_eq_getElem h)).symm
theorem gd_byI (l : List α) (f : Nat → Nat) {k : Nat} (h : k < l.length) : gd (byI l f) k = gd l (f k) := byI_get l f h
theorem byI_congr {l : List α} {f g : Nat → Nat} (h : ∀ k, k < l.length → gd l (f k) = gd l (g k)) : byI l f = byI l g :=
  list_ext (by rw [byI_len, byI_len]) fun k hk => by
    rw [byI_len] at hk
    exact (gd_byI l f hk).trans ((h k hk).trans (gd_byI l g hk).symm)
theorem byI_id {l : List α} {f : Nat → Nat} (h : ∀ k, k < l.length → f k = k) : byI l f = l :=
  list_ext (byI_len l f) fun k hk => by
    rw [byI_len] at hk
    rw [byI_get l f hk, h k hk]
theorem byI_byI (l : List α) {f g : Nat → Nat} (h : ∀ k, k < l.length → g k < l.length) : byI (byI l f) g = byI l (fun k => f (g k)) :=
  list_ext (by rw [byI_len, byI_len, byI_len]) fun k hk => by
    rw [byI_len, byI_len] at hk
    have h1 := gd_byI (byI l f) g (k := k) (by rw [byI_len]; exact hk)
    have h2 := gd_byI l f (h k hk)
    have h3 := gd_byI l (fun k => f (g k)) hk
    exact h1.trans (h2.trans h3.symm)
/-- Two values change places. -/
def swap2 (l : List α) (i j : Nat) : List α := (l.set i (gd l j)).set j (gd l i)
def two (i j k : Nat) : Nat := if k = i then j else if k = j then i else k
theorem swap2_len (l : List α) (i j : Nat) : (swap2 l i j).length = l.length := by unfold swap2; simp
theorem swap2_eq {l : List α} {i j : Nat} (hi : i < l.length) (hj : j < l.length) : swap2 l i j = byI l (two i j) :=
  list_ext (by rw [swap2_len, byI_len]) fun k hk => by
    rw [swap2_len] at hk
    refine Eq.trans ?_ (gd_byI l (two i j) hk).symm
    unfold swap2 two
    rw [List.getD_eq_getElem?_getD]
    by_cases e1 : k = j
    · subst e1
      rw [List.getElem?_set_self (by rw [List.length_set]; exact hk)]
      by_cases e2 : k = i
      · rw [if_pos e2, e2]; rfl
      · rw [if_neg e2, if_pos rfl]; rfl
    · rw [List.getElem?_set_ne (Ne.symm e1)]
      by_cases e2 : k = i
      · subst e2
        rw [List.getElem?_set_self hk, if_pos rfl]; rfl
      · rw [List.getElem?_set_ne (Ne.symm e2), if_neg e2, if_neg e1]
        unfold gd; rw [List.getD_eq_getElem?_getD]
theorem swap2_comm {l : List α} {i j : Nat} (hi : i < l.length) (hj : j < l.length) : swap2 l i j = swap2 l j i := by
  rw [swap2_eq hi hj, swap2_eq hj hi]
  refine byI_congr fun k _ => congrArg (gd l) ?_
  unfold two; repeat' split
  all_goals omega
theorem two_lt {n i j : Nat} (hi : i < n) (hj : j < n) : ∀ k, k < n → two i j k < n := fun k hk => by
  unfold two; repeat' split
  all_goals omega
theorem rotI_lt {s m e n : Nat} (_h1 : s ≤ m) (h2 : m ≤ e) (h3 : e ≤ n) : ∀ k, k < n → rotI s m e k < n := fun k hk => by
  unfold rotI; repeat' split
  all_goals omega
theorem swpI_lt {a b c n : Nat} (_h1 : a + c ≤ b) (h2 : b + c ≤ n) : ∀ k, k < n → swpI a b c k < n := fun k hk => by
  unfold swpI; repeat' split
  all_goals omega
/-- The next swap of two blocks. -/
theorem swp_next {l : List α} {a b i : Nat} (h1 : a + i < b) (h2 : b + i < l.length) : swap2 (byI l (swpI a b i)) (a + i) (b + i) = byI l (swpI a b (i + 1)) := by
  rw [swap2_eq (by rw [byI_len]; omega) (by rw [byI_len]; omega), byI_byI l (two_lt (by omega) (by omega))]
  refine byI_congr fun k _ => congrArg (gd l) ?_
  show swpI a b i (two (a + i) (b + i) k) = _
  unfold two swpI; repeat' split
  all_goals omega
/-- A value goes one place down. -/
theorem down_next {l : List α} {j i : Nat} (h1 : j < i) (h2 : i < l.length) : swap2 (byI l (rotI (j + 1) i (i + 1))) (j + 1) j = byI l (rotI j i (i + 1)) := by
  rw [swap2_eq (by rw [byI_len]; omega) (by rw [byI_len]; omega), byI_byI l (two_lt (by omega) (by omega))]
  refine byI_congr fun k _ => congrArg (gd l) ?_
  show rotI (j + 1) i (i + 1) (two (j + 1) j k) = _
  unfold two rotI; repeat' split
  all_goals omega
/-- A value goes one place up. -/
theorem up_next {l : List α} {a k : Nat} (h1 : a ≤ k) (h2 : k + 1 < l.length) : swap2 (byI l (rotI a (a + 1) (k + 1))) k (k + 1) = byI l (rotI a (a + 1) (k + 2)) := by
  rw [swap2_eq (by rw [byI_len]; omega) (by rw [byI_len]; omega), byI_byI l (two_lt (by omega) (by omega))]
  refine byI_congr fun x _ => congrArg (gd l) ?_
  show rotI a (a + 1) (k + 1) (two k (k + 1) x) = _
  unfold two rotI; repeat' split
  all_goals omega
theorem rot_none (l : List α) {s e : Nat} (h : s ≤ e) : byI l (rotI s s e) = l := byI_id fun k _ => by
  unfold rotI; repeat' split
  all_goals omega
theorem rot_none2 (l : List α) {s e : Nat} (h : s ≤ e) : byI l (rotI s e e) = l := byI_id fun k _ => by
  unfold rotI; repeat' split
  all_goals omega
/-- The rotation's steps. -/
theorem rotL_more {l : List α} {m i j : Nat} (hi : i ≤ m) (h : j < i) (hn : m + j ≤ l.length) : byI (byI l (swpI (m - i) m j)) (rotI (m - i + j) m (m + j)) = byI l (rotI (m - i) m (m + j)) := by
  rw [byI_byI l (rotI_lt (by omega) (by omega) hn)]
  exact byI_congr fun k _ => congrArg (gd l) (rot_more hi h k)
theorem rotL_less {l : List α} {m i j : Nat} (hi : i ≤ m) (h : i < j) (hn : m + j ≤ l.length) : byI (byI l (swpI (m - i) (m + j - i) i)) (rotI (m - i) m (m + j - i)) = byI l (rotI (m - i) m (m + j)) := by
  rw [byI_byI l (rotI_lt (by omega) (by omega) (by omega))]
  exact byI_congr fun k _ => congrArg (gd l) (rot_less hi h k)
theorem rotL_same {l : List α} {m i : Nat} (hi : i ≤ m) : byI l (swpI (m - i) m i) = byI l (rotI (m - i) m (m + i)) := byI_congr fun k _ => congrArg (gd l) (rot_same hi k)

variable {lt T : α → α → Prop}
/-- What a part of the sort leaves: the same values, changed only from a to b, and stable. -/
structure Srt (lt T : α → α → Prop) (l l' : List α) (a b : Nat) : Prop where
  perm : l'.Perm l
  mrg : MrgS (gd l) (gd l') a b
  stab : StabS lt T (gd l) l.length → StabS lt T (gd l') l'.length
theorem Srt.len {l l' : List α} {a b : Nat} (h : Srt lt T l l' a b) : l'.length = l.length := h.perm.length_eq
theorem Srt.refl (l : List α) (a b : Nat) : Srt lt T l l a b := ⟨List.Perm.refl _, MrgS.refl _ _ _, id⟩
theorem Srt.trans {l l1 l2 : List α} {a b : Nat} (h : Srt lt T l l1 a b) (g : Srt lt T l1 l2 a b) : Srt lt T l l2 a b := ⟨g.perm.trans h.perm, h.mrg.trans g.mrg, fun s => g.stab (h.stab s)⟩
theorem Srt.wide {l l1 : List α} {a b a' b' : Nat} (h : Srt lt T l l1 a b) (ha : a' ≤ a) (hb : b ≤ b') : Srt lt T l l1 a' b' := ⟨h.perm, h.mrg.wide ha hb, h.stab⟩
theorem gd_rot (l : List α) {s m e : Nat} (h1 : s ≤ m) (h2 : m ≤ e) (h3 : e ≤ l.length) : gd (byI l (rotI s m e)) = fun k => gd l (rotI s m e k) := by
  funext k
  by_cases hk : k < l.length
  · exact gd_byI l _ hk
  · rw [rot_ge h1 h2 (by omega)]
    unfold gd
    rw [List.getD_eq_getElem?_getD, List.getD_eq_getElem?_getD, List.getElem?_eq_none (by rw [byI_len]; omega), List.getElem?_eq_none (by omega)]
theorem Srt.rot (W : WeakO lt) (hT : ∀ a b, lt a b → T a b) (l : List α) {s m e : Nat} (h1 : s ≤ m) (h2 : m ≤ e) (h3 : e ≤ l.length) (hlt : ∀ x y, m ≤ x → x < e → s ≤ y → y < m → lt (gd l x) (gd l y)) : Srt lt T l (byI l (rotI s m e)) s e :=
  ⟨rot_perm l h1 h2 h3, by rw [gd_rot l h1 h2 h3]; exact MrgS.rot _ h1 h2, fun hs => by rw [gd_rot l h1 h2 h3, byI_len]; exact stab_rot W hT h1 h2 h3 hs hlt⟩
theorem seg_keep {β : Type} {lt : β → β → Prop} {d d' : Nat → β} {a b s e : Nat} (h : SegS lt d a b) (hm : MrgS d d' s e) (ho : b ≤ s ∨ e ≤ a) : SegS lt d' a b := fun i j hi hij hj => by
  rw [hm.1 i (by omega), hm.1 j (by omega)]; exact h i j hi hij hj
theorem seg_sub {β : Type} {lt : β → β → Prop} {d : Nat → β} {a b a' b' : Nat} (h : SegS lt d a b) (ha : a ≤ a') (hb : b' ≤ b) : SegS lt d a' b' := fun i j hi hij hj => h i j (by omega) hij (by omega)
theorem seg_one {β : Type} {lt : β → β → Prop} (d : Nat → β) {a b : Nat} (h : b ≤ a + 1) : SegS lt d a b := fun i j hi hij hj => by omega
/-- Sorted and stable: in T's order. -/
theorem srt_done {l l' : List α} {a b : Nat} (h : Srt lt T l l' a b) (hs : l.Pairwise fun x y => lt y x ∨ T x y) (hg : SegS lt (gd l') 0 l'.length) : l'.Perm l ∧ l'.Pairwise T := by
  refine ⟨h.perm, ?_⟩
  have hst : StabS lt T (gd l) l.length := fun i j hij hj => by
    have := List.pairwise_iff_getElem.1 hs i j (by omega) hj hij
    rwa [← gd_get (List.getElem?_eq_getElem hj), ← gd_get (List.getElem?_eq_getElem (show i < l.length by omega))] at this
  have hd := seg_done (h.stab hst) hg
  rw [List.pairwise_iff_getElem]
  intro i j hi hj hij
  have := hd i j hij hj
  rwa [gd_get (List.getElem?_eq_getElem hi), gd_get (List.getElem?_eq_getElem hj)] at this
/-- One value is put into its place, downwards. -/
theorem srt_ins (W : WeakO lt) (hT : ∀ a b, lt a b → T a b) (l : List α) {a j i : Nat} (h1 : a ≤ j) (h2 : j ≤ i) (h3 : i < l.length) (hs : SegS lt (gd l) a i) (hlt : ∀ k, j ≤ k → k < i → lt (gd l i) (gd l k)) (hle : j = a ∨ ¬ lt (gd l i) (gd l (j - 1))) :
    Srt lt T l (byI l (rotI j i (i + 1))) a (i + 1) ∧ SegS lt (gd (byI l (rotI j i (i + 1)))) a (i + 1) :=
  ⟨(Srt.rot W hT l h2 (by omega) (by omega) fun x y hx hx' hy hy' => by rw [show x = i by omega]; exact hlt y hy hy').wide h1 (Nat.le_refl _), by rw [gd_rot l h2 (by omega) (by omega)]; exact ins_seg W h1 h2 hs hlt hle⟩
/-- One value is put into its place, upwards. -/
theorem srt_ins2 (W : WeakO lt) (hT : ∀ a b, lt a b → T a b) (l : List α) {a i b : Nat} (h1 : a + 1 ≤ i) (h2 : i ≤ b) (h3 : b ≤ l.length) (hs : SegS lt (gd l) (a + 1) b) (hlt : ∀ k, a + 1 ≤ k → k < i → lt (gd l k) (gd l a)) (hle : i = b ∨ ¬ lt (gd l i) (gd l a)) :
    Srt lt T l (byI l (rotI a (a + 1) i)) a b ∧ SegS lt (gd (byI l (rotI a (a + 1) i))) a b :=
  ⟨(Srt.rot W hT l (by omega) h1 (by omega) fun x y hx hx' hy hy' => by rw [show y = a by omega]; exact hlt x hx hx').wide (Nat.le_refl _) h2, by rw [gd_rot l (by omega) h1 (by omega)]; exact ins_seg2 W h1 h2 hs hlt hle⟩
/-- The symmetric merge, joined: the rotation, then each half for itself. -/
theorem srt_sym (W : WeakO lt) (hT : ∀ a b, lt a b → T a b) {l l2 l3 : List α} {a m b s e k : Nat} (hb : b ≤ l.length) (h1 : SegS lt (gd l) a m) (h2 : SegS lt (gd l) m b) (c : SymCut lt (gd l) a m b s e) (hk : k = s + (e - m)) (hkb : k ≤ b)
    (g2 : Srt lt T (byI l (rotI s m e)) l2 a k) (s2 : SegS lt (gd l2) a k) (g3 : Srt lt T l2 l3 k b) (s3 : SegS lt (gd l3) k b) : Srt lt T l l3 a b ∧ SegS lt (gd l3) a b := by
  have hw := c.swap W h1 h2
  have ha := c.apart W h1 h2 hk
  obtain ⟨c1, c2, c3, c4, -, -⟩ := c
  have hr := (Srt.rot (T := T) W hT l c2 c3 (by omega) hw).wide c1 c4
  have hj := seg_join (lt := lt) (d := gd (byI l (rotI s m e))) (d2 := gd l2) (d3 := gd l3) (a := a) (k := k) (b := b) (by omega) hkb (by rw [gd_rot l c2 c3 (by omega)]; exact ha) g2.mrg s2 g3.mrg s3
  exact ⟨⟨(g3.perm.trans g2.perm).trans hr.perm, hr.mrg.trans hj.2, fun s => g3.stab (g2.stab (hr.stab s))⟩, hj.1⟩
end Go.Proofs.YtolbceckbnifmaaGreat

namespace Go.Proofs.YtolbceckbnifmaaGreat

/-- One link looked at: where it leads, once. -/
def toStep (x : Int) (zs : List Int) (k : Lk) : List Int := if (k.1 = x ∨ k.1 ∈ zs) ∧ k.2.1 ∉ zs then zs ++ [k.2.1] else zs
/-- One round over the links. -/
def toRound (l : List Lk) (x : Int) (zs : List Int) : List Int := l.foldl (toStep x) zs
def toK (l : List Lk) (x : Int) : Nat → List Int
  | 0 => []
  | n + 1 => toRound l x (toK l x n)
/-- Whether links lead from x to y. -/
def leadsB (l : List Lk) (x y : Int) : Bool := inL (toK l x (l.length + 1)) y
theorem toStep_sub (x : Int) (zs : List Int) (k : Lk) : zs ⊆ toStep x zs k := by
  unfold toStep; split
  · exact fun _ h => List.mem_append_left _ h
  · exact fun _ h => h
theorem toRound_sub (l : List Lk) (x : Int) : ∀ zs, zs ⊆ toRound l x zs := by
  unfold toRound
  induction l with
  | nil => exact fun _ _ h => h
  | cons k l ih => exact fun zs _ h => ih (toStep x zs k) (toStep_sub x zs k h)
/-- What a round finds is reached, is found once, and is where some link leads. -/
structure ToOK (l : List Lk) (x : Int) (zs : List Int) : Prop where
  rea : ∀ z ∈ zs, Rea l x z
  once : zs.Nodup
  sub : zs ⊆ l.map fun k => k.2.1
theorem ToOK.nil (l : List Lk) (x : Int) : ToOK l x [] := ⟨fun _ h => by simp at h, List.nodup_nil, fun _ h => by simp at h⟩
theorem ToOK.step {l : List Lk} {x : Int} {zs : List Int} (h : ToOK l x zs) {k : Lk} (hk : k ∈ l) : ToOK l x (toStep x zs k) := by
  unfold toStep
  split
  · rename_i hc
    refine ⟨fun z hz => ?_, ?_, fun z hz => ?_⟩
    · rcases List.mem_append.1 hz with hz | hz
      · exact h.rea z hz
      · rw [List.mem_singleton.1 hz]
        rcases hc.1 with e | e
        · rw [← e]; exact .one hk
        · exact (h.rea _ e).trans (.one hk)
    · refine List.nodup_append.2 ⟨h.once, by simp, fun a ha b hb => ?_⟩
      rw [List.mem_singleton.1 hb]; exact fun e => hc.2 (e ▸ ha)
    · rcases List.mem_append.1 hz with hz | hz
      · exact h.sub hz
      · rw [List.mem_singleton.1 hz]; exact List.mem_map.2 ⟨k, hk, rfl⟩
  · exact h
theorem ToOK.part {l : List Lk} {x : Int} : ∀ {r : List Lk} {zs : List Int}, ToOK l x zs → r ⊆ l → ToOK l x (r.foldl (toStep x) zs)
  | [], _, h, _ => h
  | k :: r, zs, h, hr => ToOK.part (r := r) (zs := toStep x zs k) (h.step (hr List.mem_cons_self)) fun _ hk => hr (List.mem_cons_of_mem _ hk)
theorem toK_ok (l : List Lk) (x : Int) : ∀ n, ToOK l x (toK l x n)
  | 0 => .nil l x
  | n + 1 => (toK_ok l x n).part fun _ h => h
theorem toStep_len (x : Int) (zs : List Int) (k : Lk) : zs.length ≤ (toStep x zs k).length ∧ ((toStep x zs k).length = zs.length → toStep x zs k = zs) := by
  unfold toStep; split
  · refine ⟨by simp, fun h => ?_⟩
    simp at h
  · exact ⟨Nat.le_refl _, fun _ => rfl⟩
theorem toRound_len (x : Int) : ∀ (l : List Lk) (zs : List Int), zs.length ≤ (l.foldl (toStep x) zs).length ∧ ((l.foldl (toStep x) zs).length = zs.length → ∀ k ∈ l, toStep x zs k = zs)
  | [], zs => ⟨Nat.le_refl _, fun _ k hk => by simp at hk⟩
  | k :: l, zs => by
    have h1 := toStep_len x zs k
    have h2 := toRound_len x l (toStep x zs k)
    refine ⟨Nat.le_trans h1.1 h2.1, fun he => ?_⟩
    have e1 : toStep x zs k = zs := h1.2 (by have : (List.foldl (toStep x) (toStep x zs k) l).length = zs.length := he; omega)
    rw [e1] at h2
    have e2 := h2.2 (by have : (List.foldl (toStep x) (toStep x zs k) l).length = zs.length := he; rw [e1] at this; exact this)
    exact List.forall_mem_cons.2 ⟨e1, e2⟩
/-- An idle round: what is found is closed, and all that is reached. -/
theorem idle_all {l : List Lk} {x : Int} {zs : List Int} (h : ∀ k ∈ l, toStep x zs k = zs) : ∀ {a y : Int}, Rea l a y → (a = x ∨ a ∈ zs) → y ∈ zs := by
  have hc : ∀ k ∈ l, (k.1 = x ∨ k.1 ∈ zs) → k.2.1 ∈ zs := fun k hk ha => Classical.byContradiction fun hn => by
    have := h k hk
    unfold toStep at this
    rw [if_pos ⟨ha, hn⟩] at this
    have := congrArg List.length this
    simp at this
  intro a y hr
  induction hr with
  | one hk => exact hc _ hk
  | cons hk _ ih => exact fun ha => ih (.inr (hc _ hk ha))
theorem toK_grow (l : List Lk) (x : Int) : ∀ n, n ≤ (toK l x n).length ∨ ∃ j, j < n ∧ ∀ k ∈ l, toStep x (toK l x j) k = toK l x j
  | 0 => .inl (Nat.zero_le _)
  | n + 1 => by
    rcases toK_grow l x n with h | ⟨j, h1, h2⟩
    · have h3 := toRound_len x l (toK l x n)
      by_cases e : (l.foldl (toStep x) (toK l x n)).length = (toK l x n).length
      · exact .inr ⟨n, Nat.lt_succ_self n, h3.2 e⟩
      · left
        show n + 1 ≤ (l.foldl (toStep x) (toK l x n)).length
        omega
    · exact .inr ⟨j, Nat.lt_succ_of_lt h1, h2⟩
theorem toK_mono (l : List Lk) (x : Int) {i j : Nat} (h : i ≤ j) : toK l x i ⊆ toK l x j := by
  induction h with
  | refl => exact fun _ h => h
  | step _ ih => exact fun _ hz => toRound_sub l x _ (ih hz)
/-- The reference's search finds what is reached. -/
theorem leads_iff {l : List Lk} {x y : Int} : leadsB l x y = true ↔ Rea l x y := by
  unfold leadsB
  rw [inL_iff]
  refine ⟨(toK_ok l x _).rea y, fun h => ?_⟩
  rcases toK_grow l x (l.length + 1) with h1 | ⟨j, h1, h2⟩
  · have h3 := (toK_ok l x (l.length + 1)).once.length_le_of_subset (toK_ok l x (l.length + 1)).sub
    rw [List.length_map] at h3
    omega
  · exact toK_mono l x (Nat.le_of_lt h1) (idle_all h2 h (.inl rfl))

/-- The links that are locked. -/
def lockStep (l : List Lk) (k : Lk) : List Lk := if leadsB l k.2.1 k.1 = true then l else l ++ [k]
def lockS (all : List Lk) : List Lk := all.foldl lockStep []
theorem lock_take {all : List Lk} {i : Nat} {k : Lk} (h : all[i]? = some k) : lockS (all.take (i + 1)) = lockStep (lockS (all.take i)) k := by
  unfold lockS
  rw [List.take_add_one, h, List.foldl_append]; rfl
theorem lockStep_sub (l : List Lk) (k : Lk) : l ⊆ lockStep l k := by
  unfold lockStep; split
  · exact fun _ h => h
  · exact fun _ h => List.mem_append_left _ h
theorem lock_fold_sub : ∀ (r l : List Lk), l ⊆ r.foldl lockStep l
  | [], _ => fun _ h => h
  | k :: r, l => fun _ h => lock_fold_sub r (lockStep l k) (lockStep_sub l k h)
theorem lock_sublist : ∀ (all l : List Lk), (all.foldl lockStep l).Sublist (l ++ all)
  | [], l => by simp
  | k :: r, l => by
    have := lock_sublist r (lockStep l k)
    rw [List.foldl_cons]
    refine this.trans ?_
    unfold lockStep
    split
    · exact (List.sublist_cons_self k r).append_left l
    · rw [List.append_assoc]; exact List.Sublist.refl _
theorem lock_sub (all : List Lk) : (lockS all).Sublist all := lock_sublist all []
/-- A way with one more link: an elder way, or through the new link. -/
theorem rea_snoc {l : List Lk} {k : Lk} {x y : Int} (h : Rea (l ++ [k]) x y) : Rea l x y ∨ ((x = k.1 ∨ Rea l x k.1) ∧ (k.2.1 = y ∨ Rea l k.2.1 y)) := by
  induction h with
  | @one g hg =>
    rcases List.mem_append.1 hg with hg | hg
    · exact .inl (.one hg)
    · rw [List.mem_singleton.1 hg]; exact .inr ⟨.inl rfl, .inl rfl⟩
  | @cons g z hg _ ih =>
    rcases List.mem_append.1 hg with hg | hg
    · rcases ih with h1 | ⟨h1, h2⟩
      · exact .inl (.cons hg h1)
      · refine .inr ⟨.inr ?_, h2⟩
        rcases h1 with e | h1
        · rw [← e]; exact .one hg
        · exact .cons hg h1
    · have e := List.mem_singleton.1 hg
      subst e
      rcases ih with h1 | ⟨_, h2⟩
      · exact .inr ⟨.inl rfl, .inr h1⟩
      · exact .inr ⟨.inl rfl, h2⟩
/-- No cycle. -/
def Acyc (l : List Lk) : Prop := ∀ x, ¬ Rea l x x
theorem Acyc.nil : Acyc [] := fun _ h => h.nil_
theorem Acyc.step {l : List Lk} (h : Acyc l) {k : Lk} (hk : k.1 ≠ k.2.1) : Acyc (lockStep l k) := by
  unfold lockStep
  split
  · exact h
  · rename_i hn
    rw [leads_iff] at hn
    intro x hx
    rcases rea_snoc hx with h1 | ⟨h1, h2⟩
    · exact h x h1
    · rcases h1 with e1 | h1 <;> rcases h2 with e2 | h2
      · exact hk (e1.symm.trans e2.symm)
      · rw [e1] at h2; exact hn h2
      · rw [← e2] at h1; exact hn h1
      · exact hn (h2.trans h1)
theorem lock_acyc : ∀ {all l : List Lk}, Acyc l → (∀ k ∈ all, k.1 ≠ k.2.1) → Acyc (all.foldl lockStep l)
  | [], _, h, _ => h
  | k :: r, l, h, hk => lock_acyc (all := r) (l := lockStep l k) (h.step (hk k List.mem_cons_self)) fun g hg => hk g (List.mem_cons_of_mem _ hg)
theorem lockS_acyc {all : List Lk} (h : ∀ k ∈ all, k.1 ≠ k.2.1) : Acyc (lockS all) := lock_acyc .nil h
/-- A link that is not locked: the links locked before it lead back. -/
theorem lock_back {all : List Lk} {i : Nat} {k : Lk} (h : all[i]? = some k) (hn : k ∉ lockS all) : Rea (lockS (all.take i)) k.2.1 k.1 := by
  by_cases hl : leadsB (lockS (all.take i)) k.2.1 k.1 = true
  · exact leads_iff.1 hl
  · exfalso
    refine hn ?_
    have h1 : k ∈ lockS (all.take (i + 1)) := by
      rw [lock_take h]; unfold lockStep; rw [if_neg hl]; exact List.mem_append_right _ List.mem_cons_self
    have h2 : lockS all = (all.drop (i + 1)).foldl lockStep (lockS (all.take (i + 1))) := by
      conv => lhs; rw [← List.take_append_drop (i + 1) all]
      unfold lockS; rw [List.foldl_append]
    rw [h2]; exact lock_fold_sub _ _ h1
theorem lock_take_sub (all : List Lk) (i : Nat) : lockS (all.take i) ⊆ lockS all := by
  have h2 : lockS all = (all.drop i).foldl lockStep (lockS (all.take i)) := by
    conv => lhs; rw [← List.take_append_drop i all]
    unfold lockS; rw [List.foldl_append]
  rw [h2]; exact lock_fold_sub _ _

/-- A strict order on a list has a first one. -/
theorem min_ex {R : Int → Int → Prop} (hi : ∀ x, ¬ R x x) (ht : ∀ {x y z}, R x y → R y z → R x z) : ∀ {l : List Int}, l ≠ [] → ∃ x ∈ l, ∀ y ∈ l, ¬ R y x
  | [], h => absurd rfl h
  | [a], _ => ⟨a, List.mem_cons_self, fun y hy => by rw [List.mem_singleton.1 hy]; exact hi a⟩
  | a :: b :: l, _ => by
    obtain ⟨x, h1, h2⟩ := min_ex hi ht (l := b :: l) (by simp)
    by_cases e : R a x
    · refine ⟨a, List.mem_cons_self, fun y hy => ?_⟩
      rcases List.mem_cons.1 hy with e1 | hy
      · rw [e1]; exact hi a
      · exact fun hya => h2 y hy (ht hya e)
    · refine ⟨x, List.mem_cons_of_mem _ h1, fun y hy => ?_⟩
      rcases List.mem_cons.1 hy with e1 | hy
      · rw [e1]; exact e
      · exact h2 y hy
/-- The candidates that no link leads to. -/
def freeS (C : Nat) (l : List Lk) : List Int := (rangeI C).filter fun x => decide (∀ k ∈ l, k.2.1 ≠ x)
theorem mem_freeS {C : Nat} {l : List Lk} {x : Int} : x ∈ freeS C l ↔ (0 ≤ x ∧ x < C) ∧ ∀ k ∈ l, k.2.1 ≠ x := by
  unfold freeS; rw [List.mem_filter, mem_rangeI]; simp
theorem freeS_ne {C : Nat} {l : List Lk} (h : Acyc l) (h0 : 0 < C) (hr : ∀ k ∈ l, 0 ≤ k.1 ∧ k.1 < C) : freeS C l ≠ [] := by
  obtain ⟨x, h1, h2⟩ := min_ex (R := Rea l) h (fun a b => a.trans b) (l := rangeI C) (List.ne_nil_of_mem (mem_rangeI.2 ⟨Int.le_refl 0, by omega⟩))
  refine List.ne_nil_of_mem (a := x) (mem_freeS.2 ⟨mem_rangeI.1 h1, fun k hk e => ?_⟩)
  exact h2 k.1 (mem_rangeI.2 (hr k hk)) (e ▸ .one hk)
end Go.Proofs.YtolbceckbnifmaaGreat

namespace Go.Proofs.YtolbceckbnifmaaGreat

/-- The link from x to y. -/
def lkM (m : M) (x y : Int) : Lk := (x, y, m x.toNat y.toNat - m y.toNat x.toNat, m x.toNat y.toNat)
def beatI (m : M) (x y : Int) : Bool := decide (m y.toNat x.toNat < m x.toNat y.toNat)
/-- The links from x, and from all, as they are found. -/
def rawRow (m : M) (ys : List Int) (x : Int) : List Lk := (ys.filter (beatI m x)).map (lkM m x)
def rawL (m : M) (xs ys : List Int) : List Lk := (xs.map (rawRow m ys)).flatten
theorem mem_rawRow {m : M} {ys : List Int} {x : Int} {k : Lk} : k ∈ rawRow m ys x ↔ ∃ y ∈ ys, beatI m x y = true ∧ k = lkM m x y := by
  unfold rawRow
  rw [List.mem_map]
  constructor
  · rintro ⟨y, h1, h2⟩
    exact ⟨y, (List.mem_filter.1 h1).1, (List.mem_filter.1 h1).2, h2.symm⟩
  · rintro ⟨y, h1, h2, h3⟩
    exact ⟨y, List.mem_filter.2 ⟨h1, h2⟩, h3.symm⟩
theorem mem_rawL {m : M} {xs ys : List Int} {k : Lk} : k ∈ rawL m xs ys ↔ ∃ x ∈ xs, ∃ y ∈ ys, beatI m x y = true ∧ k = lkM m x y := by
  unfold rawL
  rw [List.mem_flatten]
  constructor
  · rintro ⟨r, h1, h2⟩
    obtain ⟨x, h3, rfl⟩ := List.mem_map.1 h1
    exact ⟨x, h3, mem_rawRow.1 h2⟩
  · rintro ⟨x, h1, h2⟩
    exact ⟨rawRow m ys x, List.mem_map.2 ⟨x, h1, rfl⟩, mem_rawRow.2 h2⟩
theorem rawRow_next {m : M} {ys : List Int} {x y : Int} {j : Nat} (h : ys[j]? = some y) : rawRow m (ys.take (j + 1)) x = if beatI m x y = true then rawRow m (ys.take j) x ++ [lkM m x y] else rawRow m (ys.take j) x := by
  unfold rawRow
  rw [List.take_add_one, h, Option.toList_some, List.filter_append]
  split <;> rename_i hb
  · rw [List.filter_cons_of_pos hb, List.filter_nil, List.map_append]; rfl
  · rw [List.filter_cons_of_neg (by simpa using hb), List.filter_nil, List.append_nil]
theorem rawL_next {m : M} {xs ys : List Int} {x : Int} {i : Nat} (h : xs[i]? = some x) : rawL m (xs.take (i + 1)) ys = rawL m (xs.take i) ys ++ rawRow m ys x := by
  unfold rawL
  rw [List.take_add_one, h, Option.toList_some, List.map_append, List.flatten_append]; simp
/-- What holds of each two that stand one behind the other. -/
theorem raw_pair {m : M} {R Q : Int → Int → Prop} : ∀ {xs ys : List Int}, xs.Pairwise R → ys.Pairwise Q → (rawL m xs ys).Pairwise fun a b => R a.1 b.1 ∨ (a.1 = b.1 ∧ Q a.2.1 b.2.1) := by
  intro xs ys hx hy
  unfold rawL
  rw [List.pairwise_flatten]
  refine ⟨fun r hr => ?_, ?_⟩
  · obtain ⟨x, _, rfl⟩ := List.mem_map.1 hr
    unfold rawRow
    rw [List.pairwise_map]
    exact (hy.sublist List.filter_sublist).imp fun h => .inr ⟨rfl, h⟩
  · rw [List.pairwise_map]
    refine hx.imp fun h a ha b hb => .inl ?_
    obtain ⟨_, _, _, rfl⟩ := mem_rawRow.1 ha
    obtain ⟨_, _, _, rfl⟩ := mem_rawRow.1 hb
    exact h
theorem raw_ne {m : M} {xs ys : List Int} (hx : xs.Nodup) (hy : ys.Nodup) : (rawL m xs ys).Pairwise fun a b => a.1 ≠ b.1 ∨ a.2.1 ≠ b.2.1 :=
  (raw_pair (R := (· ≠ ·)) (Q := (· ≠ ·)) hx hy).imp fun h => h.imp id And.right
theorem raw_nodup {m : M} {xs ys : List Int} (hx : xs.Nodup) (hy : ys.Nodup) : (rawL m xs ys).Nodup :=
  (raw_ne hx hy).imp fun h e => by subst e; exact h.elim (fun h => h rfl) fun h => h rfl
theorem raw_perm {m : M} {xs ys xs' ys' : List Int} (hx : xs.Nodup) (hy : ys.Nodup) (hx' : xs'.Nodup) (hy' : ys'.Nodup) (h1 : ∀ x, x ∈ xs ↔ x ∈ xs') (h2 : ∀ y, y ∈ ys ↔ y ∈ ys') : (rawL m xs ys).Perm (rawL m xs' ys') := by
  have hs : rawL m xs ys ⊆ rawL m xs' ys' := fun k hk => by
    obtain ⟨x, a, y, b, c⟩ := mem_rawL.1 hk
    exact mem_rawL.2 ⟨x, (h1 x).1 a, y, (h2 y).1 b, c⟩
  have hs' : rawL m xs' ys' ⊆ rawL m xs ys := fun k hk => by
    obtain ⟨x, a, y, b, c⟩ := mem_rawL.1 hk
    exact mem_rawL.2 ⟨x, (h1 x).2 a, y, (h2 y).2 b, c⟩
  exact perm_of_subset (raw_nodup hx hy) hs ((raw_nodup hx' hy').length_le_of_subset hs')
theorem raw_ft {m : M} {xs ys : List Int} {k : Lk} (h : k ∈ rawL m xs ys) : k.1 ≠ k.2.1 := by
  obtain ⟨x, _, y, _, hb, rfl⟩ := mem_rawL.1 h
  intro e
  have e' : x = y := e
  rw [e'] at hb
  unfold beatI at hb
  exact Int.lt_irrefl _ (of_decide_eq_true hb)

/-- By margin and number alone. -/
def ltL (a b : Lk) : Prop := b.2.2.1 < a.2.2.1 ∨ b.2.2.1 = a.2.2.1 ∧ b.2.2.2 < a.2.2.2
instance (a b : Lk) : Decidable (ltL a b) := by unfold ltL; infer_instance
instance (lot : List Int) (a b : Lk) : Decidable (aheadL lot a b) := by unfold aheadL; infer_instance
theorem ltL_weak : WeakO ltL := ⟨fun a h => by unfold ltL at h; omega, fun {a b c} h g => by unfold ltL at *; omega, fun {a b c} h g => by unfold ltL at *; omega⟩
theorem lt_ahead {lot : List Int} (a b : Lk) (h : ltL a b) : aheadL lot a b := by unfold ltL at h; unfold aheadL; rcases h with h | ⟨h1, h2⟩; exact .inl h; exact .inr ⟨h1, .inl h2⟩
theorem ahead_trans {lot : List Int} {a b c : Lk} (h : aheadL lot a b) (g : aheadL lot b c) : aheadL lot a c := by
  unfold aheadL at *
  rcases h with h | ⟨e1, h | ⟨e2, h | ⟨e3, h⟩⟩⟩ <;> rcases g with g | ⟨f1, g | ⟨f2, g | ⟨f3, g⟩⟩⟩
  all_goals first
    | exact .inl (by omega)
    | exact .inr ⟨by omega, .inl (by omega)⟩
    | exact .inr ⟨by omega, .inr ⟨by omega, .inl (by omega)⟩⟩
    | exact .inr ⟨by omega, .inr ⟨by omega, .inl (by rw [← f3]; exact h)⟩⟩
    | exact .inr ⟨by omega, .inr ⟨by omega, .inl (by rw [e3]; exact g)⟩⟩
    | exact .inr ⟨by omega, .inr ⟨by omega, .inr ⟨e3.trans f3, by omega⟩⟩⟩
theorem place_get {lot : List Int} (hn : lot.Nodup) {i : Nat} {x : Int} (h : lot[i]? = some x) : placeL lot x = i := by
  have hi := (List.getElem?_eq_some_iff.1 h).1
  have e : lot[i] = x := (List.getElem?_eq_some_iff.1 h).2
  unfold placeL
  have : lot.findIdx? (fun y => decide (y = x)) = some i := by
    rw [List.findIdx?_eq_some_iff_getElem]
    refine ⟨hi, by simpa using e, fun j hj => ?_⟩
    simp only [decide_eq_true_eq]
    intro e2
    have := (List.nodup_iff_pairwise_ne.1 hn)
    exact (List.pairwise_iff_getElem.1 this j i (by omega) hi hj) (e2.trans e.symm)
  rw [this]
theorem place_inj {lot : List Int} (hn : lot.Nodup) {x y : Int} (hx : x ∈ lot) (hy : y ∈ lot) (h : placeL lot x = placeL lot y) : x = y := by
  obtain ⟨i, hi⟩ := List.getElem?_of_mem hx
  obtain ⟨j, hj⟩ := List.getElem?_of_mem hy
  rw [place_get hn hi, place_get hn hj] at h
  rw [h, hj] at hi
  exact (Option.some.inj hi).symm
theorem place_pair {lot : List Int} (hn : lot.Nodup) : lot.Pairwise fun x y => placeL lot x < placeL lot y := by
  rw [List.pairwise_iff_getElem]
  intro i j hi hj hij
  rw [place_get hn (List.getElem?_eq_getElem hi), place_get hn (List.getElem?_eq_getElem hj)]
  exact hij
/-- Two links between different candidates: one is ahead. -/
theorem ahead_total {lot : List Int} (hn : lot.Nodup) {a b : Lk} (ha : a.1 ∈ lot ∧ a.2.1 ∈ lot) (hb : b.1 ∈ lot ∧ b.2.1 ∈ lot) (hne : a.1 ≠ b.1 ∨ a.2.1 ≠ b.2.1) : aheadL lot a b ∨ aheadL lot b a := by
  unfold aheadL
  by_cases c1 : a.1 = b.1
  · have c2 : placeL lot a.2.1 ≠ placeL lot b.2.1 := fun e => hne.elim (fun h => h c1) fun h => h (place_inj hn ha.2 hb.2 e)
    have c3 := c1.symm
    omega
  · have c2 : placeL lot a.1 ≠ placeL lot b.1 := fun e => c1 (place_inj hn ha.1 hb.1 e)
    omega
/-- The links as the program finds them: what is alike stands as the lot has it. -/
theorem raw_stab {m : M} {lot : List Int} (hn : lot.Nodup) : (rawL m lot lot).Pairwise fun a b => ltL b a ∨ aheadL lot a b :=
  (raw_pair (place_pair hn) (place_pair hn)).imp fun {a b} h => by
    unfold ltL aheadL
    rcases h with h | ⟨h1, h2⟩
    · omega
    · by_cases c1 : b.2.2.1 < a.2.2.1
      · exact .inr (.inl c1)
      by_cases c2 : a.2.2.1 < b.2.2.1
      · exact .inl (.inl c2)
      by_cases c3 : b.2.2.2 < a.2.2.2
      · exact .inr (.inr ⟨by omega, .inl c3⟩)
      by_cases c4 : a.2.2.2 < b.2.2.2
      · exact .inl (.inr ⟨by omega, c4⟩)
      exact .inr (.inr ⟨by omega, .inr ⟨by omega, .inr ⟨h1, h2⟩⟩⟩)

/-- A link put into its place. -/
def insK (lot : List Int) (out : List Lk) (k : Lk) : List Lk := out.takeWhile (fun g => decide (aheadL lot g k)) ++ k :: out.dropWhile (fun g => decide (aheadL lot g k))
theorem insK_perm (lot : List Int) (out : List Lk) (k : Lk) : (insK lot out k).Perm (k :: out) := by
  unfold insK
  refine List.perm_middle.trans ?_
  rw [List.takeWhile_append_dropWhile]
theorem insK_sorted {lot : List Int} {k : Lk} : ∀ {out : List Lk}, out.Pairwise (aheadL lot) → (∀ g ∈ out, aheadL lot g k ∨ aheadL lot k g) → (insK lot out k).Pairwise (aheadL lot)
  | [], _, _ => by unfold insK; simp
  | a :: r, h, ht => by
    have h' := List.pairwise_cons.1 h
    by_cases c : aheadL lot a k
    · have ih := insK_sorted h'.2 fun g hg => ht g (List.mem_cons_of_mem _ hg)
      have e : insK lot (a :: r) k = a :: insK lot r k := by
        unfold insK
        rw [List.takeWhile_cons_of_pos (by simpa using c), List.dropWhile_cons_of_pos (by simpa using c)]; rfl
      rw [e]
      refine List.pairwise_cons.2 ⟨fun b hb => ?_, ih⟩
      rcases List.mem_cons.1 ((insK_perm lot r k).subset hb) with e1 | hb
      · rw [e1]; exact c
      · exact h'.1 b hb
    · have e : insK lot (a :: r) k = k :: a :: r := by
        unfold insK
        rw [List.takeWhile_cons_of_neg (by simpa using c), List.dropWhile_cons_of_neg (by simpa using c)]; rfl
      have hka : aheadL lot k a := (ht a List.mem_cons_self).resolve_left c
      rw [e]
      refine List.pairwise_cons.2 ⟨fun b hb => ?_, h⟩
      rcases List.mem_cons.1 hb with e1 | hb
      · rw [e1]; exact hka
      · exact ahead_trans hka (h'.1 b hb)
/-- All links, put in one after the other. -/
def ordR (lot : List Int) (l : List Lk) : List Lk := l.foldl (insK lot) []
theorem ord_fold {lot : List Int} (hn : lot.Nodup) : ∀ {l out : List Lk}, out.Pairwise (aheadL lot) → (∀ k ∈ out ++ l, k.1 ∈ lot ∧ k.2.1 ∈ lot) → (out ++ l).Pairwise (fun a b => a.1 ≠ b.1 ∨ a.2.1 ≠ b.2.1) →
    (l.foldl (insK lot) out).Perm (out ++ l) ∧ (l.foldl (insK lot) out).Pairwise (aheadL lot)
  | [], out, h, _, _ => ⟨by simp, h⟩
  | k :: l, out, h, hi, hp => by
    have hp' := List.pairwise_append.1 hp
    have hs := insK_sorted h fun g hg => ahead_total hn (hi g (List.mem_append_left _ hg)) (hi k (List.mem_append_right _ List.mem_cons_self)) (hp'.2.2 g hg k List.mem_cons_self)
    have hq : (insK lot out k ++ l).Perm (out ++ k :: l) := ((insK_perm lot out k).append_right l).trans List.perm_middle.symm
    have hr := ord_fold hn hs (fun g hg => hi g (hq.subset hg)) ((hq.pairwise_iff fun {a b} h => by exact h.imp Ne.symm Ne.symm).2 hp)
    exact ⟨hr.1.trans hq, hr.2⟩
/-- The links in order. -/
def lnkO (m : M) (lot : List Int) (C : Nat) : List Lk := ordR lot (rawL m (rangeI C) (rangeI C))
/-- The lot names the candidates, each once. -/
structure LotP (lot : List Int) (C : Nat) : Prop where
  once : lot.Nodup
  all : ∀ x, x ∈ lot ↔ x ∈ rangeI C
theorem lnkO_ok {m : M} {lot : List Int} {C : Nat} (h : LotP lot C) : (lnkO m lot C).Perm (rawL m (rangeI C) (rangeI C)) ∧ (lnkO m lot C).Pairwise (aheadL lot) :=
  ord_fold h.once (l := rawL m (rangeI C) (rangeI C)) (out := []) List.Pairwise.nil (fun k hk => by
    obtain ⟨x, a, y, b, _, rfl⟩ := mem_rawL.1 hk
    exact ⟨(h.all x).2 a, (h.all y).2 b⟩) (raw_ne (nodup_rangeI C) (nodup_rangeI C))
/-- What the program sorts is the reference's list. -/
theorem lnkO_of {m : M} {lot : List Int} {C : Nat} (h : LotP lot C) {l : List Lk} (hp : l.Perm (rawL m lot lot)) (hs : l.Pairwise (aheadL lot)) : l = lnkO m lot C :=
  order_one (hp.trans ((raw_perm h.once h.once (nodup_rangeI C) (nodup_rangeI C) h.all h.all).trans (lnkO_ok h).1.symm)) hs (lnkO_ok h).2
theorem mem_lnkO {m : M} {lot : List Int} {C : Nat} (h : LotP lot C) {k : Lk} : k ∈ lnkO m lot C ↔ ∃ x ∈ rangeI C, ∃ y ∈ rangeI C, beatI m x y = true ∧ k = lkM m x y := (lnkO_ok h).1.mem_iff.trans mem_rawL
end Go.Proofs.YtolbceckbnifmaaGreat

namespace Go.Proofs.YtolbceckbnifmaaGreat

theorem lotP_of {lot : List Int} {C : Nat} (h : lotS lot C = true) : LotP lot C := by
  have hl := lot_len h
  have hr := lot_in_range h
  unfold lotS at h
  rw [Bool.and_eq_true] at h
  exact ⟨(turned_iff.1 h.2).2.1, fun x => ⟨fun hx => mem_rangeI.2 (hr x hx), fun hx => lot_in (by unfold lotS; rw [Bool.and_eq_true]; exact h) hx⟩⟩
/-- The locked links. -/
def lockM (m : M) (lot : List Int) (C : Nat) : List Lk := lockS (lnkO m lot C)
theorem lnkO_link {m : M} {lot : List Int} {C : Nat} (h : LotP lot C) {k : Lk} (hk : k ∈ lnkO m lot C) : (0 ≤ k.1 ∧ k.1 < C) ∧ (0 ≤ k.2.1 ∧ k.2.1 < C) ∧ m k.2.1.toNat k.1.toNat < m k.1.toNat k.2.1.toNat ∧ k = lkM m k.1 k.2.1 ∧ k.1 ≠ k.2.1 := by
  obtain ⟨x, a, y, b, c, rfl⟩ := (mem_lnkO h).1 hk
  exact ⟨mem_rangeI.1 a, mem_rangeI.1 b, of_decide_eq_true c, rfl, raw_ft ((lnkO_ok h).1.subset hk)⟩
theorem lockM_acyc {m : M} {lot : List Int} {C : Nat} (h : LotP lot C) : Acyc (lockM m lot C) := lockS_acyc fun _ hk => (lnkO_link h hk).2.2.2.2
theorem lockM_link {m : M} {lot : List Int} {C : Nat} (_h : LotP lot C) {k : Lk} (hk : k ∈ lockM m lot C) : k ∈ lnkO m lot C := (lock_sub _).subset hk
theorem free_ne {m : M} {lot : List Int} {C : Nat} (h : LotP lot C) (h0 : 0 < C) : freeS C (lockM m lot C) ≠ [] := freeS_ne (lockM_acyc h) h0 fun _ hk => (lnkO_link h (lockM_link h hk)).1
/-- From outside a set that beats all others no link leads in. -/
theorem rea_out {m : M} {lot : List Int} {C : Nat} {D : List Int} (h : LotP lot C) (hD : Dom m C D) {x y : Int} (hr : Rea (lnkO m lot C) x y) : x ∉ D → y ∉ D := by
  have hstep : ∀ k ∈ lnkO m lot C, k.1 ∉ D → k.2.1 ∉ D := fun k hk h1 h2 => by
    obtain ⟨⟨a1, a2⟩, ⟨b1, b2⟩, hb, -, -⟩ := lnkO_link h hk
    have := hD.all k.2.1.toNat k.1.toNat (by omega) (by omega) (by rw [Int.toNat_of_nonneg b1]; exact h2) (by rw [Int.toNat_of_nonneg a1]; exact h1)
    omega
  induction hr with
  | one hk => exact hstep _ hk
  | cons hk _ ih => exact fun hx => ih (hstep _ hk hx)
/-- A link that leads out of such a set is locked. -/
theorem lock_out {m : M} {lot : List Int} {C : Nat} {D : List Int} (h : LotP lot C) (hD : Dom m C D) {k : Lk} (hk : k ∈ lnkO m lot C) (h1 : k.1 ∈ D) (h2 : k.2.1 ∉ D) : k ∈ lockM m lot C := Classical.byContradiction fun hn => by
  obtain ⟨i, hi⟩ := List.getElem?_of_mem hk
  have hb := lock_back hi hn
  exact rea_out h hD (hb.mono fun g hg => (lock_sub _).subset (lock_take_sub _ i hg)) h2 h1
/-- Those that no locked link leads to are in the Smith set. -/
theorem free_dom {m : M} {lot : List Int} {C : Nat} {D : List Int} (h : LotP lot C) (hD : Dom m C D) : freeS C (lockM m lot C) ⊆ D := fun y hy => Classical.byContradiction fun hn => by
  obtain ⟨⟨h1, h2⟩, h3⟩ := mem_freeS.1 hy
  obtain ⟨x, hx⟩ := List.exists_mem_of_ne_nil D hD.ne
  obtain ⟨g1, g2⟩ := mem_rangeI.1 (hD.sub.subset hx)
  have hbt := hD.all x.toNat y.toNat (by omega) (by omega) (by rw [Int.toNat_of_nonneg g1]; exact hx) (by rw [Int.toNat_of_nonneg h1]; exact hn)
  have hk : lkM m x y ∈ lnkO m lot C := (mem_lnkO h).2 ⟨x, mem_rangeI.2 ⟨g1, g2⟩, y, mem_rangeI.2 ⟨h1, h2⟩, decide_eq_true hbt, rfl⟩
  exact h3 _ (lock_out h hD hk hx hn) rfl
/-- How many locked links lead from each. -/
def hadK (l : List Lk) (x : Int) : Nat := (l.filter fun k => decide (k.1 = x)).length
def hadLk (l : List Lk) (C : Nat) : List Int := (List.range C).map fun x : Nat => (hadK l (x : Int) : Int)
/-- The outcome. -/
def rankO (l : List Lk) (C : Nat) (lot : List Int) : Outc := ([frstS lot (freeS C l)], [rndS (hadLk l C) 0 [frstS lot (freeS C l)] []], tiedS [] (freeS C l) (frstS lot (freeS C l)))

/-- A link under other names. -/
def renG (p : List Int) (k : Lk) : Lk := (nameS p k.1, nameS p k.2.1, k.2.2)

theorem nm_int {p : List Int} {x : Int} (hx : 0 ≤ x) : (nameS p x).toNat = nm p x.toNat := by unfold nm; rw [Int.toNat_of_nonneg hx]
section
variable {p lot : List Int} {C : Nat} {m m' : M}
theorem lkM_ren (_hN : Names p C) (he : ∀ x y, x < C → y < C → m' (nm p x) (nm p y) = m x y) {x y : Int} (hx : 0 ≤ x ∧ x < C) (hy : 0 ≤ y ∧ y < C) : lkM m' (nameS p x) (nameS p y) = renG p (lkM m x y) := by
  unfold lkM renG
  rw [nm_int hx.1, nm_int hy.1, he _ _ (by omega) (by omega), he _ _ (by omega) (by omega)]
theorem beatI_ren (_hN : Names p C) (he : ∀ x y, x < C → y < C → m' (nm p x) (nm p y) = m x y) {x y : Int} (hx : 0 ≤ x ∧ x < C) (hy : 0 ≤ y ∧ y < C) : beatI m' (nameS p x) (nameS p y) = beatI m x y := by
  unfold beatI
  rw [nm_int hx.1, nm_int hy.1, he _ _ (by omega) (by omega), he _ _ (by omega) (by omega)]
theorem rawL_ren (hN : Names p C) (he : ∀ x y, x < C → y < C → m' (nm p x) (nm p y) = m x y) {xs ys : List Int} (hx : InR C xs) (hy : InR C ys) : rawL m' (xs.map (nameS p)) (ys.map (nameS p)) = (rawL m xs ys).map (renG p) := by
  unfold rawL
  rw [List.map_flatten, List.map_map, List.map_map]
  congr 1
  refine List.map_congr_left fun x hxm => ?_
  simp only [Function.comp]
  unfold rawRow
  rw [List.filter_map, List.map_map, List.map_map]
  have h1 : ys.filter (beatI m' (nameS p x) ∘ nameS p) = ys.filter (beatI m x) := List.filter_congr fun y hym => beatI_ren hN he (hx x hxm) (hy y hym)
  rw [h1]
  refine List.map_congr_left fun y hym => ?_
  exact lkM_ren hN he (hx x hxm) (hy y (List.mem_filter.1 hym).1)
theorem place_ren (hN : Names p C) (hl : LotP lot C) (hr : InR C lot) {x : Int} (hx : x ∈ lot) : placeL (lot.map (nameS p)) (nameS p x) = placeL lot x := by
  obtain ⟨i, hi⟩ := List.getElem?_of_mem hx
  rw [place_get hl.once hi]
  exact place_get (nodup_map_names hN hr hl.once) (by rw [List.getElem?_map, hi]; rfl)
theorem ahead_ren (hN : Names p C) (hl : LotP lot C) (hr : InR C lot) {a b : Lk} (ha : a.1 ∈ lot ∧ a.2.1 ∈ lot) (hb : b.1 ∈ lot ∧ b.2.1 ∈ lot) (h : aheadL lot a b) : aheadL (lot.map (nameS p)) (renG p a) (renG p b) := by
  unfold aheadL renG at *
  simp only [place_ren hN hl hr ha.1, place_ren hN hl hr ha.2, place_ren hN hl hr hb.1, place_ren hN hl hr hb.2]
  rcases h with h | ⟨e1, h | ⟨e2, h | ⟨e3, h⟩⟩⟩
  · exact .inl h
  · exact .inr ⟨e1, .inl h⟩
  · exact .inr ⟨e1, .inr ⟨e2, .inl h⟩⟩
  · exact .inr ⟨e1, .inr ⟨e2, .inr ⟨congrArg _ e3, h⟩⟩⟩
/-- The links in order, under other names. -/
theorem lnkO_ren (hN : Names p C) (hlot : lotS lot C = true) (he : ∀ x y, x < C → y < C → m' (nm p x) (nm p y) = m x y) : lnkO m' (lot.map (nameS p)) C = (lnkO m lot C).map (renG p) := by
  have hl := lotP_of hlot
  have hr := lot_in_range hlot
  have hl' := lotP_of (lot_ren hN hlot)
  refine (lnkO_of hl' ?_ ?_).symm
  · rw [rawL_ren hN he hr hr]
    exact ((lnkO_ok hl).1.trans (raw_perm (nodup_rangeI C) (nodup_rangeI C) hl.once hl.once (fun x => (hl.all x).symm) fun x => (hl.all x).symm)).map _
  · rw [List.pairwise_map]
    refine (lnkO_ok hl).2.imp_of_mem fun {a b} ha hb h => ?_
    have qa := lnkO_link hl ha
    have qb := lnkO_link hl hb
    exact ahead_ren hN hl hr ⟨(hl.all _).2 (mem_rangeI.2 qa.1), (hl.all _).2 (mem_rangeI.2 qa.2.1)⟩ ⟨(hl.all _).2 (mem_rangeI.2 qb.1), (hl.all _).2 (mem_rangeI.2 qb.2.1)⟩ h
/-- Links between numbers below C. -/
def InK (C : Nat) (l : List Lk) : Prop := ∀ k ∈ l, (0 ≤ k.1 ∧ k.1 < C) ∧ (0 ≤ k.2.1 ∧ k.2.1 < C)
theorem rea_ren1 {l : List Lk} {x y : Int} (h : Rea l x y) : Rea (l.map (renG p)) (nameS p x) (nameS p y) := by
  induction h with
  | @one k hk => exact .one (k := renG p k) (List.mem_map.2 ⟨k, hk, rfl⟩)
  | @cons k z hk _ ih => exact .cons (k := renG p k) (List.mem_map.2 ⟨k, hk, rfl⟩) ih
theorem rea_ren2 (hN : Names p C) {l : List Lk} (hl : InK C l) {a b : Int} (h : Rea (l.map (renG p)) a b) : ∀ x y : Int, a = nameS p x → b = nameS p y → (0 ≤ x ∧ x < C) → (0 ≤ y ∧ y < C) → Rea l x y := by
  induction h with
  | @one k hk =>
    intro x y ha hb hx hy
    obtain ⟨g, hg, rfl⟩ := List.mem_map.1 hk
    have e1 : g.1 = x := hN.inj (hl g hg).1 hx ha
    have e2 : g.2.1 = y := hN.inj (hl g hg).2 hy hb
    rw [← e1, ← e2]; exact .one hg
  | @cons k z hk _ ih =>
    intro x y ha hb hx hy
    obtain ⟨g, hg, rfl⟩ := List.mem_map.1 hk
    have e1 : g.1 = x := hN.inj (hl g hg).1 hx ha
    rw [← e1]; exact .cons hg (ih g.2.1 y rfl hb (hl g hg).2 hy)
theorem leads_ren (hN : Names p C) {l : List Lk} (hl : InK C l) {x y : Int} (hx : 0 ≤ x ∧ x < C) (hy : 0 ≤ y ∧ y < C) : leadsB (l.map (renG p)) (nameS p x) (nameS p y) = leadsB l x y := by
  rw [Bool.eq_iff_iff, leads_iff, leads_iff]
  exact ⟨fun h => rea_ren2 hN hl h x y rfl rfl hx hy, rea_ren1⟩
theorem lock_ren (hN : Names p C) : ∀ {all l : List Lk}, InK C (l ++ all) → (all.map (renG p)).foldl lockStep (l.map (renG p)) = (all.foldl lockStep l).map (renG p)
  | [], _, _ => rfl
  | k :: r, l, h => by
    have hk := h k (List.mem_append_right _ List.mem_cons_self)
    have hl : InK C l := fun g hg => h g (List.mem_append_left _ hg)
    have e : lockStep (l.map (renG p)) (renG p k) = (lockStep l k).map (renG p) := by
      unfold lockStep
      rw [show leadsB (l.map (renG p)) (renG p k).2.1 (renG p k).1 = leadsB l k.2.1 k.1 from leads_ren hN hl hk.2 hk.1]
      split
      · rfl
      · rw [List.map_append]; rfl
    rw [List.map_cons, List.foldl_cons, List.foldl_cons, e]
    refine lock_ren hN fun g hg => ?_
    rcases List.mem_append.1 hg with hg | hg
    · unfold lockStep at hg
      split at hg
      · exact hl g hg
      · rcases List.mem_append.1 hg with hg | hg
        · exact hl g hg
        · rw [List.mem_singleton.1 hg]; exact hk
    · exact h g (List.mem_append_right _ (List.mem_cons_of_mem _ hg))
theorem lnkO_inK (h : LotP lot C) : InK C (lnkO m lot C) := fun _ hk => ⟨(lnkO_link h hk).1, (lnkO_link h hk).2.1⟩
/-- The locked links, under other names. -/
theorem lockM_ren (hN : Names p C) (hlot : lotS lot C = true) (he : ∀ x y, x < C → y < C → m' (nm p x) (nm p y) = m x y) : lockM m' (lot.map (nameS p)) C = (lockM m lot C).map (renG p) := by
  unfold lockM lockS
  rw [lnkO_ren hN hlot he]
  exact lock_ren hN (l := []) (lnkO_inK (lotP_of hlot))
theorem hadK_ren (hN : Names p C) {l : List Lk} (hl : InK C l) {x : Int} (hx : 0 ≤ x ∧ x < C) : hadK (l.map (renG p)) (nameS p x) = hadK l x := by
  unfold hadK
  rw [List.filter_map, List.length_map]
  congr 1
  refine List.filter_congr fun k hk => ?_
  simp only [Function.comp]
  rw [Bool.eq_iff_iff, decide_eq_true_eq, decide_eq_true_eq]
  exact ⟨fun e => hN.inj (hl k hk).1 hx e, fun e => congrArg (nameS p) e⟩
theorem freeS_ren (hN : Names p C) {l : List Lk} (hl : InK C l) : freeS C (l.map (renG p)) = imgS p C (freeS C l) := by
  have hsub : (freeS C l).Sublist (rangeI C) := List.filter_sublist
  refine img_of hN ((inR_range C).sub hsub) List.filter_sublist fun x => ?_
  constructor
  · intro hx
    obtain ⟨h1, h2⟩ := mem_freeS.1 hx
    have hm : x ∈ imgS p C (rangeI C) := by rw [img_range hN]; exact mem_rangeI.2 h1
    obtain ⟨y, hy, rfl⟩ := (mem_img hN (inR_range C)).1 hm
    exact ⟨y, mem_freeS.2 ⟨mem_rangeI.1 hy, fun k hk e => h2 (renG p k) (List.mem_map.2 ⟨k, hk, rfl⟩) (congrArg (nameS p) e)⟩, rfl⟩
  · rintro ⟨y, hy, rfl⟩
    obtain ⟨h1, h2⟩ := mem_freeS.1 hy
    refine mem_freeS.2 ⟨hN.name_in h1, fun k hk e => ?_⟩
    obtain ⟨g, hg, rfl⟩ := List.mem_map.1 hk
    exact h2 g hg (hN.inj (hl g hg).2 h1 e)
theorem length_hadLk (l : List Lk) (C : Nat) : (hadLk l C).length = C := by unfold hadLk; simp
theorem get_hadLk (l : List Lk) {C i : Nat} (hi : i < C) : (hadLk l C)[i]? = some (hadK l (i : Int) : Int) := by
  unfold hadLk; rw [List.getElem?_map, List.getElem?_range hi]; rfl
theorem hadLk_ren (hN : Names p C) {l : List Lk} (hl : InK C l) : (hadLk (l.map (renG p)) C).map wholeS = renHad p ((hadLk l C).map wholeS) := by
  unfold renHad
  rw [List.length_map, length_hadLk]
  refine List.ext_getElem? fun i => ?_
  by_cases hi : i < C
  · obtain ⟨h1, h2⟩ := idx_nm hN hi
    have e : hadK (l.map (renG p)) (i : Int) = hadK l (idx p i : Int) := by
      rw [← hadK_ren hN hl (x := (idx p i : Int)) ⟨by omega, by omega⟩, ← nm_cast hN h2, h1]
    rw [List.getElem?_map, get_hadLk _ hi, List.getElem?_map, List.getElem?_range hi, e]
    simp [List.getD, get_hadLk _ h2]
  · rw [List.getElem?_eq_none (by rw [List.length_map, length_hadLk]; omega), List.getElem?_eq_none (by simp; omega)]
/-- The outcome goes along with the names. -/
theorem rankO_ren (hN : Names p C) {l : List Lk} (hl : InK C l) (hlot : lotS lot C = true) (hne : freeS C l ≠ []) : rankO (l.map (renG p)) C (lot.map (nameS p)) = renO p (rankO l C lot) := by
  have hsub : (freeS C l).Sublist (rangeI C) := List.filter_sublist
  have hr := (inR_range C).sub hsub
  have hin : ∀ x ∈ freeS C l, x ∈ lot := fun x hx => lot_in hlot (hsub.subset hx)
  unfold rankO renO
  rw [freeS_ren hN hl, frst_ren hN hr (lot_in_range hlot) hne hin]
  simp only [List.map_cons, List.map_nil, renRnd, rndS, hadLk_ren hN hl]
  have ht := tied_ren (ts := []) (x := frstS lot (freeS C l)) hN hr ((nodup_rangeI C).sublist hsub)
  rw [← ht]
  rfl
end
end Go.Proofs.YtolbceckbnifmaaGreat

namespace Go.Proofs.YtolbceckbnifmaaGreat

theorem lockStep_pre (l : List Lk) (k : Lk) : l <+: lockStep l k := by
  unfold lockStep; split
  · exact List.prefix_refl _
  · exact List.prefix_append _ _
theorem lock_fold_pre : ∀ (r l : List Lk), l <+: r.foldl lockStep l
  | [], _ => List.prefix_refl _
  | k :: r, l => (lockStep_pre l k).trans (lock_fold_pre r (lockStep l k))
theorem lock_pre (all : List Lk) (i : Nat) : lockS (all.take i) <+: lockS all := by
  have h2 : lockS all = (all.drop i).foldl lockStep (lockS (all.take i)) := by
    conv => lhs; rw [← List.take_append_drop i all]
    unfold lockS; rw [List.foldl_append]
  rw [h2]; exact lock_fold_pre _ _
theorem lock_takes (all : List Lk) (i : Nat) : (lockS all).take (lockS (all.take i)).length = lockS (all.take i) := (List.prefix_iff_eq_take.1 (lock_pre all i)).symm
/-- A link that is locked stands where the links locked before it end. -/
theorem lock_yes {all : List Lk} {i : Nat} {k : Lk} (h : all[i]? = some k) (hl : leadsB (lockS (all.take i)) k.2.1 k.1 = false) : (lockS all)[(lockS (all.take i)).length]? = some k ∧ lockS (all.take (i + 1)) = lockS (all.take i) ++ [k] := by
  have h1 : lockS (all.take (i + 1)) = lockS (all.take i) ++ [k] := by rw [lock_take h]; unfold lockStep; rw [if_neg (by rw [hl]; simp)]
  refine ⟨?_, h1⟩
  obtain ⟨t, ht⟩ := lock_pre all (i + 1)
  rw [← ht, h1]; simp
/-- One that is not locked does not stand there. -/
theorem lock_no {all : List Lk} (hn : all.Nodup) {i : Nat} {k : Lk} (h : all[i]? = some k) (hl : leadsB (lockS (all.take i)) k.2.1 k.1 = true) : (lockS all)[(lockS (all.take i)).length]? ≠ some k ∧ lockS (all.take (i + 1)) = lockS (all.take i) := by
  have h1 : lockS (all.take (i + 1)) = lockS (all.take i) := by rw [lock_take h]; unfold lockStep; rw [if_pos hl]
  refine ⟨fun he => ?_, h1⟩
  have h2 : lockS all = (all.drop (i + 1)).foldl lockStep (lockS (all.take i)) := by
    rw [← h1]
    conv => lhs; rw [← List.take_append_drop (i + 1) all]
    unfold lockS; rw [List.foldl_append]
  have hs := lock_sublist (all.drop (i + 1)) (lockS (all.take i))
  rw [← h2] at hs
  obtain ⟨t, ht⟩ := lock_pre all i
  rw [← ht] at hs he
  have hk : k ∈ t := by
    rw [List.getElem?_append_right (Nat.le_refl _), Nat.sub_self] at he
    exact List.mem_of_getElem? he
  have hd : k ∈ all.drop (i + 1) := (List.Sublist.subset ((List.append_sublist_append_left _).1 hs)) hk
  have ht' : k ∈ all.take (i + 1) := by rw [List.take_add_one, h]; simp
  have hnd := hn
  rw [← List.take_append_drop (i + 1) all] at hnd
  exact (List.nodup_append.1 hnd).2.2 k ht' k hd rfl
theorem lnkO_nodup {m : M} {lot : List Int} {C : Nat} (h : LotP lot C) : (lnkO m lot C).Nodup := (lnkO_ok h).1.symm.nodup (raw_nodup (nodup_rangeI C) (nodup_rangeI C))
theorem lnkO_length {m : M} {lot : List Int} {C : Nat} (h : LotP lot C) : (lnkO m lot C).length = (rawL m (rangeI C) (rangeI C)).length := (lnkO_ok h).1.length_eq
/-- Of two, the one that is ahead in the lot is the first. -/
theorem frst_two {lot : List Int} (hn : lot.Nodup) {a b : Int} (ha : a ∈ lot) (hb : b ∈ lot) (h : placeL lot a < placeL lot b) : frstS lot [a, b] = a := by
  obtain ⟨i, hi⟩ := List.getElem?_of_mem ha
  obtain ⟨j, hj⟩ := List.getElem?_of_mem hb
  rw [place_get hn hi, place_get hn hj] at h
  have hil := (List.getElem?_eq_some_iff.1 hi).1
  have e : lot.find? (inL [a, b]) = some a := by
    rw [List.find?_eq_some_iff_getElem]
    refine ⟨inL_iff.2 (by simp), i, hil, (List.getElem?_eq_some_iff.1 hi).2, fun c hc => ?_⟩
    have hcl : c < lot.length := by omega
    have hne := List.pairwise_iff_getElem.1 (List.nodup_iff_pairwise_ne.1 hn)
    have q1 : lot[c] ≠ a := by have := hne c i hcl hil hc; rwa [(List.getElem?_eq_some_iff.1 hi).2] at this
    have hjl := (List.getElem?_eq_some_iff.1 hj).1
    have q2 : lot[c] ≠ b := by have := hne c j hcl hjl (by omega); rwa [(List.getElem?_eq_some_iff.1 hj).2] at this
    have : inL [a, b] lot[c] = false := by unfold inL; simp [q1, q2]
    rw [this]; rfl
  unfold frstS; rw [e]; rfl
/-- Two neighbours in the order. -/
theorem lnkO_next {m : M} {lot : List Int} {C i : Nat} {h k : Lk} (hl : LotP lot C) (hi : (lnkO m lot C)[i]? = some h) (hk : (lnkO m lot C)[i + 1]? = some k) :
    ¬ h.2.2.1 < k.2.2.1 ∧ (h.2.2.1 = k.2.2.1 → ¬ h.2.2.2 < k.2.2.2) ∧ (h.2.2.1 = k.2.2.1 → h.2.2.2 = k.2.2.2 → (h.1 ≠ k.1 → frstS lot [h.1, k.1] = h.1) ∧ (h.1 = k.1 → h.2.1 ≠ k.2.1 ∧ frstS lot [h.2.1, k.2.1] = h.2.1)) := by
  have hil := (List.getElem?_eq_some_iff.1 hi).1
  have hkl := (List.getElem?_eq_some_iff.1 hk).1
  have ha : aheadL lot h k := by
    have := List.pairwise_iff_getElem.1 (lnkO_ok (m := m) hl).2 i (i + 1) hil hkl (Nat.lt_succ_self i)
    rwa [(List.getElem?_eq_some_iff.1 hi).2, (List.getElem?_eq_some_iff.1 hk).2] at this
  have qh := lnkO_link hl (List.mem_of_getElem? hi)
  have qk := lnkO_link hl (List.mem_of_getElem? hk)
  have mh1 := (hl.all _).2 (mem_rangeI.2 qh.1)
  have mh2 := (hl.all _).2 (mem_rangeI.2 qh.2.1)
  have mk1 := (hl.all _).2 (mem_rangeI.2 qk.1)
  have mk2 := (hl.all _).2 (mem_rangeI.2 qk.2.1)
  unfold aheadL at ha
  refine ⟨by omega, fun e => by omega, fun e1 e2 => ⟨fun hne => ?_, fun he => ?_⟩⟩
  · refine frst_two hl.once mh1 mk1 ?_
    rcases ha with g | ⟨_, g | ⟨_, g | ⟨g, _⟩⟩⟩
    · omega
    · omega
    · exact g
    · exact absurd g hne
  · have hp : placeL lot h.2.1 < placeL lot k.2.1 := by
      rcases ha with g | ⟨_, g | ⟨_, g | ⟨_, g⟩⟩⟩
      · omega
      · omega
      · rw [he] at g; omega
      · exact g
    exact ⟨fun e => by rw [e] at hp; omega, frst_two hl.once mh2 mk2 hp⟩
/-- One that beats all others is the only one that no locked link leads to. -/
theorem free_one {m : M} {lot : List Int} {C : Nat} {w : Int} (h : LotP lot C) (h0 : 0 < C) (hD : Dom m C [w]) : freeS C (lockM m lot C) = [w] := by
  have h1 := free_ne (m := m) h h0
  have h2 := free_dom h hD
  have h3 : (freeS C (lockM m lot C)).Nodup := (nodup_rangeI C).sublist List.filter_sublist
  have h4 := h3.length_le_of_subset h2
  match hf : freeS C (lockM m lot C), h1, h2, h4 with
  | [], h1, _, _ => exact absurd rfl h1
  | [a], _, h2, _ => rw [List.mem_singleton.1 (h2 List.mem_cons_self)]
  | _ :: _ :: _, _, _, h4 => simp at h4
/-- The links lead on from one to the next; more links lead at least as far; each link leads; none lead nowhere. -/
theorem leads_trans {l : List Lk} {x y z : Int} (h : leadsB l x y = true) (g : leadsB l y z = true) : leadsB l x z = true := leads_iff.2 ((leads_iff.1 h).trans (leads_iff.1 g))
theorem leads_more {l r : List Lk} {x y : Int} (hs : r ⊆ l) (h : leadsB r x y = true) : leadsB l x y = true := leads_iff.2 ((leads_iff.1 h).mono hs)
theorem leads_link {l : List Lk} {k : Lk} (h : k ∈ l) : leadsB l k.1 k.2.1 = true := leads_iff.2 (.one h)
theorem leads_nil (x y : Int) : leadsB [] x y = false := by
  cases h : leadsB [] x y with
  | false => rfl
  | true => exact (leads_iff.1 h).nil_.elim
end Go.Proofs.YtolbceckbnifmaaGreat

namespace Go.Proofs.YtolbceckbnifmaaGreat

/-- How many places are not used. -/
def cntF (U : List Bool) : Nat := U.count false
theorem cntF_set {U : List Bool} {i : Nat} (h : U[i]? = some false) : cntF (U.set i true) + 1 = cntF U := by
  unfold cntF
  induction U generalizing i with
  | nil => simp at h
  | cons a r ih =>
    cases i with
    | zero =>
      have e : a = false := by simpa using h
      subst e
      simp [List.set_cons_zero]
    | succ i =>
      have := ih (i := i) (by simpa using h)
      rw [List.set_cons_succ, List.count_cons, List.count_cons]
      omega
theorem cntF_sub : ∀ {U V : List Bool}, SubU U V → cntF V ≤ cntF U
  | [], V, h => by
    have := h.1
    have e : V = [] := List.length_eq_zero_iff.1 this
    subst e; exact Nat.le_refl _
  | a :: U, [], h => by have := h.1; simp at this
  | a :: U, b :: V, h => by
    have ih := cntF_sub (U := U) (V := V) ⟨by have := h.1; simpa using this, fun i hi => by have := h.2 (i + 1) (by simpa using hi); simpa using this⟩
    have h0 := h.2 0
    unfold cntF at *
    rw [List.count_cons, List.count_cons]
    cases a with
    | false => cases b <;> simp <;> omega
    | true =>
      have e : b = true := by simpa using h0 rfl
      subst e; simpa using ih
theorem cntF_new (n : Nat) : cntF (List.replicate n false) = n := by unfold cntF; simp
/-- The search from x has looked at the first i links and found nothing: U were used before, V are now. -/
structure DfsI (l : List Lk) (y : Int) (U : List Bool) (x : Int) (i : Nat) (V : List Bool) : Prop where
  sub : SubU U V
  clo : CloS l y U V
  all : ∀ (j : Nat) (g : Lk), j < i → l[j]? = some g → g.1 = x → V[j]? = some true
theorem DfsI.start (l : List Lk) (y : Int) (U : List Bool) (x : Int) : DfsI l y U x 0 U := ⟨.refl U, .refl l y U, fun _ _ h => absurd h (Nat.not_lt_zero _)⟩
theorem DfsI.skip {l : List Lk} {y x : Int} {U V : List Bool} {i : Nat} {k : Lk} (h : DfsI l y U x i V) (hk : l[i]? = some k) (hs : V[i]? = some true ∨ k.1 ≠ x) : DfsI l y U x (i + 1) V :=
  ⟨h.sub, h.clo, fun j g hj hg hx => by
    by_cases e : j = i
    · subst e
      rw [hk] at hg
      cases hg
      exact hs.resolve_right fun n => n hx
    · exact h.all j g (by omega) hg hx⟩
/-- The search from where link i leads has found nothing. -/
theorem DfsI.deep {l : List Lk} {y x : Int} {U V V2 : List Bool} {i : Nat} {k : Lk} (h : DfsI l y U x i V) (hk : l[i]? = some k) (hV : V[i]? = some false) (hy : k.2.1 ≠ y) (hr : DfsI l y (V.set i true) k.2.1 l.length V2) : DfsI l y U x (i + 1) V2 := by
  have hs : SubU V V2 := (SubU.set V i).trans hr.sub
  refine ⟨h.sub.trans hs, h.clo.trans (CloS.step hk hy hr.clo hr.sub fun j g hg hx => hr.all j g (List.getElem?_eq_some_iff.1 hg).1 hg hx) hs, fun j g hj hg hx => ?_⟩
  by_cases e : j = i
  · subst e
    exact hr.sub.2 j (List.getElem?_set_self (List.getElem?_eq_some_iff.1 hV).1)
  · exact hs.2 j (h.all j g (by omega) hg hx)
theorem DfsI.done {l : List Lk} {y x : Int} {V : List Bool} (h : DfsI l y (List.replicate l.length false) x l.length V) : leadsB l x y = false := by
  cases hb : leadsB l x y with
  | false => rfl
  | true => exact absurd (leads_iff.1 hb) (clo_no h.clo fun j k hk hx => h.all j k (List.getElem?_eq_some_iff.1 hk).1 hk hx)
/-- The number of links from x among the first i + 1. -/
theorem hadK_next {l : List Lk} {i : Nat} {k : Lk} (h : l[i]? = some k) (x : Int) : hadK (l.take (i + 1)) x = hadK (l.take i) x + if k.1 = x then 1 else 0 := by
  unfold hadK
  rw [List.take_add_one, h, Option.toList_some, List.filter_append, List.length_append]
  congr 1
  by_cases e : k.1 = x
  · rw [if_pos e, List.filter_cons_of_pos (by simpa using e)]; rfl
  · rw [if_neg e, List.filter_cons_of_neg (by simpa using e)]; rfl
theorem hadLk_next {l : List Lk} {i C X : Nat} {k : Lk} (h : l[i]? = some k) (hX : k.1 = X) (hC : X < C) : hadLk (l.take (i + 1)) C = (hadLk (l.take i) C).set X ((hadK (l.take i) (X : Int) : Int) + 1) := by
  refine List.ext_getElem? fun j => ?_
  by_cases hj : j < C
  · rw [get_hadLk _ hj, hadK_next h]
    by_cases e : j = X
    · subst e
      rw [List.getElem?_set_self (by rw [length_hadLk]; exact hj), if_pos hX]; simp
    · rw [List.getElem?_set_ne (Ne.symm e), get_hadLk _ hj, if_neg (by omega)]; simp
  · rw [List.getElem?_eq_none (by rw [length_hadLk]; omega), List.getElem?_eq_none (by rw [List.length_set, length_hadLk]; omega)]
/-- Those that no link leads to, one link more. -/
theorem freeS_next {l : List Lk} {i C : Nat} {k : Lk} (h : l[i]? = some k) : freeS C (l.take (i + 1)) = (freeS C (l.take i)).filter fun x => decide (x ≠ k.2.1) := by
  unfold freeS
  rw [List.filter_filter]
  refine List.filter_congr fun x _ => ?_
  rw [List.take_add_one, h, Option.toList_some, Bool.eq_iff_iff, Bool.and_eq_true, decide_eq_true_eq, decide_eq_true_eq, decide_eq_true_eq]
  constructor
  · intro hx
    exact ⟨fun e => hx k (List.mem_append_right _ List.mem_cons_self) e.symm, fun g hg => hx g (List.mem_append_left _ hg)⟩
  · rintro ⟨h1, h2⟩ g hg
    rcases List.mem_append.1 hg with hg | hg
    · exact h2 g hg
    · rw [List.mem_singleton.1 hg]; exact fun e => h1 e.symm
theorem freeS_nil (C : Nat) : freeS C [] = rangeI C := by unfold freeS; simp
theorem hadLk_nil (C : Nat) : hadLk [] C = List.replicate C 0 := by
  refine List.ext_getElem? fun j => ?_
  by_cases hj : j < C
  · rw [get_hadLk _ hj, List.getElem?_replicate, if_pos hj]; rfl
  · rw [List.getElem?_eq_none (by rw [length_hadLk]; omega), List.getElem?_eq_none (by rw [List.length_replicate]; omega)]
/-- How many links lead to x. -/
def toN (l : List Lk) (x : Int) : Nat := (l.filter fun k => decide (k.2.1 = x)).length
theorem toN_next {l : List Lk} {i : Nat} {k : Lk} (h : l[i]? = some k) (x : Int) : toN (l.take (i + 1)) x = toN (l.take i) x + if k.2.1 = x then 1 else 0 := by
  unfold toN
  rw [List.take_add_one, h, Option.toList_some, List.filter_append, List.length_append]
  congr 1
  by_cases e : k.2.1 = x
  · rw [if_pos e, List.filter_cons_of_pos (by simpa using e)]; rfl
  · rw [if_neg e, List.filter_cons_of_neg (by simpa using e)]; rfl
theorem toN_free {l : List Lk} {C x : Nat} (hx : x < C) : toN l (x : Int) = 0 ↔ (x : Int) ∈ freeS C l := by
  unfold toN
  rw [List.length_eq_zero_iff, List.filter_eq_nil_iff, mem_freeS]
  constructor
  · intro h
    exact ⟨⟨by omega, by omega⟩, fun k hk e => h k hk (by simpa using e)⟩
  · rintro ⟨_, h⟩ k hk
    simpa using h k hk
/-- Those below i that no link leads to, one candidate more. -/
theorem free_below {l : List Lk} {C x : Nat} (hx : x < C) : (freeS (x + 1) l) = if toN l (x : Int) = 0 then freeS x l ++ [(x : Int)] else freeS x l := by
  have hr : rangeI (x + 1) = rangeI x ++ [(x : Int)] := by unfold rangeI; rw [List.range_succ, List.map_append]; rfl
  have e : (toN l (x : Int) = 0) ↔ ∀ k ∈ l, k.2.1 ≠ (x : Int) := by
    rw [toN_free hx, mem_freeS]
    exact ⟨fun h => h.2, fun h => ⟨⟨by omega, by omega⟩, h⟩⟩
  unfold freeS
  rw [hr, List.filter_append]
  by_cases c : toN l (x : Int) = 0
  · rw [if_pos c, List.filter_cons_of_pos (by simpa using e.1 c)]; rfl
  · rw [if_neg c, List.filter_cons_of_neg (by rw [decide_eq_true_eq]; exact fun h => c (e.2 h)), List.filter_nil, List.append_nil]
end Go.Proofs.YtolbceckbnifmaaGreat

namespace Go.Proofs.YtolbceckbnifmaaGreat

/-- The error of Order and Lock. -/
def ordErr (m : M) (c : Int) (lot : List Int) : Int := if (c < 1 ∨ 10 < c) ∨ lotS lot c = false then 2 else if rightS m c = true then 0 else 8
def ordV (m : M) (c : Int) (lot : List Int) : List Lk := if ordErr m c lot = 0 then lnkO m lot c.toNat else []
def lockV (m : M) (c : Int) (lot : List Int) : List Lk := lockS (ordV m c lot)
def rankR (c k : Int) (l : List Row) (seats : Int) (lot : List Int) : Outc := if mayS c k l 1 seats 1 lot = 0 then rankO (lockM (ofR c k l) lot c.toNat) c.toNat lot else ([], [], [])
theorem ordErr_ok {m : M} {c : Int} {lot : List Int} (h1 : 1 ≤ c ∧ c ≤ 10) (h2 : lotS lot c = true) (h3 : rightS m c = true) : ordErr m c lot = 0 := by
  unfold ordErr
  rw [if_neg (by rintro (h | h); omega; rw [h2] at h; cases h), if_pos h3]
theorem ordErr_arg {m : M} {c : Int} {lot : List Int} (h : (c < 1 ∨ 10 < c) ∨ lotS lot c = false) : ordErr m c lot = 2 := by unfold ordErr; rw [if_pos h]
theorem ordErr_bad {m : M} {c : Int} {lot : List Int} (h1 : 1 ≤ c ∧ c ≤ 10) (h2 : lotS lot c = true) (h3 : rightS m c = false) : ordErr m c lot = 8 := by
  unfold ordErr
  rw [if_neg (by rintro (h | h); omega; rw [h2] at h; cases h), if_neg (by rw [h3]; simp)]
theorem ordErr_zero {m : M} {c : Int} {lot : List Int} (h : ordErr m c lot = 0) : (1 ≤ c ∧ c ≤ 10) ∧ lotS lot c = true ∧ rightS m c = true := by
  unfold ordErr at h
  split at h
  · cases h
  · rename_i h1
    split at h
    · rename_i h2
      refine ⟨by omega, ?_, h2⟩
      cases hl : lotS lot c with
      | true => rfl
      | false => exact absurd (.inr hl) h1
    · cases h
theorem ordV_bad {m : M} {c : Int} {lot : List Int} (h : ordErr m c lot ≠ 0) : ordV m c lot = [] := by unfold ordV; rw [if_neg h]
theorem lockV_bad {m : M} {c : Int} {lot : List Int} (h : ordErr m c lot ≠ 0) : lockV m c lot = [] := by unfold lockV; rw [ordV_bad h]; rfl
theorem ordV_ok {m : M} {C : Nat} {lot : List Int} (h : ordErr m C lot = 0) : ordV m C lot = lnkO m lot C := by unfold ordV; rw [if_pos h]; rfl
theorem lockV_ok {m : M} {C : Nat} {lot : List Int} (h : ordErr m C lot = 0) : lockV m C lot = lockM m lot C := by unfold lockV; rw [ordV_ok h]; rfl
/-- At most 45 links. -/
theorem raw_half {m : M} {C : Nat} : ∀ k ∈ rawL m (rangeI C) (rangeI C), ¬ (k.2.1, k.1) ∈ (rawL m (rangeI C) (rangeI C)).map fun k => (k.1, k.2.1) := fun k hk hm => by
  obtain ⟨g, hg, e⟩ := List.mem_map.1 hm
  obtain ⟨x, _, y, _, b1, rfl⟩ := mem_rawL.1 hk
  obtain ⟨u, _, v, _, b2, rfl⟩ := mem_rawL.1 hg
  have e1 : u = y := congrArg Prod.fst e
  have e2 : v = x := congrArg Prod.snd e
  subst e1 e2
  have := of_decide_eq_true b1
  have := of_decide_eq_true b2
  omega
/-- The links and their turned twins are pairs of different candidates, each once. -/
theorem raw_len2 {m : M} {C : Nat} : 2 * (rawL m (rangeI C) (rangeI C)).length + C ≤ C * C := by
  have hP : ((rawL m (rangeI C) (rangeI C)).map fun k => (k.1, k.2.1)).Nodup := by
    rw [List.nodup_iff_pairwise_ne, List.pairwise_map]
    refine (raw_ne (nodup_rangeI C) (nodup_rangeI C)).imp fun {a b} h e => ?_
    obtain ⟨e1, e2⟩ := Prod.mk.inj e
    exact h.elim (fun h => h e1) fun h => h e2
  have hQ : ((rawL m (rangeI C) (rangeI C)).map fun k => (k.2.1, k.1)).Nodup := by
    rw [List.nodup_iff_pairwise_ne, List.pairwise_map]
    refine (raw_ne (nodup_rangeI C) (nodup_rangeI C)).imp fun {a b} h e => ?_
    obtain ⟨e1, e2⟩ := Prod.mk.inj e
    exact h.elim (fun h => h e2) fun h => h e1
  have hD : ((rangeI C).map fun x => (x, x)).Nodup := by
    rw [List.nodup_iff_pairwise_ne, List.pairwise_map]
    exact (List.nodup_iff_pairwise_ne.1 (nodup_rangeI C)).imp fun h e => h (congrArg Prod.fst e)
  have hall : (((rawL m (rangeI C) (rangeI C)).map fun k => (k.1, k.2.1)) ++ (((rawL m (rangeI C) (rangeI C)).map fun k => (k.2.1, k.1)) ++ (rangeI C).map fun x => (x, x))).Nodup := by
    refine List.nodup_append.2 ⟨hP, List.nodup_append.2 ⟨hQ, hD, ?_⟩, ?_⟩
    · intro a ha b hb e
      obtain ⟨k, hk, rfl⟩ := List.mem_map.1 ha
      obtain ⟨x, _, rfl⟩ := List.mem_map.1 hb
      have e1 : k.2.1 = x := congrArg Prod.fst e
      have e2 : k.1 = x := congrArg Prod.snd e
      exact raw_ft hk (e2.trans e1.symm)
    · intro a ha b hb e
      obtain ⟨k, hk, rfl⟩ := List.mem_map.1 ha
      rcases List.mem_append.1 hb with hb | hb
      · obtain ⟨g, hg, rfl⟩ := List.mem_map.1 hb
        refine raw_half g hg (List.mem_map.2 ⟨k, hk, e⟩)
      · obtain ⟨x, _, rfl⟩ := List.mem_map.1 hb
        have e1 : k.1 = x := congrArg Prod.fst e
        have e2 : k.2.1 = x := congrArg Prod.snd e
        exact raw_ft hk (e1.trans e2.symm)
  have hsub : (((rawL m (rangeI C) (rangeI C)).map fun k => (k.1, k.2.1)) ++ (((rawL m (rangeI C) (rangeI C)).map fun k => (k.2.1, k.1)) ++ (rangeI C).map fun x => (x, x))) ⊆ ((rangeI C).map fun x => (rangeI C).map fun y => (x, y)).flatten := by
    have key : ∀ x y : Int, x ∈ rangeI C → y ∈ rangeI C → (x, y) ∈ ((rangeI C).map fun x => (rangeI C).map fun y => (x, y)).flatten := fun x y hx hy =>
      List.mem_flatten.2 ⟨_, List.mem_map.2 ⟨x, hx, rfl⟩, List.mem_map.2 ⟨y, hy, rfl⟩⟩
    intro a ha
    rcases List.mem_append.1 ha with ha | ha
    · obtain ⟨k, hk, rfl⟩ := List.mem_map.1 ha
      obtain ⟨x, hx, y, hy, _, rfl⟩ := mem_rawL.1 hk
      exact key x y hx hy
    · rcases List.mem_append.1 ha with ha | ha
      · obtain ⟨k, hk, rfl⟩ := List.mem_map.1 ha
        obtain ⟨x, hx, y, hy, _, rfl⟩ := mem_rawL.1 hk
        exact key y x hy hx
      · obtain ⟨x, hx, rfl⟩ := List.mem_map.1 ha
        exact key x x hx hx
  have hle := hall.length_le_of_subset hsub
  have hsq : ∀ (xs ys : List Int), ((xs.map fun x => ys.map fun y => (x, y)).flatten).length = xs.length * ys.length := by
    intro xs ys
    induction xs with
    | nil => simp
    | cons a r ih => rw [List.map_cons, List.flatten_cons, List.length_append, ih, List.length_map, List.length_cons, Nat.succ_mul]; omega
  rw [hsq, length_rangeI] at hle
  simp only [List.length_append, List.length_map, length_rangeI] at hle
  omega
theorem lnkO_45 {m : M} {lot : List Int} {C : Nat} (h : LotP lot C) (hC : C ≤ 10) : (lnkO m lot C).length ≤ 45 := by
  rw [lnkO_length h]
  have h1 := raw_len2 (m := m) (C := C)
  have h2 : C = 0 ∨ C = 1 ∨ C = 2 ∨ C = 3 ∨ C = 4 ∨ C = 5 ∨ C = 6 ∨ C = 7 ∨ C = 8 ∨ C = 9 ∨ C = 10 := by omega
  rcases h2 with e | e | e | e | e | e | e | e | e | e | e <;> subst e <;> omega
end Go.Proofs.YtolbceckbnifmaaGreat
