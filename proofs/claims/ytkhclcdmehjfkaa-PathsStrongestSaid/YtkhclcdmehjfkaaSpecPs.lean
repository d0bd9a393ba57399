/-
  Simple paths, one by one: the law PathsStrongest in plain terms.
-/
import Derived.Test.YtkhclcdmehjfkaaSpecPa
namespace Go.Proofs.Ytkhclcdmehjfkaa

/-- A path as the program holds it. -/
def pathL (x0 : Nat) (L : List Nat) : List Int := (x0 :: L).map fun i : Nat => (i : Int)
theorem length_pathL (x0 : Nat) (L : List Nat) : (pathL x0 L).length = L.length + 1 := by simp [pathL]
theorem pathL_snoc (x0 : Nat) (L : List Nat) (y : Nat) : pathL x0 (L ++ [y]) = pathL x0 L ++ [(y : Int)] := by simp [pathL]
theorem mem_pathL {x0 : Nat} {L : List Nat} {y : Nat} : (y : Int) ∈ pathL x0 L ↔ y ∈ x0 :: L := by
  unfold pathL
  rw [List.mem_map]
  exact ⟨fun ⟨a, ha, e⟩ => by have : a = y := by omega
                              rwa [← this], fun h => ⟨y, h, rfl⟩⟩
/-- From x0 over L to z, no node twice, no link weaker than T. -/
structure Way (m : M) (C x0 : Nat) (L : List Nat) (z : Nat) (T : Int) : Prop where
  lt : ∀ y ∈ x0 :: L, y < C
  nd : (x0 :: L).Nodup
  last : (pathL x0 L)[L.length]? = some (z : Int)
  str : minT m (pathL x0 L) (L.length + 1) = T
  one : 1 ≤ T
  top : T ≤ 1000001
  way : (L = [] ∧ z = x0) ∨ Pth m T x0 L z
theorem Way.start (m : M) {C x : Nat} (h : x < C) : Way m C x [] x 1000001 :=
  ⟨fun y hy => by rw [List.mem_singleton.1 hy]; exact h, by simp, rfl, rfl, by omega, by omega, .inl ⟨rfl, rfl⟩⟩
theorem minT_congr (m : M) {p q : List Int} : ∀ {k : Nat}, (∀ i, i < k → p.getD i 0 = q.getD i 0) → minT m p k = minT m q k
  | 0, _ => rfl
  | k + 1, h => by
    by_cases e : k = 0
    · subst e; rfl
    · rw [minT_succ m p (by omega), minT_succ m q (by omega), minT_congr m (k := k) fun i hi => h i (by omega), h (k - 1) (by omega), h k (by omega)]
theorem Way.zlt {m : M} {C x0 z : Nat} {L : List Nat} {T : Int} (h : Way m C x0 L z T) : z < C :=
  h.lt z (mem_pathL.1 (List.mem_of_getElem? h.last))
/-- One link more. -/
theorem Way.step {m : M} {C x0 z y : Nat} {L : List Nat} {T : Int} (h : Way m C x0 L z T) (hC : C ≤ 10) (hb : Bd m) (hy : y < C) (hn : y ∉ x0 :: L) (hl : 1 ≤ lnkS m z y) : Way m C x0 (L ++ [y]) y (min T (lnkS m z y)) := by
  have hz := h.zlt
  have hlen := length_pathL x0 L
  have hbd := lnkS_bd hb z y (by omega) (by omega)
  refine ⟨fun v hv => ?_, ?_, ?_, ?_, ?_, ?_, .inr ?_⟩
  · rcases List.mem_cons.1 hv with e | hv
    · exact h.lt v (by rw [e]; exact List.mem_cons_self)
    · rcases List.mem_append.1 hv with hv | hv
      · exact h.lt v (List.mem_cons_of_mem _ hv)
      · rw [List.mem_singleton.1 hv]; exact hy
  · rw [← List.cons_append]
    exact List.nodup_append.2 ⟨h.nd, by simp, fun a ha b hb' e => by rw [List.mem_singleton.1 hb'] at e; rw [e] at ha; exact hn ha⟩
  · rw [pathL_snoc, List.length_append]
    rw [List.getElem?_append_right (by rw [hlen]; simp)]
    simp [hlen]
  · rw [List.length_append]
    show minT m _ (L.length + 1 + 1) = _
    rw [minT_succ m _ (by omega), pathL_snoc]
    have e1 : minT m (pathL x0 L ++ [(y : Int)]) (L.length + 1) = T := by
      rw [← h.str]
      refine minT_congr m fun i hi => ?_
      simp [List.getD, List.getElem?_append_left (show i < (pathL x0 L).length by omega)]
    have e2 : (pathL x0 L ++ [(y : Int)]).getD (L.length + 1 - 1) 0 = z := by
      simp only [Nat.add_sub_cancel, List.getD]
      rw [List.getElem?_append_left (by omega), h.last]; rfl
    have e3 : (pathL x0 L ++ [(y : Int)]).getD (L.length + 1) 0 = y := by
      simp only [List.getD]
      rw [List.getElem?_append_right (by omega)]; simp [hlen]
    rw [e1, e2, e3]
    unfold lnkI
    rw [if_pos ⟨by omega, by omega, by omega, by omega⟩, Int.toNat_natCast, Int.toNat_natCast]
  · have := h.one; omega
  · have := h.top; omega
  · have h1 : Pth m (min T (lnkS m z y)) z [y] y := .one (by omega) (by omega) (by omega)
    rcases h.way with ⟨e1, e2⟩ | h2
    · subst e1; subst e2; exact h1
    · exact (h2.weak (by omega)).app h1
theorem Way.strength {m : M} {C x0 z : Nat} {L : List Nat} {T : Int} (h : Way m C x0 L z T) (hr : rightS m 10 = true) (hL : L ≠ []) : strP m (pathL x0 L) = T := by
  unfold strP
  have := List.length_pos_iff.2 hL
  rw [if_pos ⟨hr, by rw [length_pathL]; omega⟩, length_pathL]
  exact h.str
theorem Way.upper {m S : M} {C x0 z : Nat} {L : List Nat} {T : Int} (h : Way m C x0 L z T) (hS : Str m S) (hC : C ≤ 10) (hL : L ≠ []) : T ≤ S x0 z := by
  rcases h.way with ⟨e, _⟩ | hp
  · exact absurd e hL
  · have hz := h.zlt
    have hx := h.lt x0 List.mem_cons_self
    have hne : x0 ≠ z := fun e => (List.nodup_cons.1 h.nd).1 (by rw [e]; exact hp.last_mem)
    exact (hS.iff (by omega) (by omega) hne h.one).2 ⟨L, hp⟩
/-- The numbers hold all that goes on from z to a node before Y. -/
def GoodT (m : M) (x0 : Nat) (L : List Nat) (z : Nat) (T : Int) (Y : Nat) (b : List Int) : Prop :=
  ∀ (t : Int) (y0 : Nat) (l : List Nat) (y : Nat), 1 ≤ t → t ≤ T → y0 < Y → Pth m t z (y0 :: l) y → (x0 :: L ++ y0 :: l).Nodup → t ≤ b.getD y 0
/-- The numbers are those of paths. -/
def UpT (S : M) (x0 : Nat) (b : List Int) : Prop := ∀ y, y < 10 → 0 ≤ b.getD y 0 ∧ b.getD y 0 ≤ S x0 y
def GeT (b b' : List Int) : Prop := ∀ y, b.getD y 0 ≤ b'.getD y 0
theorem GeT.refl (b : List Int) : GeT b b := fun _ => Int.le_refl _
theorem GeT.trans {a b c : List Int} (h : GeT a b) (h' : GeT b c) : GeT a c := fun y => Int.le_trans (h y) (h' y)
theorem GoodT.zero (m : M) (x0 : Nat) (L : List Nat) (z : Nat) (T : Int) (b : List Int) : GoodT m x0 L z T 0 b := fun _ _ _ _ _ _ h => by omega
theorem GoodT.ge {m : M} {x0 z : Nat} {L : List Nat} {T : Int} {Y : Nat} {b b' : List Int} (h : GoodT m x0 L z T Y b) (hg : GeT b b') : GoodT m x0 L z T Y b' := fun t y0 l y h1 h2 h3 h4 h5 => Int.le_trans (h t y0 l y h1 h2 h3 h4 h5) (hg y)
theorem Pth.head {m : M} {t : Int} {x y z : Nat} {l : List Nat} (h : Pth m t x (y :: l) z) : t ≤ lnkS m x y := by
  cases h with
  | one _ _ h => exact h
  | cons _ h _ => exact h
theorem Pth.tail {m : M} {t : Int} {x y z : Nat} {l : List Nat} (h : Pth m t x (y :: l) z) : (l = [] ∧ z = y) ∨ Pth m t y l z := by
  cases h with
  | one _ _ h => exact .inl ⟨rfl, rfl⟩
  | cons _ _ h => exact .inr h
/-- Y goes no further. -/
theorem GoodT.skip {m : M} {x0 z : Nat} {L : List Nat} {T : Int} {Y : Nat} {b : List Int} (h : GoodT m x0 L z T Y b) (hs : Y ∈ x0 :: L ∨ lnkS m z Y < 1) : GoodT m x0 L z T (Y + 1) b := fun t y0 l y h1 h2 h3 h4 h5 => by
  by_cases e : y0 = Y
  · subst e
    rcases hs with hs | hs
    · exact absurd rfl ((List.nodup_append.1 h5).2.2 y0 hs y0 List.mem_cons_self)
    · have := h4.head; omega
  · exact h t y0 l y h1 h2 (by omega) h4 h5
/-- Y was taken, and all behind it. -/
theorem GoodT.take {m : M} {C x0 z : Nat} {L : List Nat} {T : Int} {Y : Nat} {b b' : List Int} (h : GoodT m x0 L z T Y b) (hg : GeT b b') (hr : rightS m C = true) (hT : min T (lnkS m z Y) ≤ b'.getD Y 0) (h' : GoodT m x0 (L ++ [Y]) Y (min T (lnkS m z Y)) C b') : GoodT m x0 L z T (Y + 1) b' := fun t y0 l y h1 h2 h3 h4 h5 => by
  by_cases e : y0 = Y
  · subst e
    have hl := h4.head
    rcases h4.tail with ⟨e1, e2⟩ | hp
    · subst e2; omega
    · cases l with
      | nil => exact absurd hp.last_mem (by simp)
      | cons y1 l =>
        refine h' t y1 l y h1 (by omega) ?_ hp (by simpa using h5)
        exact (hp.nodes hr h1).2 y1 List.mem_cons_self
  · exact Int.le_trans (h t y0 l y h1 h2 (by omega) h4 h5) (hg y)
/-- All simple paths from x have been seen: the numbers are the strengths. -/
theorem good_all {m S : M} {C x : Nat} {b : List Int} (hS : Str m S) (hr : rightS m C = true) (hx : x < C) (hg : GoodT m x [] x 1000001 C b) (hu : UpT S x b) {y : Nat} (hy : y < 10) : b.getD y 0 = S x y := by
  have hC : C ≤ 10 := by have := (rightS_iff.1 hr).2.1; omega
  have h1 := hu y hy
  have h2 := hS.bd x y (by omega) hy
  refine Int.le_antisymm h1.2 ?_
  by_cases h0 : S x y < 1
  · omega
  · have hne : x ≠ y := fun e => by subst e; have := hS.diag x (by omega); omega
    obtain ⟨l, hl⟩ := (hS.iff (by omega) hy hne (show 1 ≤ S x y by omega)).1 (Int.le_refl _)
    obtain ⟨l', h3, h4⟩ := hl.simple hne
    cases l' with
    | nil => exact absurd h3.last_mem (by simp)
    | cons y0 l' => exact hg _ y0 l' y (by omega) (by omega) ((h3.nodes hr (by omega)).2 y0 List.mem_cons_self) h3 (by simpa using h4)
theorem str_off {m S : M} {C x y : Nat} (hS : Str m S) (hr : rightS m C = true) (hx : x < 10) (hy : y < 10) (hxC : C ≤ x) : S x y = 0 := by
  have h2 := hS.bd x y hx hy
  by_cases h0 : S x y < 1
  · omega
  · have hne : x ≠ y := fun e => by subst e; have := hS.diag x hx; omega
    obtain ⟨l, hl⟩ := (hS.iff hx hy hne (show 1 ≤ S x y by omega)).1 (Int.le_refl _)
    have := (hl.nodes hr (by omega)).1
    omega
end Go.Proofs.Ytkhclcdmehjfkaa
