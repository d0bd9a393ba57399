/-
  Copeland, minimax and the Smith set under other names, in plain terms.
-/
import Derived.Test.YtkhclcdmehjfkaaGreatSpecNp
import Derived.Test.YtkhclcdmehjfkaaGreatSpecCo
namespace Go.Proofs.YtkhclcdmehjfkaaGreat
open Go.RowKit Go.Proofs

theorem perm_sumI {l r : List Int} (h : l.Perm r) : l.sum = r.sum := by
  induction h with
  | nil => rfl
  | cons x _ ih => rw [List.sum_cons, List.sum_cons, ih]
  | swap x y l => simp only [List.sum_cons]; omega
  | trans _ _ h1 h2 => exact h1.trans h2
/-- What x gets against y, twice. -/
def cop1 (m : M) (x y : Nat) : Int := if m y x < m x y then 2 else if m x y = m y x ∧ x ≠ y then 1 else 0
theorem copP_sum (m : M) (x : Nat) : ∀ Y, copP m x Y = ((List.range Y).map (cop1 m x)).sum
  | 0 => rfl
  | Y + 1 => by
    rw [copP_succ, List.range_succ, List.map_append, List.sum_append, ← copP_sum m x Y]
    simp only [List.map_cons, List.map_nil, List.sum_cons, List.sum_nil, Int.add_zero]
    rfl
theorem perm_map {f : Nat → Nat} {C : Nat} (hf : ∀ x, x < C → f x < C) (hi : ∀ x y, x < C → y < C → f x = f y → x = y) : ((List.range C).map f).Perm (List.range C) := by
  have hnd : ((List.range C).map f).Nodup := by
    refine List.nodup_iff_pairwise_ne.2 (List.pairwise_map.2 ?_)
    refine (List.nodup_range (n := C)).imp_of_mem ?_
    intro a b ha hb hne e
    exact hne (hi a b (List.mem_range.1 ha) (List.mem_range.1 hb) e)
  have hsub : (List.range C).map f ⊆ List.range C := fun z hz => by
    obtain ⟨a, ha, rfl⟩ := List.mem_map.1 hz
    exact List.mem_range.2 (hf a (List.mem_range.1 ha))
  exact perm_of_subset hnd hsub (by simp)
theorem copP_names {m m' : M} {f : Nat → Nat} {C : Nat} (hf : ∀ x, x < C → f x < C) (hi : ∀ x y, x < C → y < C → f x = f y → x = y) (he : ∀ x y, x < C → y < C → m' (f x) (f y) = m x y) {x : Nat} (hx : x < C) : copP m' (f x) C = copP m x C := by
  rw [copP_sum, copP_sum, ← perm_sumI ((perm_map hf hi).map _), List.map_map]
  congr 1
  refine List.map_congr_left fun y hy => ?_
  have hy := List.mem_range.1 hy
  show cop1 m' (f x) (f y) = cop1 m x y
  unfold cop1
  rw [he x y hx hy, he y x hy hx]
  have : f x ≠ f y ↔ x ≠ y := ⟨fun h e => h (by rw [e]), fun h e => h (hi x y hx hy e)⟩
  simp only [this]
theorem le_worP {m : M} {x : Nat} {z : Int} : ∀ {C : Nat}, z ≤ worP m x C ↔ z ≤ 0 ∧ ∀ y, y < C → z ≤ m x y - m y x
  | 0 => by simp [worP]
  | C + 1 => by
    rw [worP_succ]
    have ih := le_worP (m := m) (x := x) (z := z) (C := C)
    constructor
    · intro h
      have h1 := ih.1 (by omega)
      refine ⟨h1.1, fun y hy => ?_⟩
      by_cases e : y = C
      · subst e; omega
      · exact h1.2 y (by omega)
    · intro h
      have h1 := ih.2 ⟨h.1, fun y hy => h.2 y (by omega)⟩
      have h2 := h.2 C (by omega)
      omega
theorem worP_names {m m' : M} {f g : Nat → Nat} {C : Nat} (hf : ∀ x, x < C → f x < C) (hg : ∀ x, x < C → g x < C) (hfg : ∀ x, x < C → f (g x) = x) (he : ∀ x y, x < C → y < C → m' (f x) (f y) = m x y) {x : Nat} (hx : x < C) : worP m' (f x) C = worP m x C := by
  have key : ∀ z : Int, z ≤ worP m' (f x) C ↔ z ≤ worP m x C := fun z => by
    rw [le_worP, le_worP]
    constructor
    · rintro ⟨h1, h2⟩
      refine ⟨h1, fun y hy => ?_⟩
      have := h2 (f y) (hf y hy)
      rw [he x y hx hy, he y x hy hx] at this
      exact this
    · rintro ⟨h1, h2⟩
      refine ⟨h1, fun y hy => ?_⟩
      have := h2 (g y) (hg y hy)
      rw [← he x (g y) hx (hg y hy), ← he (g y) x (hg y hy) hx, hfg y hy] at this
      exact this
  exact Int.le_antisymm ((key _).1 (Int.le_refl _)) ((key _).2 (Int.le_refl _))
theorem copF_ren {p : List Int} {C : Nat} {m m' : M} (hN : Names p C) (he : ∀ x y, x < C → y < C → m' (nm p x) (nm p y) = m x y) (x : Int) (hx : 0 ≤ x ∧ x < C) : copF m' C (nameS p x) = copF m C x := by
  obtain ⟨X, rfl⟩ : ∃ X : Nat, x = X := ⟨x.toNat, by omega⟩
  exact copP_names (f := nm p) (fun x hx => nm_lt hN hx) (fun x y hx hy => nm_inj hN hx hy) he (by omega : X < C)
theorem worF_ren {p : List Int} {C : Nat} {m m' : M} (hN : Names p C) (he : ∀ x y, x < C → y < C → m' (nm p x) (nm p y) = m x y) (x : Int) (hx : 0 ≤ x ∧ x < C) : worF m' C (nameS p x) = worF m C x := by
  obtain ⟨X, rfl⟩ : ∃ X : Nat, x = X := ⟨x.toNat, by omega⟩
  exact worP_names (f := nm p) (g := idx p) (fun x hx => nm_lt hN hx) (fun x hx => (idx_nm hN hx).2) (fun x hx => (idx_nm hN hx).1) he (by omega : X < C)
/-- The outcome goes along with the names. -/
theorem mostO_ren {p lot : List Int} {C : Nat} {f f' : Int → Int} {g : Int → Rat3} (hN : Names p C) (hlot : lotS lot C = true) (he : ∀ x : Int, 0 ≤ x ∧ x < C → f' (nameS p x) = f x) : mostO f' g C (lot.map (nameS p)) = renO p (mostO f g C lot) := by
  have hsub := bestS_sub f (rangeI C)
  have hr := (inR_range C).sub hsub
  have hne : bestS f (rangeI C) ≠ [] := bestS_ne (fun e => by have := congrArg List.length e; rw [length_rangeI] at this; have h1 := hN.one; simp at this; omega)
  have hin : ∀ x ∈ bestS f (rangeI C), x ∈ lot := fun x hx => lot_in hlot (hsub.subset hx)
  have hb : bestS f' (rangeI C) = imgS p C (bestS f (rangeI C)) := by
    have := best_ren hN (inR_range C) he
    rwa [img_range hN] at this
  have hh : ((rangeI C).map fun y => g (f' y)) = renHad p ((rangeI C).map fun y => g (f y)) := by
    unfold renHad
    rw [List.length_map, length_rangeI]
    refine List.ext_getElem? fun i => ?_
    by_cases hi : i < C
    · obtain ⟨h1, h2⟩ := name_idx hN hi
      have h3 := he (idx p i : Nat) ⟨by omega, by omega⟩
      rw [h2] at h3
      simp [rangeI, hi, h1, h3, List.getD]
    · rw [List.getElem?_eq_none (by simp [rangeI]; omega), List.getElem?_eq_none (by simp; omega)]
  unfold mostO renO
  rw [hb, frst_ren hN hr (lot_in_range hlot) hne hin, hh]
  have ht := tied_ren (ts := []) (x := frstS lot (bestS f (rangeI C))) hN hr ((nodup_rangeI C).sublist hsub)
  simp only [List.map_cons, List.map_nil, renRnd, ← ht]
/-- The Smith set goes along with the names. -/
theorem smith_names {p : List Int} {C : Nat} {m m' : M} {S : List Int} (hN : Names p C) (he : ∀ x y, x < C → y < C → m' (nm p x) (nm p y) = m x y) (h : Smith m C S) : Smith m' C (imgS p C S) := by
  have hS : InR C S := (inR_range C).sub h.dom.sub
  have hback : ∀ {x y : Nat}, x < C → y < C → m' x y = m (idx p x) (idx p y) := fun {x y} hx hy => by
    obtain ⟨h1, h2⟩ := idx_nm hN hx
    obtain ⟨h3, h4⟩ := idx_nm hN hy
    have := he _ _ h2 h4
    rwa [h1, h3] at this
  have hmem : ∀ {x : Nat}, x < C → ((x : Int) ∈ imgS p C S ↔ (idx p x : Int) ∈ S) := fun {x} hx => by
    obtain ⟨h1, h2⟩ := name_idx hN hx
    rw [← inL_iff, ← inL_iff (l := S), ← inL_img hN hS (y := (idx p x : Nat)) ⟨by omega, by omega⟩, h2]
  refine ⟨⟨img_sub p C S, ?_, fun x y hx hy hxm hyn => ?_⟩, fun D hD => ?_⟩
  · obtain ⟨a, ha⟩ := List.exists_mem_of_ne_nil S h.dom.ne
    exact List.ne_nil_of_mem ((mem_img hN hS).2 ⟨a, ha, rfl⟩)
  · rw [hback hx hy, hback hy hx]
    exact h.dom.all _ _ (idx_nm hN hx).2 (idx_nm hN hy).2 ((hmem hx).1 hxm) (fun h => hyn ((hmem hy).2 h))
  · have hd : ((rangeI C).filter fun x => inL D (nameS p x)).Sublist (rangeI C) := List.filter_sublist
    have hr := (inR_range C).sub hd
    have hm : ∀ {x : Nat}, x < C → ((x : Int) ∈ ((rangeI C).filter fun x => inL D (nameS p x)) ↔ ((nm p x : Nat) : Int) ∈ D) := fun {x} hx => by
      rw [List.mem_filter, inL_iff, nm_cast hN hx]
      exact ⟨fun h => h.2, fun h => ⟨mem_rangeI.2 ⟨by omega, by omega⟩, h⟩⟩
    have himg : D = imgS p C ((rangeI C).filter fun x => inL D (nameS p x)) := img_of hN hr hD.sub fun x => by
      constructor
      · intro hx
        have hxr := mem_rangeI.1 (hD.sub.subset hx)
        obtain ⟨X, rfl⟩ : ∃ X : Nat, x = X := ⟨x.toNat, by omega⟩
        obtain ⟨h1, h2⟩ := name_idx hN (d := X) (by omega)
        exact ⟨(idx p X : Nat), (hm h1).2 (by rw [nm_cast hN h1, h2]; exact hx), h2⟩
      · rintro ⟨y, hy, rfl⟩
        exact inL_iff.1 (List.mem_filter.1 hy).2
    have hlen := img_len hN hr ((nodup_rangeI C).sublist hd)
    rw [← himg] at hlen
    rw [img_len hN hS ((nodup_rangeI C).sublist h.dom.sub), hlen]
    refine h.least _ ⟨hd, ?_, fun x y hx hy hxm hyn => ?_⟩
    · intro e
      rw [e] at hlen
      exact hD.ne (List.length_eq_zero_iff.1 hlen)
    · have := hD.all _ _ (nm_lt hN hx) (nm_lt hN hy) ((hm hx).1 hxm) (fun h => hyn ((hm hy).2 h))
      rwa [he y x hy hx, he x y hx hy] at this
theorem smithV_ren {p : List Int} {C : Nat} {m m' : M} (hN : Names p C) (he : ∀ x y, x < C → y < C → m' (nm p x) (nm p y) = m x y) (hr : rightS m C = true) (hr' : rightS m' C = true) : smithV m' C = imgS p C (smithV m C) := by
  have hsm := smithS_ok (m := m) (show 0 < C from hN.one)
  rw [smithV_ok hr hsm, smithV_ok hr' (smith_names hN he hsm)]
end Go.Proofs.YtkhclcdmehjfkaaGreat
