/-
  Other names: of sets, of ties, of outcomes. No count is spoken of here.
  Strongest paths under other names, in plain terms.
-/
import Derived.Test.YtolbceckbnifmaaGreatSpecM
import Derived.Test.YtolbceckbnifmaaGreatW11g
import Derived.Test.YtolbceckbnifmaaGreatW15c
import Derived.Test.YtolbceckbnifmaaGreatSpecPa
namespace Go.Proofs.YtolbceckbnifmaaGreat
open Go.RowKit Go.Proofs

/-- The names of a set, in ascending order. -/
def imgS (p : List Int) (n : Nat) (S : List Int) : List Int := (rangeI n).filter (inL (S.map (nameS p)))
def zeroR : Rat3 := (false, [], [])
/-- Numbers of the candidates under other names. -/
def renHad (p : List Int) (had : List Rat3) : List Rat3 := (List.range had.length).map fun d => had.getD (idx p d) zeroR
def renRnd (p : List Int) (r : Rnd) : Rnd := (renHad p r.1, r.2.1, r.2.2.1.map (nameS p), r.2.2.2.map (nameS p))
def renTie (p : List Int) (t : Row) : Row := (imgS p p.length t.1, nameS p t.2)
/-- An outcome under other names. -/
def renO (p : List Int) (o : Outc) : Outc := (o.1.map (nameS p), o.2.1.map (renRnd p), o.2.2.map (renTie p))

/-- All are numbers below n. -/
def InR (n : Nat) (S : List Int) : Prop := ∀ y ∈ S, 0 ≤ y ∧ y < n
theorem InR.sub {n : Nat} {S T : List Int} (h : InR n S) (hs : T.Sublist S) : InR n T := fun y hy => h y (hs.subset hy)
theorem inR_range (n : Nat) : InR n (rangeI n) := fun _ hy => mem_rangeI.1 hy
theorem img_sub (p : List Int) (n : Nat) (S : List Int) : (imgS p n S).Sublist (rangeI n) := List.filter_sublist
theorem mem_img {p : List Int} {n : Nat} {S : List Int} {x : Int} (hN : Names p n) (hS : InR n S) : x ∈ imgS p n S ↔ ∃ y ∈ S, nameS p y = x := by
  unfold imgS
  rw [List.mem_filter, inL_iff, List.mem_map, mem_rangeI]
  constructor
  · rintro ⟨_, y, hy, e⟩; exact ⟨y, hy, e⟩
  · rintro ⟨y, hy, rfl⟩; exact ⟨hN.name_in (hS y hy), y, hy, rfl⟩
theorem inL_img {p : List Int} {n : Nat} {S : List Int} {y : Int} (hN : Names p n) (hS : InR n S) (hy : 0 ≤ y ∧ y < n) : inL (imgS p n S) (nameS p y) = inL S y := by
  rw [Bool.eq_iff_iff, inL_iff, inL_iff, mem_img hN hS]
  constructor
  · rintro ⟨z, hz, e⟩; rw [← hN.inj (hS z hz) hy e]; exact hz
  · intro h; exact ⟨y, h, rfl⟩
theorem img_of {p : List Int} {n : Nat} {S T : List Int} (_hN : Names p n) (_hS : InR n S) (hT : T.Sublist (rangeI n)) (h : ∀ x, x ∈ T ↔ ∃ y ∈ S, nameS p y = x) : T = imgS p n S := by
  rw [← filter_sub hT (nodup_rangeI n)]
  unfold imgS
  refine List.filter_congr fun x _ => ?_
  rw [Bool.eq_iff_iff, inL_iff, inL_iff, h, List.mem_map]
theorem img_len {p : List Int} {n : Nat} {S : List Int} (hN : Names p n) (hS : InR n S) (hnd : S.Nodup) : (imgS p n S).length = S.length := by
  have h1 : (imgS p n S).Nodup := (nodup_rangeI n).sublist (img_sub _ _ _)
  have h2 : (S.map (nameS p)).Nodup := nodup_map_names hN hS hnd
  have h3 : imgS p n S ⊆ S.map (nameS p) := fun x hx => by obtain ⟨y, hy, e⟩ := (mem_img hN hS).1 hx; exact List.mem_map.2 ⟨y, hy, e⟩
  have h4 : S.map (nameS p) ⊆ imgS p n S := fun x hx => by obtain ⟨y, hy, e⟩ := List.mem_map.1 hx; exact (mem_img hN hS).2 ⟨y, hy, e⟩
  have h5 := h1.length_le_of_subset h3
  have h6 := h2.length_le_of_subset h4
  rw [List.length_map] at h5 h6
  omega
theorem find_img {p : List Int} {n : Nat} {S : List Int} (hN : Names p n) (hS : InR n S) : ∀ {ms : List Int}, InR n ms → (ms.map (nameS p)).find? (inL (imgS p n S)) = (ms.find? (inL S)).map (nameS p)
  | [], _ => rfl
  | a :: r, h => by
    rw [List.map_cons, List.find?_cons, List.find?_cons, inL_img hN hS (h a (List.mem_cons_self ..))]
    cases inL S a with
    | true => rfl
    | false => exact find_img hN hS fun y hy => h y (List.mem_cons_of_mem _ hy)
/-- The profile under other names. -/
def renL (p : List Int) (l : List Row) : List Row := eachS (fun ms => renS 1 ms p) l
theorem name_idx {p : List Int} {n : Nat} (hN : Names p n) {d : Nat} (hd : d < n) : idx p d < n ∧ nameS p (idx p d : Int) = d := by
  have hm : (d : Int) ∈ p := by
    have hp : (rangeI n).Perm p := perm_of_subset (nodup_rangeI n) (fun x hx => ?_) (by rw [length_rangeI, hN.len]; exact Nat.le_refl _)
    · exact hp.subset (mem_rangeI.2 ⟨by omega, by omega⟩)
    · have h3 : p ⊆ rangeI n := fun y hy => mem_rangeI.2 (hN.rng y hy)
      exact (perm_of_subset hN.nd h3 (by rw [length_rangeI, hN.len]; exact Nat.le_refl _)).symm.subset hx
  have h1 : idx p d < p.length := List.idxOf_lt_length_of_mem hm
  refine ⟨by rw [← hN.len]; exact h1, ?_⟩
  unfold nameS idx
  rw [Int.toNat_natCast]
  simp only [List.getD, List.getElem?_eq_getElem (show p.idxOf (d : Int) < p.length from h1), Option.getD_some]
  exact List.getElem_idxOf h1
theorem best_ren {p : List Int} {n : Nat} {S : List Int} {f g : Int → Int} (hN : Names p n) (hS : InR n S) (hg : ∀ x : Int, 0 ≤ x ∧ x < n → g (nameS p x) = f x) : bestS g (imgS p n S) = imgS p n (bestS f S) := by
  refine img_of hN (hS.sub (bestS_sub _ _)) ((bestS_sub _ _).trans (img_sub _ _ _)) fun x => ?_
  rw [mem_bestS]
  constructor
  · rintro ⟨hx, hm⟩
    obtain ⟨y, hy, rfl⟩ := (mem_img hN hS).1 hx
    refine ⟨y, mem_bestS.2 ⟨hy, fun k hk => ?_⟩, rfl⟩
    have := hm (nameS p k) ((mem_img hN hS).2 ⟨k, hk, rfl⟩)
    rwa [hg k (hS k hk), hg y (hS y hy)] at this
  · rintro ⟨y, hy, rfl⟩
    obtain ⟨hy1, hy2⟩ := mem_bestS.1 hy
    refine ⟨(mem_img hN hS).2 ⟨y, hy1, rfl⟩, fun k hk => ?_⟩
    obtain ⟨z, hz, rfl⟩ := (mem_img hN hS).1 hk
    rw [hg z (hS z hz), hg y (hS y hy1)]
    exact hy2 z hz
theorem find_some_of {φ : Int → Bool} {l : List Int} {x : Int} (hx : x ∈ l) (hp : φ x = true) : ∃ y, l.find? φ = some y := by
  cases h : l.find? φ with
  | some y => exact ⟨y, rfl⟩
  | none => exact absurd hp (by simpa using List.find?_eq_none.1 h x hx)
theorem last_ren {p : List Int} {n : Nat} {lot A : List Int} (hN : Names p n) (hA : InR n A) (hl : InR n lot) (hne : A ≠ []) (hin : ∀ x ∈ A, x ∈ lot) : lastS (lot.map (nameS p)) (imgS p n A) = nameS p (lastS lot A) := by
  obtain ⟨a, ha⟩ := List.exists_mem_of_ne_nil A hne
  obtain ⟨y, hy⟩ := find_some_of (φ := inL A) (l := lot.reverse) (List.mem_reverse.2 (hin a ha)) (inL_iff.2 ha)
  unfold lastS
  rw [← List.map_reverse, find_img hN hA (fun z hz => hl z (List.mem_reverse.1 hz)), hy]
  rfl
theorem out_ren {p : List Int} {n : Nat} {S : List Int} {z : Int} (hN : Names p n) (hS : InR n S) (hz : 0 ≤ z ∧ z < n) : outS (imgS p n S) (nameS p z) = imgS p n (outS S z) := by
  refine img_of hN (hS.sub (outS_sub _ _)) ((outS_sub _ _).trans (img_sub _ _ _)) fun x => ?_
  unfold outS
  rw [List.mem_filter, mem_img hN hS]
  constructor
  · rintro ⟨⟨y, hy, rfl⟩, hne⟩
    refine ⟨y, List.mem_filter.2 ⟨hy, ?_⟩, rfl⟩
    simp at hne ⊢
    exact fun e => hne (by rw [e])
  · rintro ⟨y, hy, rfl⟩
    obtain ⟨hy1, hy2⟩ := List.mem_filter.1 hy
    refine ⟨⟨y, hy1, rfl⟩, ?_⟩
    simp at hy2 ⊢
    exact fun e => hy2 (hN.inj (hS y hy1) hz e)
theorem tied_ren {p : List Int} {n : Nat} {A : List Int} {ts : List Row} {x : Int} (hN : Names p n) (hA : InR n A) (hnd : A.Nodup) : tiedS (ts.map (renTie p)) (imgS p n A) (nameS p x) = (tiedS ts A x).map (renTie p) := by
  unfold tiedS
  rw [img_len hN hA hnd]
  split
  · rfl
  · rw [List.map_append]; simp [renTie, hN.len]
theorem img_range {p : List Int} {n : Nat} (hN : Names p n) : imgS p n (rangeI n) = rangeI n := by
  refine (img_of hN (inR_range n) (List.Sublist.refl _) fun x => ?_).symm
  rw [mem_rangeI]
  constructor
  · rintro ⟨h0, h1⟩
    obtain ⟨X, rfl⟩ : ∃ X : Nat, x = X := ⟨x.toNat, by omega⟩
    obtain ⟨g1, g2⟩ := name_idx hN (d := X) (by omega)
    exact ⟨_, mem_rangeI.2 ⟨by omega, by omega⟩, g2⟩
  · rintro ⟨y, hy, rfl⟩; exact hN.name_in (mem_rangeI.1 hy)
theorem lot_ren {p lot : List Int} {n : Nat} (hN : Names p n) (h : lotS lot n = true) : lotS (lot.map (nameS p)) n = true := by
  have hl := lot_len h
  unfold lotS at h ⊢
  rw [Bool.and_eq_true] at h ⊢
  refine ⟨by rw [List.length_map]; exact h.1, ?_⟩
  obtain ⟨h1, h2, h3⟩ := turned_iff.1 h.2
  have hr : InR n lot := fun x hx => by have := h3 x hx; omega
  refine turned_iff.2 ⟨by rw [List.length_map]; exact h1, nodup_map_names hN hr h2, fun x hx => ?_⟩
  obtain ⟨y, hy, rfl⟩ := List.mem_map.1 hx
  have := hN.name_in (hr y hy)
  have := hN.le
  rw [List.length_map]
  omega
theorem lot_in_range {lot : List Int} {n : Nat} (h : lotS lot n = true) : InR n lot := fun x hx => by
  have hl := lot_len h
  unfold lotS at h
  rw [Bool.and_eq_true] at h
  have := (turned_iff.1 h.2).2.2 x hx
  omega
end Go.Proofs.YtolbceckbnifmaaGreat

namespace Go.Proofs.YtolbceckbnifmaaGreat
open Go.RowKit Go.Proofs

/-- A path under other names. -/
theorem Pth.names {m m' : M} {f : Nat → Nat} {C : Nat} {t : Int} (hC : C ≤ 10) (hm : rightS m C = true) (ht : 1 ≤ t) (hf : ∀ x, x < C → f x < C) (he : ∀ x y, x < C → y < C → m' (f x) (f y) = m x y) {x y : Nat} {l : List Nat} (h : Pth m t x l y) : Pth m' t (f x) (l.map f) (f y) := by
  have hl : ∀ {a b : Nat}, a < C → b < C → lnkS m' (f a) (f b) = lnkS m a b := fun {a b} ha hb => by unfold lnkS; rw [he a b ha hb, he b a hb ha]
  induction h with
  | one hx hy h1 =>
    have h0 := (Pth.one hx hy h1 : Pth m t _ _ _).nodes hm ht
    have hx' := h0.1
    have hy' := h0.2 _ (List.mem_singleton_self _)
    exact .one (by have := hf _ hx'; omega) (by have := hf _ hy'; omega) (by rw [hl hx' hy']; exact h1)
  | cons hx h1 r ih =>
    have h0 := (Pth.cons hx h1 r).nodes hm ht
    have hx' := h0.1
    have hy' := h0.2 _ (List.mem_cons_self ..)
    exact .cons (by have := hf _ hx'; omega) (by rw [hl hx' hy']; exact h1) ih
/-- The strengths under other names. -/
theorem Str.names {m m' S S' : M} {f g : Nat → Nat} {C : Nat} (hm : rightS m C = true) (hm' : rightS m' C = true) (h : Str m S) (h' : Str m' S') (hf : ∀ x, x < C → f x < C) (hg : ∀ x, x < C → g x < C) (hgf : ∀ x, x < C → g (f x) = x) (hfg : ∀ x, x < C → f (g x) = x)
    (he : ∀ x y, x < C → y < C → m' (f x) (f y) = m x y) {x y : Nat} (hx : x < C) (hy : y < C) : S' (f x) (f y) = S x y := by
  have hC : C ≤ 10 := by have := (rightS_iff.1 hm).2.1; omega
  have hfx := hf x hx
  have hfy := hf y hy
  by_cases e : x = y
  · subst e; rw [h.diag x (by omega), h'.diag (f x) (by omega)]
  · have e' : f x ≠ f y := fun e2 => e (by rw [← hgf x hx, ← hgf y hy, e2])
    have he2 : ∀ a b, a < C → b < C → m (g a) (g b) = m' a b := fun a b ha hb => by
      have := he (g a) (g b) (hg a ha) (hg b hb)
      rw [hfg a ha, hfg b hb] at this
      exact this.symm
    have key : ∀ t : Int, 1 ≤ t → (t ≤ S' (f x) (f y) ↔ t ≤ S x y) := fun t ht => by
      rw [h'.iff (by omega) (by omega) e' ht, h.iff (by omega) (by omega) e ht]
      constructor
      · rintro ⟨l, hl⟩
        have := hl.names hC hm' ht hg he2
        rw [hgf x hx, hgf y hy] at this
        exact ⟨_, this⟩
      · rintro ⟨l, hl⟩; exact ⟨_, hl.names hC hm ht hf he⟩
    have h1 := h.bd x y (by omega) (by omega)
    have h2 := h'.bd (f x) (f y) (by omega) (by omega)
    have k1 := fun hs => (key (S x y) hs).2 (Int.le_refl _)
    have k2 := fun hs => (key (S' (f x) (f y)) hs).1 (Int.le_refl _)
    omega
/-- How many one is not behind, as a list. -/
theorem hadP_len (S : M) (x : Nat) : ∀ Y, hadP S x Y = ((List.range Y).filter fun y => decide (x ≠ y ∧ S y x ≤ S x y)).length
  | 0 => rfl
  | Y + 1 => by
    rw [hadP_succ, List.range_succ, List.filter_append, List.length_append, ← hadP_len S x Y]
    congr 1
    by_cases e : x ≠ Y ∧ S Y x ≤ S x Y
    · rw [if_pos e, List.filter_cons_of_pos (by simpa using e)]; rfl
    · rw [if_neg e, List.filter_cons_of_neg (by simpa using e)]; rfl
theorem hadP_names {S S' : M} {f : Nat → Nat} {C : Nat} (hf : ∀ x, x < C → f x < C) (hi : ∀ x y, x < C → y < C → f x = f y → x = y) (he : ∀ x y, x < C → y < C → S' (f x) (f y) = S x y) {x : Nat} (hx : x < C) : hadP S' (f x) C = hadP S x C := by
  have hnd : ((List.range C).map f).Nodup := by
    refine List.nodup_iff_pairwise_ne.2 (List.pairwise_map.2 ?_)
    refine (List.nodup_range (n := C)).imp_of_mem ?_
    intro a b ha hb hne e
    exact hne (hi a b (List.mem_range.1 ha) (List.mem_range.1 hb) e)
  have hsub : (List.range C).map f ⊆ List.range C := fun z hz => by
    obtain ⟨a, ha, rfl⟩ := List.mem_map.1 hz
    exact List.mem_range.2 (hf a (List.mem_range.1 ha))
  have hp : ((List.range C).map f).Perm (List.range C) := perm_of_subset hnd hsub (by simp)
  rw [hadP_len, hadP_len, ← (hp.filter _).length_eq, List.filter_map, List.length_map]
  congr 1
  refine List.filter_congr fun y hy => ?_
  have hy := List.mem_range.1 hy
  simp only [Function.comp]
  rw [he x y hx hy, he y x hy hx, Bool.eq_iff_iff, decide_eq_true_eq, decide_eq_true_eq]
  exact ⟨fun h => ⟨fun e => h.1 (by rw [e]), h.2⟩, fun h => ⟨fun e => h.1 (hi x y hx hy e), h.2⟩⟩
/-- A candidate's name, as a number. -/
def nm (p : List Int) (x : Nat) : Nat := (nameS p x).toNat
theorem nm_cast {p : List Int} {n : Nat} (hN : Names p n) {x : Nat} (hx : x < n) : (nm p x : Int) = nameS p x := Int.toNat_of_nonneg (hN.name_in (by omega)).1
theorem nm_lt {p : List Int} {n : Nat} (hN : Names p n) {x : Nat} (hx : x < n) : nm p x < n := by
  have := nm_cast hN hx
  have := hN.name_in (x := x) (by omega)
  omega
theorem nm_inj {p : List Int} {n : Nat} (hN : Names p n) {x y : Nat} (hx : x < n) (hy : y < n) (e : nm p x = nm p y) : x = y := by
  have h1 := nm_cast hN hx
  have h2 := nm_cast hN hy
  have := hN.inj (x := x) (y := y) (by omega) (by omega) (by rw [← h1, ← h2, e])
  omega
theorem idx_nm {p : List Int} {n : Nat} (hN : Names p n) {x : Nat} (hx : x < n) : nm p (idx p x) = x ∧ idx p x < n := by
  obtain ⟨h1, h2⟩ := name_idx hN hx
  refine ⟨?_, h1⟩
  have := nm_cast hN h1
  omega
theorem nm_idx {p : List Int} {n : Nat} (hN : Names p n) {x : Nat} (hx : x < n) : idx p (nm p x) = x := by
  have h1 := idx_nm hN (nm_lt hN hx)
  exact nm_inj hN h1.2 hx h1.1
/-- The strengths of a profile under other names. -/
theorem str_ren {p : List Int} {C : Nat} {l : List Row} (hN : Names p C) (h : checkS C 1 l = 0) {x y : Nat} (hx : x < C) (hy : y < C) : strV (ofR C 1 (renL p l)) C (nm p x) (nm p y) = strV (ofR C 1 l) C x y := by
  have hr := ofR_right (k := 1) h (c' := (C : Int)) (Int.le_refl _) (by have := hN.le; omega)
  have hr2 := ofR_right (k := 1) (ren_check hN h) (c' := (C : Int)) (Int.le_refl _) (by have := hN.le; omega)
  exact (strV_ok hr).names hr hr2 (strV_ok hr2) (fun x hx => nm_lt hN hx) (fun x hx => (idx_nm hN hx).2) (fun x hx => nm_idx hN hx) (fun x hx => (idx_nm hN hx).1) (fun x y hx hy => ren_ofR hN h hx hy) hx hy
/-- The numbers go along with the names. -/
theorem hadPL_ren {p : List Int} {C : Nat} {S S' : M} (hN : Names p C) (he : ∀ x y, x < C → y < C → S' (nm p x) (nm p y) = S x y) : (hadPL S' C).map wholeS = renHad p ((hadPL S C).map wholeS) := by
  unfold renHad
  rw [List.length_map, length_hadPL]
  refine List.ext_getElem? fun i => ?_
  by_cases hi : i < C
  · obtain ⟨h1, h2⟩ := idx_nm hN hi
    have e := hadP_names (fun x hx => nm_lt hN hx) (fun x y hx hy => nm_inj hN hx hy) he h2
    rw [h1] at e
    rw [List.getElem?_map, get_hadPL _ hi, List.getElem?_map, List.getElem?_range hi, e]
    simp [List.getD, get_hadPL _ h2]
  · rw [List.getElem?_eq_none (by rw [List.length_map, length_hadPL]; omega), List.getElem?_eq_none (by simp; omega)]
theorem topS_ren {p : List Int} {C : Nat} {S S' : M} (hN : Names p C) (he : ∀ x y, x < C → y < C → S' (nm p x) (nm p y) = S x y) : topS S' C = imgS p C (topS S C) := by
  have hsub : (topS S C).Sublist (rangeI C) := List.filter_sublist
  refine img_of hN ((inR_range C).sub hsub) List.filter_sublist fun x => ?_
  have key : ∀ {X : Nat}, X < C → (((nm p X : Nat) : Int) ∈ topS S' C ↔ (X : Int) ∈ topS S C) := fun {X} hX => by
    have e := hadP_names (fun x hx => nm_lt hN hx) (fun x y hx hy => nm_inj hN hx hy) he hX
    have hl := nm_lt hN hX
    unfold topS
    rw [List.mem_filter, List.mem_filter, mem_rangeI, mem_rangeI, decide_eq_true_eq, decide_eq_true_eq, Int.toNat_natCast, Int.toNat_natCast, e]
    constructor <;> (rintro ⟨_, h⟩; exact ⟨by omega, h⟩)
  constructor
  · intro hx
    have hr := mem_rangeI.1 ((show (topS S' C).Sublist (rangeI C) from List.filter_sublist).subset hx)
    obtain ⟨X, rfl⟩ : ∃ X : Nat, x = X := ⟨x.toNat, by omega⟩
    obtain ⟨h1, h2⟩ := idx_nm hN (x := X) (by omega)
    refine ⟨(idx p X : Nat), (key h2).1 (by rw [h1]; exact hx), ?_⟩
    rw [← nm_cast hN h2, h1]
  · rintro ⟨y, hy, rfl⟩
    have hr := mem_rangeI.1 (hsub.subset hy)
    obtain ⟨Y, rfl⟩ : ∃ Y : Nat, y = Y := ⟨y.toNat, by omega⟩
    rw [← nm_cast hN (by omega)]
    exact (key (by omega)).2 hy
theorem frst_ren {p : List Int} {n : Nat} {lot A : List Int} (hN : Names p n) (hA : InR n A) (hl : InR n lot) (hne : A ≠ []) (hin : ∀ x ∈ A, x ∈ lot) : frstS (lot.map (nameS p)) (imgS p n A) = nameS p (frstS lot A) := by
  obtain ⟨a, ha⟩ := List.exists_mem_of_ne_nil A hne
  obtain ⟨y, hy⟩ := find_some_of (φ := inL A) (l := lot) (hin a ha) (inL_iff.2 ha)
  unfold frstS
  rw [find_img hN hA hl, hy]
  rfl
theorem frst_mem {lot A : List Int} (hne : A ≠ []) (hin : ∀ x ∈ A, x ∈ lot) : frstS lot A ∈ A := by
  obtain ⟨a, ha⟩ := List.exists_mem_of_ne_nil A hne
  obtain ⟨y, hy⟩ := find_some_of (φ := inL A) (l := lot) (hin a ha) (inL_iff.2 ha)
  unfold frstS
  rw [hy]
  exact inL_iff.1 (by simpa using List.find?_some hy)
/-- The outcome goes along with the names. -/
theorem pathO_ren {p lot : List Int} {C : Nat} {m S S' : M} (hN : Names p C) (hS : Str m S) (hlot : lotS lot C = true) (he : ∀ x y, x < C → y < C → S' (nm p x) (nm p y) = S x y) : pathO S' C (lot.map (nameS p)) = renO p (pathO S C lot) := by
  have hsub : (topS S C).Sublist (rangeI C) := List.filter_sublist
  have hr := (inR_range C).sub hsub
  have hne := topS_ne hS (show 0 < C from hN.one) hN.le
  have hin : ∀ x ∈ topS S C, x ∈ lot := fun x hx => lot_in hlot (hsub.subset hx)
  unfold pathO renO
  rw [topS_ren hN he, frst_ren hN hr (lot_in_range hlot) hne hin]
  simp only [List.map_cons, List.map_nil, renRnd, rndS, hadPL_ren hN he]
  have ht := tied_ren (ts := []) (x := frstS lot (topS S C)) hN hr ((nodup_rangeI C).sublist hsub)
  rw [← ht]
  rfl
end Go.Proofs.YtolbceckbnifmaaGreat
