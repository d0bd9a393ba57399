/-
  Other names: of sets, of ties, of outcomes. No count is spoken of here.
-/
import Derived.Test.YtkhclcdmehjfkaaGreatSpecM
import Derived.Test.YtkhclcdmehjfkaaGreatW11g
import Derived.Test.YtkhclcdmehjfkaaGreatW15c
namespace Go.Proofs.YtkhclcdmehjfkaaGreat
open Go.RowKit Go.Proofs

/-- The names of a set, in ascending order. -/
def imgS (p : List Int) (n : Nat) (S : List Int) : List Int := (rangeI n).filter (inL (S.map (nameS p)))
def zeroR : Rat3 := (false, [], [])
/-- Numbers of the candidates under other names. -/
def renHad (p : List Int) (had : List Rat3) : List Rat3 := (List.range had.length).map fun d => had.getD (idx p d) zeroR
def renRnd (p : List Int) (r : Rnd) : Rnd := (renHad p r.1, r.2.1, r.2.2.1.map (nameS p), r.2.2.2.map (nameS p))
def renTie (p : List Int) (t : Row) : Row := (imgS p p.length t.1, nameS p t.2)
/-- An outcome under other names. -/
def renO (p : List Int) (o : Outc) : Outc := (o.1.map (nameS p), o.2.1.map (renRnd p), o.2.2.map (renTie p))

/-- All are numbers below n. -/
def InR (n : Nat) (S : List Int) : Prop := ∀ y ∈ S, 0 ≤ y ∧ y < n
theorem InR.sub {n : Nat} {S T : List Int} (h : InR n S) (hs : T.Sublist S) : InR n T := fun y hy => h y (hs.subset hy)
theorem inR_range (n : Nat) : InR n (rangeI n) := fun _ hy => mem_rangeI.1 hy
theorem img_sub (p : List Int) (n : Nat) (S : List Int) : (imgS p n S).Sublist (rangeI n) := List.filter_sublist
theorem mem_img {p : List Int} {n : Nat} {S : List Int} {x : Int} (hN : Names p n) (hS : InR n S) : x ∈ imgS p n S ↔ ∃ y ∈ S, nameS p y = x := by
  unfold imgS
  rw [List.mem_filter, inL_iff, List.mem_map, mem_rangeI]
  constructor
  · rintro ⟨_, y, hy, e⟩; exact ⟨y, hy, e⟩
  · rintro ⟨y, hy, rfl⟩; exact ⟨hN.name_in (hS y hy), y, hy, rfl⟩
theorem inL_img {p : List Int} {n : Nat} {S : List Int} {y : Int} (hN : Names p n) (hS : InR n S) (hy : 0 ≤ y ∧ y < n) : inL (imgS p n S) (nameS p y) = inL S y := by
  rw [Bool.eq_iff_iff, inL_iff, inL_iff, mem_img hN hS]
  constructor
  · rintro ⟨z, hz, e⟩; rw [← hN.inj (hS z hz) hy e]; exact hz
  · intro h; exact ⟨y, h, rfl⟩
theorem img_of {p : List Int} {n : Nat} {S T : List Int} (_hN : Names p n) (_hS : InR n S) (hT : T.Sublist (rangeI n)) (h : ∀ x, x ∈ T ↔ ∃ y ∈ S, nameS p y = x) : T = imgS p n S := by
  rw [← filter_sub hT (nodup_rangeI n)]
  unfold imgS
  refine List.filter_congr fun x _ => ?_
  rw [Bool.eq_iff_iff, inL_iff, inL_iff, h, List.mem_map]
theorem img_len {p : List Int} {n : Nat} {S : List Int} (hN : Names p n) (hS : InR n S) (hnd : S.Nodup) : (imgS p n S).length = S.length := by
  have h1 : (imgS p n S).Nodup := (nodup_rangeI n).sublist (img_sub _ _ _)
  have h2 : (S.map (nameS p)).Nodup := nodup_map_names hN hS hnd
  have h3 : imgS p n S ⊆ S.map (nameS p) := fun x hx => by obtain ⟨y, hy, e⟩ := (mem_img hN hS).1 hx; exact List.mem_map.2 ⟨y, hy, e⟩
  have h4 : S.map (nameS p) ⊆ imgS p n S := fun x hx => by obtain ⟨y, hy, e⟩ := List.mem_map.1 hx; exact (mem_img hN hS).2 ⟨y, hy, e⟩
  have h5 := h1.length_le_of_subset h3
  have h6 := h2.length_le_of_subset h4
  rw [List.length_map] at h5 h6
  omega
theorem find_img {p : List Int} {n : Nat} {S : List Int} (hN : Names p n) (hS : InR n S) : ∀ {ms : List Int}, InR n ms → (ms.map (nameS p)).find? (inL (imgS p n S)) = (ms.find? (inL S)).map (nameS p)
  | [], _ => rfl
  | a :: r, h => by
    rw [List.map_cons, List.find?_cons, List.find?_cons, inL_img hN hS (h a (List.mem_cons_self ..))]
    cases inL S a with
    | true => rfl
    | false => exact find_img hN hS fun y hy => h y (List.mem_cons_of_mem _ hy)
/-- The profile under other names. -/
def renL (p : List Int) (l : List Row) : List Row := eachS (fun ms => renS 1 ms p) l
theorem name_idx {p : List Int} {n : Nat} (hN : Names p n) {d : Nat} (hd : d < n) : idx p d < n ∧ nameS p (idx p d : Int) = d := by
  have hm : (d : Int) ∈ p := by
    have hp : (rangeI n).Perm p := perm_of_subset (nodup_rangeI n) (fun x hx => ?_) (by rw [length_rangeI, hN.len]; exact Nat.le_refl _)
    · exact hp.subset (mem_rangeI.2 ⟨by omega, by omega⟩)
    · have h3 : p ⊆ rangeI n := fun y hy => mem_rangeI.2 (hN.rng y hy)
      exact (perm_of_subset hN.nd h3 (by rw [length_rangeI, hN.len]; exact Nat.le_refl _)).symm.subset hx
  have h1 : idx p d < p.length := List.idxOf_lt_length_of_mem hm
  refine ⟨by rw [← hN.len]; exact h1, ?_⟩
  unfold nameS idx
  rw [Int.toNat_natCast]
  simp only [List.getD, List.getElem?_eq_getElem (show p.idxOf (d : Int) < p.length from h1), Option.getD_some]
  exact List.getElem_idxOf h1
theorem best_ren {p : List Int} {n : Nat} {S : List Int} {f g : Int → Int} (hN : Names p n) (hS : InR n S) (hg : ∀ x : Int, 0 ≤ x ∧ x < n → g (nameS p x) = f x) : bestS g (imgS p n S) = imgS p n (bestS f S) := by
  refine img_of hN (hS.sub (bestS_sub _ _)) ((bestS_sub _ _).trans (img_sub _ _ _)) fun x => ?_
  rw [mem_bestS]
  constructor
  · rintro ⟨hx, hm⟩
    obtain ⟨y, hy, rfl⟩ := (mem_img hN hS).1 hx
    refine ⟨y, mem_bestS.2 ⟨hy, fun k hk => ?_⟩, rfl⟩
    have := hm (nameS p k) ((mem_img hN hS).2 ⟨k, hk, rfl⟩)
    rwa [hg k (hS k hk), hg y (hS y hy)] at this
  · rintro ⟨y, hy, rfl⟩
    obtain ⟨hy1, hy2⟩ := mem_bestS.1 hy
    refine ⟨(mem_img hN hS).2 ⟨y, hy1, rfl⟩, fun k hk => ?_⟩
    obtain ⟨z, hz, rfl⟩ := (mem_img hN hS).1 hk
    rw [hg z (hS z hz), hg y (hS y hy1)]
    exact hy2 z hz
theorem find_some_of {φ : Int → Bool} {l : List Int} {x : Int} (hx : x ∈ l) (hp : φ x = true) : ∃ y, l.find? φ = some y := by
  cases h : l.find? φ with
  | some y => exact ⟨y, rfl⟩
  | none => exact absurd hp (by simpa using List.find?_eq_none.1 h x hx)
theorem last_ren {p : List Int} {n : Nat} {lot A : List Int} (hN : Names p n) (hA : InR n A) (hl : InR n lot) (hne : A ≠ []) (hin : ∀ x ∈ A, x ∈ lot) : lastS (lot.map (nameS p)) (imgS p n A) = nameS p (lastS lot A) := by
  obtain ⟨a, ha⟩ := List.exists_mem_of_ne_nil A hne
  obtain ⟨y, hy⟩ := find_some_of (φ := inL A) (l := lot.reverse) (List.mem_reverse.2 (hin a ha)) (inL_iff.2 ha)
  unfold lastS
  rw [← List.map_reverse, find_img hN hA (fun z hz => hl z (List.mem_reverse.1 hz)), hy]
  rfl
theorem out_ren {p : List Int} {n : Nat} {S : List Int} {z : Int} (hN : Names p n) (hS : InR n S) (hz : 0 ≤ z ∧ z < n) : outS (imgS p n S) (nameS p z) = imgS p n (outS S z) := by
  refine img_of hN (hS.sub (outS_sub _ _)) ((outS_sub _ _).trans (img_sub _ _ _)) fun x => ?_
  unfold outS
  rw [List.mem_filter, mem_img hN hS]
  constructor
  · rintro ⟨⟨y, hy, rfl⟩, hne⟩
    refine ⟨y, List.mem_filter.2 ⟨hy, ?_⟩, rfl⟩
    simp at hne ⊢
    exact fun e => hne (by rw [e])
  · rintro ⟨y, hy, rfl⟩
    obtain ⟨hy1, hy2⟩ := List.mem_filter.1 hy
    refine ⟨⟨y, hy1, rfl⟩, ?_⟩
    simp at hy2 ⊢
    exact fun e => hy2 (hN.inj (hS y hy1) hz e)
theorem tied_ren {p : List Int} {n : Nat} {A : List Int} {ts : List Row} {x : Int} (hN : Names p n) (hA : InR n A) (hnd : A.Nodup) : tiedS (ts.map (renTie p)) (imgS p n A) (nameS p x) = (tiedS ts A x).map (renTie p) := by
  unfold tiedS
  rw [img_len hN hA hnd]
  split
  · rfl
  · rw [List.map_append]; simp [renTie, hN.len]
theorem img_range {p : List Int} {n : Nat} (hN : Names p n) : imgS p n (rangeI n) = rangeI n := by
  refine (img_of hN (inR_range n) (List.Sublist.refl _) fun x => ?_).symm
  rw [mem_rangeI]
  constructor
  · rintro ⟨h0, h1⟩
    obtain ⟨X, rfl⟩ : ∃ X : Nat, x = X := ⟨x.toNat, by omega⟩
    obtain ⟨g1, g2⟩ := name_idx hN (d := X) (by omega)
    exact ⟨_, mem_rangeI.2 ⟨by omega, by omega⟩, g2⟩
  · rintro ⟨y, hy, rfl⟩; exact hN.name_in (mem_rangeI.1 hy)
theorem lot_ren {p lot : List Int} {n : Nat} (hN : Names p n) (h : lotS lot n = true) : lotS (lot.map (nameS p)) n = true := by
  have hl := lot_len h
  unfold lotS at h ⊢
  rw [Bool.and_eq_true] at h ⊢
  refine ⟨by rw [List.length_map]; exact h.1, ?_⟩
  obtain ⟨h1, h2, h3⟩ := turned_iff.1 h.2
  have hr : InR n lot := fun x hx => by have := h3 x hx; omega
  refine turned_iff.2 ⟨by rw [List.length_map]; exact h1, nodup_map_names hN hr h2, fun x hx => ?_⟩
  obtain ⟨y, hy, rfl⟩ := List.mem_map.1 hx
  have := hN.name_in (hr y hy)
  have := hN.le
  rw [List.length_map]
  omega
theorem lot_in_range {lot : List Int} {n : Nat} (h : lotS lot n = true) : InR n lot := fun x hx => by
  have hl := lot_len h
  unfold lotS at h
  rw [Bool.and_eq_true] at h
  have := (turned_iff.1 h.2).2.2 x hx
  omega
end Go.Proofs.YtkhclcdmehjfkaaGreat
