/-
  Seats for lists, plain: how many seats, to whom; the parties under other names. No program is named here.
-/
import Derived.Test.YtiebfalodelclaaGreatSpecLy
namespace Go.Proofs.YtiebfalodelclaaGreat

theorem tied_len (ts : List Row) (A : List Int) (x : Int) : (tiedS ts A x).length ≤ ts.length + 1 := by
  unfold tiedS
  split
  · omega
  · simp
theorem more_rng {f : Int → Int} {C : Nat} {lot : List Int} (hC : 1 ≤ C) (hl : LotAll lot C) : ∀ (k : Nat) (eg : List Int) (s : List Int × List Row), InR C eg → InR C s.1 → InR C (moreS f C lot k eg s).1
  | 0, _, _, _, hs => hs
  | k + 1, eg, s, he, hs => by
    have he' : InR C (if eg.length = 0 then rangeI C else eg) := by
      split
      · exact inR_range C
      · exact he
    have hne : (if eg.length = 0 then rangeI C else eg) ≠ [] := by
      split
      · intro e; have := congrArg List.length e; rw [length_rangeI] at this; simp at this; omega
      · rename_i h; intro e; exact h (by rw [e]; rfl)
    simp only [moreS]
    generalize (if eg.length = 0 then rangeI C else eg) = E at he' hne
    have hx := frst_mem (lot := lot) (A := bestS f E) (bestS_ne hne) (fun x hx => by have := he' x ((bestS_sub f E).subset hx); exact hl x this.1 this.2)
    refine more_rng hC hl k _ _ (he'.sub (outS_sub _ _)) fun x hm => ?_
    rcases List.mem_append.1 hm with h | h
    · exact hs x h
    · rw [List.mem_singleton.1 h]; exact he' _ ((bestS_sub f E).subset hx)
theorem more_ties {f : Int → Int} {C : Nat} {lot : List Int} : ∀ (k : Nat) (eg : List Int) (s : List Int × List Row), (moreS f C lot k eg s).2.length ≤ s.2.length + k
  | 0, _, _ => Nat.le_refl _
  | k + 1, eg, s => by
    simp only [moreS]
    have h1 := more_ties (f := f) (C := C) (lot := lot) k (outS (if eg.length = 0 then rangeI C else eg) (frstS lot (bestS f (if eg.length = 0 then rangeI C else eg)))) (s.1 ++ [frstS lot (bestS f (if eg.length = 0 then rangeI C else eg))], tiedS s.2 (bestS f (if eg.length = 0 then rangeI C else eg)) (frstS lot (bestS f (if eg.length = 0 then rangeI C else eg))))
    have h2 := tied_len s.2 (bestS f (if eg.length = 0 then rangeI C else eg)) (frstS lot (bestS f (if eg.length = 0 then rangeI C else eg)))
    dsimp only at h1
    omega
theorem base_zero {had : List Int} {n C : Nat} (h : had.sum ≤ 0) : baseS had n C = [] := by
  unfold baseS
  rw [List.flatMap_eq_nil_iff]
  intro x _
  unfold flrS
  rw [if_pos h]; rfl
theorem remS_len {had : List Int} {C : Nat} {lot : List Int} (hC : 1 ≤ C) (hl : LotAll lot C) (hh : HadOK had C) (n : Nat) : (remS had C lot n).1.length = n ∧ (baseS had n C).length ≤ n := by
  by_cases hT : 0 < had.sum
  · obtain ⟨ps, h⟩ := rem_is hC hl hh hT n
    have := h.len
    rw [h.is, List.length_append]
    omega
  · have hb := base_zero (n := n) (C := C) (show had.sum ≤ 0 by omega)
    unfold remS
    rw [hb, more_len]
    simp
theorem remS_rng {had : List Int} {C : Nat} {lot : List Int} (hC : 1 ≤ C) (hl : LotAll lot C) (n : Nat) : InR C (remS had C lot n).1 :=
  more_rng hC hl _ _ _ (fun _ h => by cases h) fun _ hx => base_rng hx
theorem seatS_rng {had : List Int} {C : Nat} {lot : List Int} (hC : 1 ≤ C) (hl : LotAll lot C) (rule : Int) (n : Nat) : InR C (seatS rule had C lot n).1 := by
  unfold seatS
  split
  · exact fun x hx => divS_rng hC hl n x hx
  · split
    · exact fun x hx => divS_rng hC hl n x hx
    · exact remS_rng hC hl n
theorem seatS_len {had : List Int} {C : Nat} {lot : List Int} (hC : 1 ≤ C) (hl : LotAll lot C) (hh : HadOK had C) (rule : Int) (n : Nat) : (seatS rule had C lot n).1.length = n := by
  unfold seatS
  split
  · exact length_divS ..
  · split
    · exact length_divS ..
    · exact (remS_len hC hl hh n).1
theorem seatS_ties (had : List Int) (C : Nat) (lot : List Int) (rule : Int) (n : Nat) : (seatS rule had C lot n).2.length ≤ n := by
  unfold seatS
  split
  · exact ties_le ..
  · split
    · exact ties_le ..
    · have := more_ties (f := restS had n) (C := C) (lot := lot) (n - (baseS had n C).length) [] (baseS had n C, [])
      unfold remS
      simp at this
      omega

/-- What all ties look like. -/
def TieOK (C : Nat) (ts : List Row) : Prop := ∀ t ∈ ts, InR C t.1 ∧ t.1.length ≤ C ∧ 0 ≤ t.2 ∧ t.2 < (C : Int)
theorem TieOK.tied {C : Nat} {ts : List Row} {A : List Int} {x : Int} (h : TieOK C ts) (hA : A.Sublist (rangeI C)) (hx : x ∈ A) : TieOK C (tiedS ts A x) := by
  unfold tiedS
  split
  · exact h
  · intro t ht
    rcases List.mem_append.1 ht with ht | ht
    · exact h t ht
    · rw [List.mem_singleton.1 ht]
      have hr := (inR_range C).sub hA
      have := hA.length_le
      rw [length_rangeI] at this
      exact ⟨hr, this, hr x hx⟩
theorem divS_tieOK {had : List Int} {r C : Nat} {lot : List Int} (hC : 1 ≤ C) (hl : LotAll lot C) : ∀ n, TieOK C (divS had r C lot n).2
  | 0 => fun _ h => by cases h
  | n + 1 => (divS_tieOK hC hl n).tied (bestR_sub _ _) (frst_topD hC hl)
theorem more_tieOK {f : Int → Int} {C : Nat} {lot : List Int} (hC : 1 ≤ C) (hl : LotAll lot C) : ∀ (k : Nat) (eg : List Int) (s : List Int × List Row), eg.Sublist (rangeI C) → TieOK C s.2 → TieOK C (moreS f C lot k eg s).2
  | 0, _, _, _, hs => hs
  | k + 1, eg, s, he, hs => by
    have he' : (if eg.length = 0 then rangeI C else eg).Sublist (rangeI C) := by
      split
      · exact List.Sublist.refl _
      · exact he
    have hne : (if eg.length = 0 then rangeI C else eg) ≠ [] := by
      split
      · intro e; have := congrArg List.length e; rw [length_rangeI] at this; simp at this; omega
      · rename_i h; intro e; exact h (by rw [e]; rfl)
    simp only [moreS]
    generalize (if eg.length = 0 then rangeI C else eg) = E at he' hne
    have hx := frst_mem (lot := lot) (A := bestS f E) (bestS_ne hne) (fun x hx => by have := (inR_range C).sub he' x ((bestS_sub f E).subset hx); exact hl x this.1 this.2)
    exact more_tieOK hC hl k _ _ ((outS_sub _ _).trans he') (hs.tied ((bestS_sub f E).trans he') hx)
theorem seatS_tieOK {had : List Int} {C : Nat} {lot : List Int} (hC : 1 ≤ C) (hl : LotAll lot C) (rule : Int) (n : Nat) : TieOK C (seatS rule had C lot n).2 := by
  unfold seatS
  split
  · exact divS_tieOK hC hl n
  · split
    · exact divS_tieOK hC hl n
    · exact more_tieOK hC hl _ _ _ (List.nil_sublist _) fun _ h => by cases h

/-- The votes under other names. -/
structure VN (p : List Int) (C : Nat) (had had' : List Int) : Prop where
  at_ : ∀ x : Int, 0 ≤ x ∧ x < C → getI had' (nameS p x) = getI had x
  sum : had'.sum = had.sum
theorem cnt_names {p : List Int} {C : Nat} (hN : Names p C) : ∀ {el : List Int} {x : Int}, InR C el → 0 ≤ x ∧ x < (C : Int) → (el.map (nameS p)).count (nameS p x) = el.count x
  | [], _, _, _ => rfl
  | a :: r, x, h, hx => by
    have ih := cnt_names hN (el := r) (fun y hy => h y (List.mem_cons_of_mem _ hy)) hx
    rw [List.map_cons, List.count_cons, List.count_cons, ih]
    by_cases e : a = x
    · subst e; simp
    · have e' : nameS p a ≠ nameS p x := fun e2 => e (hN.inj (h a List.mem_cons_self) hx e2)
      simp [e, e']
theorem leD_names {p : List Int} {C : Nat} {had had' el : List Int} {r : Nat} (hN : Names p C) (hV : VN p C had had') (he : InR C el) {x y : Int} (hx : 0 ≤ x ∧ x < (C : Int)) (hy : 0 ≤ y ∧ y < (C : Int)) :
    leD had' r (el.map (nameS p)) (nameS p y) (nameS p x) = leD had r el y x := by
  unfold leD
  rw [hV.at_ x hx, hV.at_ y hy, cnt_names hN he hx, cnt_names hN he hy]
theorem bestR_names {p : List Int} {n : Nat} {S : List Int} {le le' : Int → Int → Bool} (hN : Names p n) (hS : InR n S) (hg : ∀ x y : Int, 0 ≤ x ∧ x < n → 0 ≤ y ∧ y < n → le' (nameS p y) (nameS p x) = le y x) :
    bestR le' (imgS p n S) = imgS p n (bestR le S) := by
  refine img_of hN (hS.sub (bestR_sub _ _)) ((bestR_sub _ _).trans (img_sub _ _ _)) fun x => ?_
  rw [mem_bestR]
  constructor
  · rintro ⟨hx, hm⟩
    obtain ⟨y, hy, rfl⟩ := (mem_img hN hS).1 hx
    refine ⟨y, mem_bestR.2 ⟨hy, fun k hk => ?_⟩, rfl⟩
    have := hm (nameS p k) ((mem_img hN hS).2 ⟨k, hk, rfl⟩)
    rwa [hg y k (hS y hy) (hS k hk)] at this
  · rintro ⟨y, hy, rfl⟩
    obtain ⟨hy1, hy2⟩ := mem_bestR.1 hy
    refine ⟨(mem_img hN hS).2 ⟨y, hy1, rfl⟩, fun k hk => ?_⟩
    obtain ⟨z, hz, rfl⟩ := (mem_img hN hS).1 hk
    rw [hg y z (hS y hy1) (hS z hz)]
    exact hy2 z hz
theorem topD_names {p : List Int} {C : Nat} {had had' el : List Int} {r : Nat} (hN : Names p C) (hV : VN p C had had') (he : InR C el) : topD had' r C (el.map (nameS p)) = imgS p C (topD had r C el) := by
  unfold topD
  rw [← bestR_names (le' := leD had' r (el.map (nameS p))) hN (inR_range C) fun x y hx hy => leD_names hN hV he hx hy, img_range hN]
theorem LotAll.of {lot : List Int} {C : Nat} (h : lotS lot C = true) : LotAll lot C := fun _ h0 h1 => lot_in h (mem_rangeI.2 ⟨h0, h1⟩)
theorem divS_names {p lot : List Int} {C : Nat} {had had' : List Int} {r : Nat} (hN : Names p C) (hV : VN p C had had') (hlot : lotS lot C = true) :
    ∀ n, divS had' r C (lot.map (nameS p)) n = ((divS had r C lot n).1.map (nameS p), (divS had r C lot n).2.map (renTie p))
  | 0 => rfl
  | n + 1 => by
    have ih := divS_names (had := had) (had' := had') (r := r) hN hV hlot n
    have hl := LotAll.of hlot
    have hr : InR C (divS had r C lot n).1 := fun x hx => divS_rng hN.one hl n x hx
    have hA : InR C (topD had r C (divS had r C lot n).1) := fun x hx => topD_rng hx
    have hnd : (topD had r C (divS had r C lot n).1).Nodup := (nodup_rangeI C).sublist (bestR_sub _ _)
    simp only [divS]
    rw [ih]
    dsimp only
    rw [topD_names hN hV hr, frst_ren hN hA (lot_in_range hlot) (topD_ne had r hN.one _) fun x hx => hl x (topD_rng hx).1 (topD_rng hx).2, tied_ren hN hA hnd, List.map_append]
    rfl
theorem img_nil {p : List Int} {n : Nat} : imgS p n [] = [] := by
  unfold imgS
  rw [List.filter_eq_nil_iff]
  intro a _
  simp [inL]
/-- One seat after the other, under other names. -/
theorem more_names {p lot : List Int} {C : Nat} {f f' : Int → Int} (hN : Names p C) (hf : ∀ x : Int, 0 ≤ x ∧ x < C → f' (nameS p x) = f x) (hlot : lotS lot C = true) : ∀ (k : Nat) (eg a b : List Int) (ts : List Row), eg.Sublist (rangeI C) →
    ∃ ps, InR C ps ∧ moreS f C lot k eg (b, ts) = (b ++ ps, (moreS f C lot k eg (b, ts)).2) ∧ moreS f' C (lot.map (nameS p)) k (imgS p C eg) (a, ts.map (renTie p)) = (a ++ ps.map (nameS p), (moreS f C lot k eg (b, ts)).2.map (renTie p))
  | 0, _, _, _, _, _ => ⟨[], (fun _ h => by cases h), (by simp [moreS]), (by simp [moreS])⟩
  | k + 1, eg, a, b, ts, he => by
    have hl := LotAll.of hlot
    have he' : (if eg.length = 0 then rangeI C else eg).Sublist (rangeI C) := by
      split
      · exact List.Sublist.refl _
      · exact he
    have hne : (if eg.length = 0 then rangeI C else eg) ≠ [] := by
      split
      · intro e; have := congrArg List.length e; have h1 := hN.one; rw [length_rangeI] at this; simp at this; omega
      · rename_i h; intro e; exact h (by rw [e]; rfl)
    have hi : (if (imgS p C eg).length = 0 then rangeI C else imgS p C eg) = imgS p C (if eg.length = 0 then rangeI C else eg) := by
      rw [img_len hN ((inR_range C).sub he) ((nodup_rangeI C).sublist he)]
      split
      · rw [img_range hN]
      · rfl
    simp only [moreS]
    rw [hi]
    generalize (if eg.length = 0 then rangeI C else eg) = E at he' hne
    have hE : InR C E := (inR_range C).sub he'
    have hB : InR C (bestS f E) := hE.sub (bestS_sub f E)
    have hin : ∀ x ∈ bestS f E, x ∈ lot := fun x hx => hl x (hB x hx).1 (hB x hx).2
    have hx := hB _ (frst_mem (lot := lot) (bestS_ne (f := f) hne) hin)
    have hb : bestS f' (imgS p C E) = imgS p C (bestS f E) := best_ren hN hE hf
    have hfr : frstS (lot.map (nameS p)) (imgS p C (bestS f E)) = nameS p (frstS lot (bestS f E)) := frst_ren hN hB (lot_in_range hlot) (bestS_ne hne) hin
    have ht := tied_ren (ts := ts) (x := frstS lot (bestS f E)) hN hB ((nodup_rangeI C).sublist ((bestS_sub f E).trans he'))
    rw [hb, hfr, out_ren hN hE hx, ht]
    obtain ⟨ps, h1, h2, h3⟩ := more_names hN hf hlot k (outS E (frstS lot (bestS f E))) (a ++ [nameS p (frstS lot (bestS f E))]) (b ++ [frstS lot (bestS f E)]) (tiedS ts (bestS f E) (frstS lot (bestS f E))) ((outS_sub _ _).trans he')
    refine ⟨frstS lot (bestS f E) :: ps, fun y hy => ?_, ?_, ?_⟩
    · rcases List.mem_cons.1 hy with rfl | hy
      · exact hx
      · exact h1 y hy
    · rw [h2, List.append_assoc]; rfl
    · rw [h3, List.append_assoc]; rfl
theorem flr_names {p : List Int} {C : Nat} {had had' : List Int} (hV : VN p C had had') (n : Nat) {x : Int} (hx : 0 ≤ x ∧ x < (C : Int)) : flrS had' n (nameS p x) = flrS had n x ∧ restS had' n (nameS p x) = restS had n x := by
  unfold flrS restS
  rw [hV.sum, hV.at_ x hx]
  exact ⟨rfl, rfl⟩
theorem base_names {p : List Int} {C : Nat} {had had' : List Int} (hN : Names p C) (hV : VN p C had had') (n : Nat) : (baseS had' n C).Perm ((baseS had n C).map (nameS p)) := by
  refine List.perm_iff_count.2 fun a => ?_
  have hr : InR C (baseS had n C) := fun x hx => base_rng hx
  by_cases ha : 0 ≤ a ∧ a < (C : Int)
  · obtain ⟨X, rfl⟩ : ∃ X : Nat, a = X := ⟨a.toNat, by omega⟩
    obtain ⟨h1, h2⟩ := name_idx hN (d := X) (by omega)
    have hi : 0 ≤ ((idx p X : Nat) : Int) ∧ ((idx p X : Nat) : Int) < C := by omega
    rw [← h2, cnt_names hN hr hi, count_base, count_base, if_pos hi, if_pos (by rw [h2]; exact ha), (flr_names hV n hi).1]
  · rw [List.count_eq_zero.2 fun h => ha (base_rng h), List.count_eq_zero.2]
    intro h
    obtain ⟨y, hy, rfl⟩ := List.mem_map.1 h
    exact ha (hN.name_in (hr y hy))
/-- Largest remainders under other names: as many seats, the same ties. -/
theorem remS_names {p lot : List Int} {C : Nat} {had had' : List Int} (hN : Names p C) (hV : VN p C had had') (hlot : lotS lot C = true) (n : Nat) :
    (remS had' C (lot.map (nameS p)) n).1.Perm ((remS had C lot n).1.map (nameS p)) ∧ (remS had' C (lot.map (nameS p)) n).2 = (remS had C lot n).2.map (renTie p) := by
  have hb := base_names hN hV n
  have hbl := hb.length_eq
  rw [List.length_map] at hbl
  obtain ⟨ps, h1, h2, h3⟩ := more_names (f := restS had n) (f' := restS had' n) hN (fun x hx => (flr_names hV n hx).2) hlot (n - (baseS had n C).length) [] (baseS had' n C) (baseS had n C) [] (List.nil_sublist _)
  rw [img_nil] at h3
  unfold remS
  rw [hbl]
  have h3' : moreS (restS had' n) C (lot.map (nameS p)) (n - (baseS had n C).length) [] (baseS had' n C, []) = _ := h3
  rw [h3', h2]
  dsimp only
  rw [List.map_append]
  exact ⟨hb.append_right _, rfl⟩
/-- A profile of marks under other names. -/
def renK (p : List Int) (l : List Row) : List Row := eachS (fun ms => renS 2 ms p) l
theorem renS_one {p ms : List Int} {C : Nat} (hN : Names p C) (hm : ∀ y, ms = [y] → 0 ≤ y ∧ y < (C : Int)) {x : Int} (hx : 0 ≤ x ∧ x < (C : Int)) : decide (renS 2 ms p = [nameS p x]) = decide (ms = [x]) := by
  rw [Bool.eq_iff_iff, decide_eq_true_eq, decide_eq_true_eq]
  constructor
  · intro h
    have hl := congrArg List.length h
    rw [length_renS] at hl
    obtain ⟨y, rfl⟩ : ∃ y, ms = [y] := List.length_eq_one_iff.1 hl
    have hp := renS_two_perm [y] p
    rw [h] at hp
    have := List.perm_singleton.1 hp.symm
    rw [hN.inj (hm y rfl) hx (by simpa using this)]
  · rintro rfl
    exact List.perm_singleton.1 (renS_two_perm [x] p)
theorem votX_names {p : List Int} {C : Nat} {l : List Row} (hN : Names p C) (hm : MarkOK l C) {x : Int} (hx : 0 ≤ x ∧ x < (C : Int)) : votX (renK p l) (nameS p x) = votX l x := by
  unfold votX renK
  rw [wsum_each]
  exact wsum_congr fun r hr => renS_one hN (hm.one r hr) hx
theorem losV_names (p : List Int) (l : List Row) : losV (renK p l) = losV l := by
  unfold losV renK
  rw [wsum_each]
  exact wsum_congr fun r _ => by rw [length_renS]
theorem vn_vot {p : List Int} {C : Nat} {l : List Row} (hN : Names p C) (h : checkS C 2 l = 0) : VN p C (votV l C) (votV (renK p l) C) := by
  have hm : MarkOK l C := by have := markOK_of h; rwa [Int.toNat_natCast] at this
  have hm2 : MarkOK (renK p l) C := by have := markOK_of (ren_check hN h); rwa [Int.toNat_natCast] at this
  refine ⟨fun x hx => ?_, ?_⟩
  · rw [getI_votV (hN.name_in hx), getI_votV hx, votX_names hN hm hx]
  · have h1 := vot_all hm.one
    have h2 := vot_all hm2.one
    have h3 : totS (renK p l) = totS l := tot_each _ _
    rw [losV_names, h3] at h2
    omega
theorem votV_names {p : List Int} {C : Nat} {l : List Row} (hN : Names p C) (hm : MarkOK l C) : (votV (renK p l) C).map wholeS = renHad p ((votV l C).map wholeS) := by
  unfold renHad
  rw [List.length_map, length_votV]
  refine List.ext_getElem? fun i => ?_
  by_cases hi : i < C
  · obtain ⟨h1, h2⟩ := name_idx hN hi
    have e := votX_names hN hm (x := ((idx p i : Nat) : Int)) (by omega)
    rw [h2] at e
    rw [List.getElem?_map, get_votV _ hi, List.getElem?_map, List.getElem?_range hi, e]
    simp [List.getD, get_votV _ h1]
  · rw [List.getElem?_eq_none (by rw [List.length_map, length_votV]; omega), List.getElem?_eq_none (by simp; omega)]

/-- The outcome of a method. -/
def listO (rule : Int) (l : List Row) (C : Nat) (lot : List Int) (n : Nat) : Outc :=
  ((seatS rule (votV l C) C lot n).1, [rndS (votV l C) (losV l) (seatS rule (votV l C) C lot n).1 []], (seatS rule (votV l C) C lot n).2)
/-- How many seats each party got. -/
def gotV (el : List Int) (C : Nat) : List Int := (List.range C).map fun i : Nat => ((el.count (i : Int) : Nat) : Int)
theorem length_gotV (el : List Int) (C : Nat) : (gotV el C).length = C := by unfold gotV; simp
theorem get_gotV (el : List Int) {C i : Nat} (h : i < C) : (gotV el C)[i]? = some ((el.count (i : Int) : Nat) : Int) := by
  unfold gotV; rw [List.getElem?_map, List.getElem?_range h]; rfl
theorem gotV_nil (C : Nat) : gotV [] C = List.replicate C 0 := by
  refine List.ext_getElem? fun i => ?_
  by_cases hi : i < C
  · rw [get_gotV _ hi, List.getElem?_replicate, if_pos hi]; rfl
  · rw [List.getElem?_eq_none (by rw [length_gotV]; omega), List.getElem?_eq_none (by simp; omega)]
theorem gotV_snoc (el : List Int) {C X : Nat} : gotV (el ++ [(X : Int)]) C = (gotV el C).set X (((el.count (X : Int) : Nat) : Int) + 1) := by
  refine List.ext_getElem? fun i => ?_
  by_cases hi : i < C
  · rw [get_gotV _ hi, List.getElem?_set]
    by_cases e : X = i
    · subst e
      rw [if_pos rfl, if_pos (by rw [length_gotV]; exact hi), count_snoc, if_pos rfl]; rfl
    · rw [if_neg e, get_gotV _ hi, count_snoc, if_neg (by omega)]; rfl
  · rw [List.getElem?_eq_none (by rw [length_gotV]; omega), List.getElem?_eq_none (by rw [List.length_set, length_gotV]; omega)]
theorem gotV_out (el : List Int) {C : Nat} {x : Int} (hx : ¬ (0 ≤ x ∧ x < (C : Int))) : gotV (el ++ [x]) C = gotV el C := by
  refine List.ext_getElem? fun i => ?_
  by_cases hi : i < C
  · rw [get_gotV _ hi, get_gotV _ hi, count_snoc, if_neg (by omega)]; rfl
  · rw [List.getElem?_eq_none (by rw [length_gotV]; omega), List.getElem?_eq_none (by rw [length_gotV]; omega)]
theorem getI_gotV {el : List Int} {C : Nat} {x : Int} (hx : 0 ≤ x ∧ x < (C : Int)) : getI (gotV el C) x = ((el.count x : Nat) : Int) := by
  obtain ⟨X, rfl⟩ : ∃ X : Nat, x = X := ⟨x.toNat, by omega⟩
  unfold getI
  rw [List.getD_eq_getElem?_getD, Int.toNat_natCast, get_gotV _ (by omega)]; rfl
theorem gotV_perm {el el' : List Int} (h : el.Perm el') (C : Nat) : gotV el C = gotV el' C := by
  unfold gotV
  refine List.map_congr_left fun i _ => ?_
  rw [h.count_eq]
/-- D'Hondt and Sainte-Lague under other names. -/
theorem listO_names {p lot : List Int} {C : Nat} {l : List Row} {rule : Int} (hr : rule = 0 ∨ rule = 1) (hN : Names p C) (h : checkS C 2 l = 0) (hlot : lotS lot C = true) (n : Nat) :
    listO rule (renK p l) C (lot.map (nameS p)) n = renO p (listO rule l C lot n) := by
  have hm : MarkOK l C := by have := markOK_of h; rwa [Int.toNat_natCast] at this
  have hs : seatS rule (votV (renK p l) C) C (lot.map (nameS p)) n = ((seatS rule (votV l C) C lot n).1.map (nameS p), (seatS rule (votV l C) C lot n).2.map (renTie p)) := by
    unfold seatS
    rcases hr with rfl | rfl
    · rw [if_pos rfl, if_pos rfl]; exact divS_names hN (vn_vot hN h) hlot n
    · rw [if_neg (show ¬ (1 : Int) = 0 by decide), if_pos rfl, if_neg (show ¬ (1 : Int) = 0 by decide), if_pos rfl]; exact divS_names hN (vn_vot hN h) hlot n
  unfold listO renO
  rw [hs]
  dsimp only
  rw [List.map_cons, List.map_nil, renRnd]
  unfold rndS
  dsimp only
  rw [votV_names hN hm, losV_names]
  rfl
/-- Largest remainders under other names. -/
theorem listO_rem {p lot : List Int} {C : Nat} {l : List Row} {rule : Int} (h0 : rule ≠ 0) (h1 : rule ≠ 1) (hN : Names p C) (h : checkS C 2 l = 0) (hlot : lotS lot C = true) (n : Nat) :
    gotV (listO rule (renK p l) C (lot.map (nameS p)) n).1 C = gotV (renO p (listO rule l C lot n)).1 C ∧ (listO rule (renK p l) C (lot.map (nameS p)) n).2.2 = (renO p (listO rule l C lot n)).2.2 := by
  have hs := remS_names hN (vn_vot hN h) hlot n
  unfold listO renO seatS
  rw [if_neg h0, if_neg h1]
  rw [if_neg h0, if_neg h1]
  exact ⟨gotV_perm hs.1 C, hs.2⟩
end Go.Proofs.YtiebfalodelclaaGreat
