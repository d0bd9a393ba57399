/-
  Largest remainders, plain: the floors, the seats that are left. No program is named here.
-/
import Derived.Test.YtiebfalodelclaaGreatSpecLu
namespace Go.Proofs.YtiebfalodelclaaGreat

theorem mem_outS {l : List Int} {x y : Int} : y ∈ outS l x ↔ y ∈ l ∧ y ≠ x := by unfold outS; simp
theorem outS_len : ∀ {l : List Int} {x : Int}, l.Nodup → x ∈ l → (outS l x).length + 1 = l.length
  | [], _, _, h => by cases h
  | a :: r, x, hn, h => by
    have hn2 := List.nodup_cons.1 hn
    unfold outS
    by_cases e : a = x
    · subst e
      have : (r.filter fun y => !decide (y = a)) = r := List.filter_eq_self.2 fun y hy => by
        have : y ≠ a := fun e => hn2.1 (e ▸ hy)
        simp [this]
      simp [this]
    · have hx : x ∈ r := (List.mem_cons.1 h).resolve_left fun h => e h.symm
      have ih := outS_len hn2.2 hx
      unfold outS at ih
      simp [e]
      omega
/-- The seats that are left go to distinct parties with the greatest remainders. -/
theorem more_spec {f : Int → Int} {C : Nat} {lot : List Int} : ∀ (k : Nat) (eg : List Int) (s : List Int × List Row), eg.Nodup → (∀ z ∈ eg, z ∈ lot) → k ≤ eg.length → (k ≠ 0 → eg ≠ []) →
    ∃ ps, (moreS f C lot k eg s).1 = s.1 ++ ps ∧ ps.length = k ∧ ps.Nodup ∧ (∀ x ∈ ps, x ∈ eg) ∧ ∀ x ∈ ps, ∀ y ∈ eg, y ∉ ps → f y ≤ f x
  | 0, eg, s, _, _, _, _ => ⟨[], by simp [moreS], rfl, List.nodup_nil, by simp, by simp⟩
  | k + 1, eg, s, hn, hl, hk, he => by
    have hne := he (by omega)
    have hlen : eg.length ≠ 0 := fun h => hne (List.length_eq_zero_iff.1 h)
    have hx : frstS lot (bestS f eg) ∈ bestS f eg := frst_mem (bestS_ne hne) fun z hz => hl z (mem_bestS.1 hz).1
    have hstep : moreS f C lot (k + 1) eg s = moreS f C lot k (outS eg (frstS lot (bestS f eg))) (s.1 ++ [frstS lot (bestS f eg)], tiedS s.2 (bestS f eg) (frstS lot (bestS f eg))) := by
      conv => lhs; unfold moreS
      simp only [if_neg hlen]
    rw [hstep]
    generalize frstS lot (bestS f eg) = x at *
    have hxe := (mem_bestS.1 hx).1
    have hol := outS_len hn hxe
    obtain ⟨ps, h1, h2, h3, h4, h5⟩ := more_spec (f := f) (C := C) (lot := lot) k (outS eg x) (s.1 ++ [x], tiedS s.2 (bestS f eg) x) (hn.sublist List.filter_sublist) (fun z hz => hl z (mem_outS.1 hz).1) (by omega)
      (fun h0 hnil => by rw [hnil] at hol; simp at hol; omega)
    refine ⟨x :: ps, by rw [h1]; simp, by simp [h2], ?_, ?_, ?_⟩
    · exact List.nodup_cons.2 ⟨fun h => (mem_outS.1 (h4 x h)).2 rfl, h3⟩
    · intro z hz
      rcases List.mem_cons.1 hz with rfl | hz
      · exact hxe
      · exact (mem_outS.1 (h4 z hz)).1
    · intro z hz y hy hyn
      rcases List.mem_cons.1 hz with rfl | hz
      · exact (mem_bestS.1 hx).2 y hy
      · refine h5 z hz y (mem_outS.2 ⟨hy, fun e => hyn (e ▸ List.mem_cons_self)⟩) fun h => hyn (List.mem_cons_of_mem _ h)
theorem more_nil {f : Int → Int} {C : Nat} {lot : List Int} (hC : 1 ≤ C) (k : Nat) (s : List Int × List Row) : moreS f C lot k [] s = moreS f C lot k (rangeI C) s := by
  cases k with
  | zero => rfl
  | succ k =>
    unfold moreS
    have : (rangeI C).length ≠ 0 := by rw [length_rangeI]; omega
    simp only [List.length_nil, if_true, if_neg this]
theorem more_len {f : Int → Int} {C : Nat} {lot : List Int} : ∀ (k : Nat) (eg : List Int) (s : List Int × List Row), (moreS f C lot k eg s).1.length = s.1.length + k
  | 0, _, _ => rfl
  | k + 1, eg, s => by
    unfold moreS
    simp only
    rw [more_len k]
    simp
    omega
theorem count_base {had : List Int} {n : Nat} : ∀ {C : Nat} {x : Int}, (baseS had n C).count x = if 0 ≤ x ∧ x < (C : Int) then flrS had n x else 0
  | 0, x => by rw [if_neg (by omega)]; rfl
  | C + 1, x => by
    have ih := count_base (had := had) (n := n) (C := C) (x := x)
    unfold baseS at *
    rw [rangeI_succ, List.flatMap_append, List.count_append, ih]
    simp only [List.flatMap_cons, List.flatMap_nil, List.append_nil, List.count_replicate]
    by_cases h1 : (C : Int) = x
    · have hb : ((C : Int) == x) = true := by simpa using h1
      rw [if_neg (by omega), if_pos hb, if_pos (by omega), h1]; omega
    · have hb : ¬ ((C : Int) == x) = true := by simpa using h1
      rw [if_neg hb]
      by_cases h2 : 0 ≤ x ∧ x < (C : Int)
      · rw [if_pos h2, if_pos (by omega)]; omega
      · rw [if_neg h2, if_neg (by omega)]
end Go.Proofs.YtiebfalodelclaaGreat
