/-
  Largest remainders, plain: quota; more votes, not fewer seats. No program is named here.
-/
import Derived.Test.YtiebfalodelclaaGreatSpecLv
namespace Go.Proofs.YtiebfalodelclaaGreat

structure FlrOK (had : List Int) (n : Nat) (x : Int) : Prop where
  is : ((flrS had n x : Nat) : Int) = getI had x * n / had.sum
  sum : getI had x * n = ((flrS had n x : Nat) : Int) * had.sum + restS had n x
  r0 : 0 ≤ restS had n x
  r1 : restS had n x < had.sum
theorem flr_ok {had : List Int} {C : Nat} (hh : HadOK had C) (hT : 0 < had.sum) (n : Nat) (x : Int) : FlrOK had n x := by
  have h0 : 0 ≤ getI had x * n := Int.mul_nonneg (hh.nn x) (by omega)
  have hd : 0 ≤ getI had x * n / had.sum := Int.ediv_nonneg h0 (by omega)
  have e1 : ((flrS had n x : Nat) : Int) = getI had x * n / had.sum := by unfold flrS; rw [if_neg (by omega)]; omega
  have e2 : restS had n x = getI had x * n % had.sum := by unfold restS; rw [if_neg (by omega)]
  refine ⟨e1, ?_, ?_, ?_⟩
  · rw [e1, e2, Int.mul_comm (getI had x * n / had.sum)]
    exact (Int.mul_ediv_add_emod _ _).symm
  · rw [e2]; exact Int.emod_nonneg _ (by omega)
  · rw [e2]; exact Int.emod_lt_of_pos _ hT
theorem count_one : ∀ {l : List Int} {x : Int}, l.Nodup → x ∈ l → l.count x = 1
  | [], _, _, h => by cases h
  | a :: r, x, hn, h => by
    have hn2 := List.nodup_cons.1 hn
    rw [List.count_cons]
    by_cases e : a = x
    · subst e
      rw [List.count_eq_zero.2 hn2.1]
      simp
    · have hb : ¬ (a == x) = true := by simpa using e
      rw [if_neg hb, count_one hn2.2 ((List.mem_cons.1 h).resolve_left fun h => e h.symm)]
theorem base_rng {had : List Int} {n C : Nat} {x : Int} (h : x ∈ baseS had n C) : 0 ≤ x ∧ x < (C : Int) := by
  unfold baseS at h
  rw [List.mem_flatMap] at h
  obtain ⟨a, ha, hx⟩ := h
  rw [List.eq_of_mem_replicate hx]
  exact mem_rangeI.1 ha
theorem sum_const (c : Int) : ∀ n : Nat, ((List.range n).map fun _ : Nat => c).sum = n * c
  | 0 => by simp
  | n + 1 => by
    have := sum_const c n
    rw [List.range_succ, List.map_append, List.sum_append, this]
    simp [Int.add_mul]
/-- The seats that are left, times the votes: the remainders' sum. -/
theorem left_sum {had : List Int} {C : Nat} (hh : HadOK had C) (hT : 0 < had.sum) (n : Nat) :
    ((n : Int) - (baseS had n C).length) * had.sum = ((List.range C).map fun i : Nat => restS had n (i : Int)).sum := by
  have hlen := sum_count (C := C) (el := baseS had n C) fun x hx => base_rng hx
  have e1 : ((List.range C).map fun i : Nat => getI had (i : Int) * n).sum = had.sum * n := by rw [sum_mul, ← hh.sum]
  have e2 : ((List.range C).map fun i : Nat => getI had (i : Int) * n).sum = ((List.range C).map fun i : Nat => (((baseS had n C).count (i : Int) : Nat) : Int) * had.sum + restS had n (i : Int)).sum := by
    congr 1
    refine List.map_congr_left fun i hi => ?_
    have hi := List.mem_range.1 hi
    rw [count_base, if_pos (by omega)]
    exact (flr_ok hh hT n (i : Int)).sum
  rw [e1, sum_add, sum_mul, hlen] at e2
  rw [Int.sub_mul, Int.mul_comm (n : Int)]
  omega
structure RemIs (had : List Int) (C n : Nat) (el ps : List Int) : Prop where
  is : el = baseS had n C ++ ps
  len : (baseS had n C).length + ps.length = n
  nd : ps.Nodup
  rng : ∀ x ∈ ps, 0 ≤ x ∧ x < (C : Int)
  top : ∀ x ∈ ps, ∀ y, 0 ≤ y → y < (C : Int) → y ∉ ps → restS had n y ≤ restS had n x
  pos : ∀ x ∈ ps, 0 < restS had n x
theorem rem_is {had : List Int} {C : Nat} {lot : List Int} (hC : 1 ≤ C) (hl : LotAll lot C) (hh : HadOK had C) (hT : 0 < had.sum) (n : Nat) : ∃ ps, RemIs had C n (remS had C lot n).1 ps := by
  have hsum := left_sum hh hT n
  have hr0 : ∀ i : Nat, 0 ≤ restS had n (i : Int) := fun i => (flr_ok hh hT n _).r0
  have hs0 : 0 ≤ ((List.range C).map fun i : Nat => restS had n (i : Int)).sum := by
    have := sum_le (f := fun _ => 0) (g := fun i : Nat => restS had n (i : Int)) (n := C) fun a _ => hr0 a
    rw [sum_zero] at this
    exact this
  have hsC : ((List.range C).map fun i : Nat => restS had n (i : Int)).sum ≤ (C : Int) * had.sum := by
    have := sum_le (f := fun i : Nat => restS had n (i : Int)) (g := fun _ => had.sum) (n := C) fun a _ => Int.le_of_lt (flr_ok hh hT n _).r1
    rw [sum_const] at this
    exact this
  rw [← hsum] at hs0 hsC
  have hb1 : 0 ≤ (n : Int) - (baseS had n C).length := by
    refine Classical.byContradiction fun h => ?_
    have : ((n : Int) - (baseS had n C).length) * had.sum < 0 := Int.mul_neg_of_neg_of_pos (by omega) hT
    omega
  have hb2 : (n : Int) - (baseS had n C).length ≤ C := Int.le_of_mul_le_mul_right hsC hT
  have hnd : (rangeI C).Nodup := by
    unfold rangeI
    rw [List.nodup_iff_pairwise_ne, List.pairwise_map]
    exact (List.nodup_iff_pairwise_ne.1 List.nodup_range).imp fun h e => h (by omega)
  obtain ⟨ps, h1, h2, h3, h4, h5⟩ := more_spec (f := restS had n) (C := C) (lot := lot) (n - (baseS had n C).length) (rangeI C) (baseS had n C, []) hnd
    (fun z hz => hl z (mem_rangeI.1 hz).1 (mem_rangeI.1 hz).2) (by rw [length_rangeI]; omega) (fun _ h => by have := congrArg List.length h; rw [length_rangeI] at this; simp at this; omega)
  refine ⟨ps, by unfold remS; rw [more_nil hC, h1], by omega, h3, fun x hx => mem_rangeI.1 (h4 x hx), fun x hx y y0 yC hy => h5 x hx y (mem_rangeI.2 ⟨y0, yC⟩) hy, ?_⟩
  intro x hx
  refine Classical.byContradiction fun hz => ?_
  have hxr := mem_rangeI.1 (h4 x hx)
  have hx0 : restS had n x = 0 := by have := (flr_ok hh hT n x).r0; omega
  have hle := sum_le (f := fun i : Nat => restS had n (i : Int)) (g := fun i : Nat => ((ps.count (i : Int) : Nat) : Int) * had.sum + (if x = (i : Int) then (1 : Int) else 0) * (- had.sum)) (n := C) fun i hi => by
    have hri := (flr_ok hh hT n (i : Int))
    by_cases hxi : x = (i : Int)
    · have hc : ps.count (i : Int) = 1 := by rw [← hxi]; exact count_one h3 hx
      simp only [if_pos hxi, hc]
      rw [← hxi, hx0]
      omega
    · simp only [if_neg hxi]
      by_cases hip : (i : Int) ∈ ps
      · have hc : ps.count (i : Int) = 1 := count_one h3 hip
        rw [hc]
        have := hri.r1
        omega
      · have hc : ps.count (i : Int) = 0 := List.count_eq_zero.2 hip
        have := h5 x hx (i : Int) (mem_rangeI.2 ⟨by omega, by omega⟩) hip
        rw [hc]
        omega
  rw [sum_add, sum_mul, sum_mul, sum_count (fun x hx => mem_rangeI.1 (h4 x hx)), sum_ind, if_pos hxr, ← hsum, h2] at hle
  have e : ((n - (baseS had n C).length : Nat) : Int) = (n : Int) - (baseS had n C).length := by omega
  rw [e] at hle
  omega
theorem rem_count {had : List Int} {C n : Nat} {el ps : List Int} (h : RemIs had C n el ps) {x : Int} (x0 : 0 ≤ x) (xC : x < C) : el.count x = flrS had n x + if x ∈ ps then 1 else 0 := by
  rw [h.is, List.count_append, count_base, if_pos ⟨x0, xC⟩]
  by_cases hx : x ∈ ps
  · rw [if_pos hx, count_one h.nd hx]
  · rw [if_neg hx, List.count_eq_zero.2 hx]
/-- Largest remainders satisfy quota. -/
theorem hare_quota {had : List Int} {C : Nat} {lot : List Int} (hC : 1 ≤ C) (hl : LotAll lot C) (hh : HadOK had C) (hT : 0 < had.sum) (n : Nat) {x : Int} (x0 : 0 ≤ x) (xC : x < C) :
    getI had x * n / had.sum ≤ ((remS had C lot n).1.count x : Nat) ∧ (((remS had C lot n).1.count x : Nat) : Int) ≤ (getI had x * n + had.sum - 1) / had.sum := by
  obtain ⟨ps, h⟩ := rem_is hC hl hh hT n
  have hf := flr_ok hh hT n x
  rw [rem_count h x0 xC]
  have hi := hf.is
  constructor
  · omega
  · have hs := hf.sum
    have hr0 := hf.r0
    have hp : x ∈ ps → 0 < restS had n x := h.pos x
    generalize restS had n x = r at *
    generalize ((flrS had n x : Nat)) = q at *
    generalize hv : getI had x * n = v at *
    rw [Int.le_ediv_iff_mul_le hT]
    by_cases hx : x ∈ ps
    · have := hp hx
      rw [if_pos hx]
      push_cast
      rw [Int.add_mul]
      omega
    · rw [if_neg hx]
      simp only [Nat.add_zero]
      omega
/-- More votes, not fewer seats. -/
theorem hare_larger {had : List Int} {C : Nat} {lot : List Int} (hC : 1 ≤ C) (hl : LotAll lot C) (hh : HadOK had C) (hT : 0 < had.sum) (n : Nat) {x y : Int} (x0 : 0 ≤ x) (xC : x < C) (y0 : 0 ≤ y) (yC : y < C) :
    (getI had y < getI had x → (remS had C lot n).1.count y ≤ (remS had C lot n).1.count x) ∧ (getI had x = getI had y → (remS had C lot n).1.count x ≤ (remS had C lot n).1.count y + 1) := by
  obtain ⟨ps, h⟩ := rem_is hC hl hh hT n
  have hx := flr_ok hh hT n x
  have hy := flr_ok hh hT n y
  rw [rem_count h x0 xC, rem_count h y0 yC]
  constructor
  · intro hv
    have hle : getI had y * n ≤ getI had x * n := Int.mul_le_mul_of_nonneg_right (by omega) (by omega)
    have hfl : getI had y * n / had.sum ≤ getI had x * n / had.sum := Int.ediv_le_ediv hT hle
    rw [← hx.is, ← hy.is] at hfl
    by_cases hyp : y ∈ ps
    · rw [if_pos hyp]
      by_cases hxp : x ∈ ps
      · rw [if_pos hxp]; omega
      · rw [if_neg hxp]
        have ht := h.top y hyp x x0 xC hxp
        have hpos := h.pos y hyp
        rcases Nat.lt_or_ge (flrS had n y) (flrS had n x) with hlt | hge
        · omega
        · exfalso
          have he : flrS had n y = flrS had n x := by omega
          have s1 := hx.sum
          have s2 := hy.sum
          rw [he] at s2
          have hn : 0 < n := by
            rcases Nat.eq_zero_or_pos n with h0 | h0
            · exfalso
              subst h0
              have := h.len
              have hl : ps.length = 0 := by omega
              rw [List.length_eq_zero_iff.1 hl] at hyp
              cases hyp
            · exact h0
          have hlt : getI had y * n < getI had x * n := Int.mul_lt_mul_of_pos_right hv (by omega)
          omega
    · rw [if_neg hyp]
      omega
  · intro hv
    have : flrS had n x = flrS had n y := by
      have h1 := hx.is
      have h2 := hy.is
      rw [hv] at h1
      omega
    rw [this]
    split <;> split <;> omega
end Go.Proofs.YtiebfalodelclaaGreat
