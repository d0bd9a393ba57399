/-
  The program's Rename, of a ballot, where nothing is wrong.
-/
import Derived.Test.YtolbceckbnifmaaGreatW8i
import Derived.Test.YtolbceckbnifmaaGreatW9m
import Derived.Test.YtolbceckbnifmaaGreatSpecA
namespace Go.Proofs.YtolbceckbnifmaaGreat
open Go.RowKit Go.Proofs Go.Shelf
attribute [local go_sem] cell?_more cell?_alloc_some cell?_setCell_far frozen?_alloc_some frozen?_more
/-- The first t marks have been put under their new names. -/
def partR (k : Int) (ms p : List Int) (t : Nat) : List Int :=
  if k = 3 then (List.range ms.length).map fun i : Nat => if placeS p i 0 < t ∧ 0 ≤ placeS p i 0 then ms.getD (placeS p i 0).toNat 0 else 0
  else (List.range ms.length).map fun i : Nat => if i < t then p.getD (ms.getD i 0).toNat 0 else 0
theorem length_partR (k : Int) (ms p : List Int) (t : Nat) : (partR k ms p t).length = ms.length := by unfold partR; split <;> simp
theorem partR_zero (k : Int) (ms p : List Int) : partR k ms p 0 = List.replicate ms.length 0 := by
  unfold partR
  split
  · refine List.ext_getElem (by simp) fun i h1 h2 => ?_
    simp
    omega
  · refine List.ext_getElem (by simp) fun i h1 h2 => ?_
    simp
theorem partR_mark {k : Int} {ms p : List Int} {t : Nat} {m v : Int} (hk : k ≠ 3) (hm : ms[t]? = some m) (_h0 : 0 ≤ m) (hv : p[m.toNat]? = some v) : partR k ms p (t + 1) = (partR k ms p t).set t v := by
  have ht := (List.getElem?_eq_some_iff.1 hm).1
  unfold partR
  rw [if_neg hk, if_neg hk]
  apply List.ext_getElem?
  intro i
  by_cases hi : i < ms.length
  · by_cases e : t = i
    · subst e
      rw [List.getElem?_set_self (by simpa using ht)]
      have : p.getD (ms.getD t 0).toNat 0 = v := by simp [List.getD, hm, hv]
      simp [ht] at this ⊢
      simpa using this
    · rw [List.getElem?_set_ne e]
      simp only [List.getElem?_map, List.getElem?_range hi, Option.map_some]
      by_cases e2 : i < t
      · rw [if_pos e2, if_pos (by omega)]
      · rw [if_neg e2, if_neg (by omega)]
  · rw [List.getElem?_eq_none (by simp; omega), List.getElem?_eq_none (by simp; omega)]
theorem placeS_at {p : List Int} (hn : p.Nodup) {t : Nat} {v : Int} (hv : p[t]? = some v) : placeS p v 0 = t := by
  suffices h : ∀ (l : List Int) (j : Int) (t : Nat), l.Nodup → l[t]? = some v → placeS l v j = j + t by simpa using h p 0 t hn hv
  intro l
  induction l with
  | nil => intro j t _ h; simp at h
  | cons a r ih =>
    intro j t hnd h
    cases t with
    | zero => simp at h; subst h; simp [placeS]
    | succ t =>
      simp at h
      have hne : a ≠ v := fun e => (List.nodup_cons.1 hnd).1 (by rw [e]; exact List.mem_of_getElem? h)
      unfold placeS
      rw [if_neg hne, ih (j + 1) t (List.nodup_cons.1 hnd).2 h]
      push_cast
      omega
theorem partR_point {ms p : List Int} {t : Nat} {m v : Int} (hn : p.Nodup) (hm : ms[t]? = some m) (hv : p[t]? = some v) (h0 : 0 ≤ v) (_hvl : v < ms.length) : partR 3 ms p (t + 1) = (partR 3 ms p t).set v.toNat m := by
  have hpl := placeS_at hn hv
  unfold partR
  rw [if_pos rfl, if_pos rfl]
  apply List.ext_getElem?
  intro i
  by_cases hi : i < ms.length
  · by_cases e : v.toNat = i
    · rw [e, List.getElem?_set_self (by simpa using hi)]
      simp only [List.getElem?_map, List.getElem?_range hi, Option.map_some]
      rw [show (i : Int) = v by omega, hpl, if_pos (by omega), Int.toNat_natCast]
      simp [List.getD, hm]
    · rw [List.getElem?_set_ne e]
      simp only [List.getElem?_map, List.getElem?_range hi, Option.map_some]
      have hne : placeS p i 0 ≠ t := fun h => by
        have hin : (i : Int) ∈ p := by
          by_cases hmem : (i : Int) ∈ p
          · exact hmem
          · have := (placeS_neg (xs := p) (x := (i : Int)) (Int.le_refl 0)).2 hmem; omega
        have := placeS_inj (xs := p) (x := (i : Int)) (y := v) (k := 0) (by omega) hin (by rw [h, hpl])
        omega
      by_cases e2 : placeS p i 0 < t ∧ 0 ≤ placeS p i 0
      · rw [if_pos e2, if_pos (by omega)]
      · rw [if_neg e2, if_neg (by omega)]
  · rw [List.getElem?_eq_none (by simp; omega), List.getElem?_eq_none (by simp; omega)]

theorem bd_getD {xs : List Int} (h : ∀ x ∈ xs, -9223372036854775808 ≤ x ∧ x ≤ 9223372036854775807) (i : Nat) : -9223372036854775808 ≤ xs.getD i 0 ∧ xs.getD i 0 ≤ 9223372036854775807 := by
  by_cases hi : i < xs.length
  · exact h _ (by simp [List.getD, hi])
  · simp [List.getD, List.getElem?_eq_none (Nat.le_of_not_lt hi)]
theorem bd_partR {k : Int} {ms p : List Int} (t : Nat) (hm : ∀ x ∈ ms, -9223372036854775808 ≤ x ∧ x ≤ 9223372036854775807) (hp : ∀ x ∈ p, -9223372036854775808 ≤ x ∧ x ≤ 9223372036854775807) : ∀ x ∈ partR k ms p t, -9223372036854775808 ≤ x ∧ x ≤ 9223372036854775807 := by
  intro x hx
  unfold partR at hx
  split at hx
  all_goals
    obtain ⟨i, hi, rfl⟩ := List.mem_map.1 hx
    split
    · first | exact bd_getD hm _ | exact bd_getD hp _
    · omega
/-- The marks under other names. -/
def renS (k : Int) (ms p : List Int) : List Int := if k = 2 then (partR k ms p ms.length).mergeSort (fun a b => decide (a ≤ b)) else partR k ms p ms.length
theorem renS_sorted {ms p ys : List Int} (hp : ys.Perm (partR 2 ms p ms.length)) (hs : ys.Pairwise (· ≤ ·)) : ys = renS 2 ms p := by
  unfold renS
  rw [if_pos rfl]
  have h1 := List.mergeSort_perm (partR 2 ms p ms.length) (fun a b => decide (a ≤ b))
  have h2 := List.pairwise_mergeSort (le := fun a b : Int => decide (a ≤ b)) (by intro a b c; simp; omega) (by intro a b; simp; omega) (partR 2 ms p ms.length)
  exact List.Perm.eq_of_pairwise (fun a b _ _ h h' => Int.le_antisymm h h') hs (h2.imp fun h => by simpa using h) (hp.trans h1.symm)
theorem length_renS (k : Int) (ms p : List Int) : (renS k ms p).length = ms.length := by
  unfold renS
  split
  · rw [List.length_mergeSort, length_partR]
  · rw [length_partR]

def RenPost (w : World) (k : Int) (ms p : List Int) (e : Ending) (w' : World) : Prop :=
  ∃ A n c, e = .returned (.tuple #[.agg #[.int .u8 k, .slice A n c], .int .i64 0]) ∧ RInts w' A n c (renS k ms p) ∧ (0 < n → ∃ b off, A = some ⟨b, off, none⟩ ∧ w.heap.size ≤ b) ∧ Below w.heap.size w w'

/-- A mark that is a name. -/
theorem fine_mark {k : Int} {ms : List Int} {n m : Int} (h : fineS k ms n = true) (hk : k ≠ 3) (hm : m ∈ ms) : ∃ M : Nat, m = (M : Int) ∧ (M : Int) < n := by
  have : 0 ≤ m ∧ m < n := by
    unfold fineS at h
    rw [if_neg hk] at h
    split at h
    · simp only [Bool.and_eq_true, List.all_eq_true] at h
      exact inR_iff.1 (h.1.1 m hm)
    · split at h
      · simp only [Bool.and_eq_true, List.all_eq_true] at h
        exact inR_iff.1 (h.1 m hm)
      · cases h
  exact ⟨m.toNat, by omega, by omega⟩

set_option maxRecDepth 100000 in
set_option maxHeartbeats 4000000 in
theorem brename_any (k : Int) (A : Option Addr) (n c : Nat) (ms : List Int) (A' : Option Addr) (n' c' : Nat) (p : List Int) (w : World) (h : RInts w A n c ms) (h' : RInts w A' n' c' p) (hp : turnedS p = true) (hf : fineS k ms n' = true) (hn : n ≤ 10) :
    Calls Tryz.prog 75 #[.agg #[.int .u8 k, .slice A n c], .slice A' n' c'] w (RenPost w k ms p) := by
  have hl := hide h.len
  have hl' := hide h'.len
  obtain ⟨p1, p2, -⟩ := turned_perm.1 hp
  rw [hl'.out] at p1 p2
  have hS0 := ((Hs.nil w).alloc 103 #[.int .u8 k, .slice A n c]).alloc 103 #[.int .u8 0, .slice none 0 0]
  have hb0 := ((Below.refl w.heap.size w).alloc (Nat.le_refl _) (.cells #[.int .u8 k, .slice A n c] 103)).alloc (by simp) (.cells #[.int .u8 0, .slice none 0 0] 103)
  simp only [World.size_alloc] at hS0
  have hz0 : ((w.alloc (.cells #[.int .u8 k, .slice A n c] 103)).alloc (.cells #[.int .u8 0, .slice none 0 0] 103)).heap.size = w.heap.size + 2 := by simp
  go_enter Tryz.func75, Tryz.ntmps75
  go_wp2_with fail
  generalize hW : World.alloc _ _ = W0 at hS0 hb0 hz0
  try rw [hW]
  clear hW
  refine (bturned_any A' n' c' p W0 (h'.below hb0)).mono ?_
  rintro e w1 ⟨rfl, hbw⟩
  rw [hp]
  have hS1 := hS0.below hbw
  have hb1 := Below_trans' hb0 hb0.size hbw
  have hz1 : w.heap.size + 2 ≤ w1.heap.size := by have := hbw.size; omega
  clear hS0 hb0 hbw hz0
  have q0 : w1.cell? ⟨w.heap.size, 0, none⟩ = some (.int .u8 k) := hS1.2.1.cell 0
  have q1 : w1.cell? ⟨w.heap.size, 1, none⟩ = some (.slice A n c) := hS1.2.1.cell 1
  go_upto_region 5 with fail
  refine (fine_any k A n c ms n' w1 (h.below hb1) (by omega)).mono ?_
  rintro e w2 ⟨rfl, hbw⟩
  rw [hf]
  clear q0 q1
  have hS2 := hS1.below hbw
  have hb2 := Below_trans' hb1 hb1.size hbw
  have hz2 : w.heap.size + 2 ≤ w2.heap.size := Nat.le_trans hz1 hbw.size
  clear hS1 hb1 hz1 hbw
  have q0 : w2.cell? ⟨w.heap.size, 0, none⟩ = some (.int .u8 k) := hS2.2.1.cell 0
  have q1 : w2.cell? ⟨w.heap.size, 1, none⟩ = some (.slice A n c) := hS2.2.1.cell 1
  have hmk := run_make_row' (P := Tryz.prog) 28 3 (.int .i64 0) 8 Tryz.underlying28 info3 rfl .i64 .i64 n (by omega) (by omega)
  go_upto_region 5 with fail
  go_region_held3 (fun w' => w'.cell? ⟨w.heap.size, 0, none⟩ = some (.int .u8 k) ∧ w'.cell? ⟨w.heap.size, 1, none⟩ = some (.slice A n c)) (first | go_keep) (fail)
  · try (rename_i hh; clear hh)
    have hA := Has.new w2 3 (madeCells #[.int .i64 0] n)
    have hu3 : Below w2.heap.size w2 (w2.alloc (.cells (madeCells #[.int .i64 0] n) 3)) := (Below.refl _ _).alloc (Nat.le_refl _) _
    have hO3 : Own (w2.alloc (.cells (madeCells #[.int .i64 0] n) 3)) (w.heap.size + 2) (.slice (some ⟨w2.heap.size, 0, none⟩) n n) (List.replicate n 0) := by
      unfold Own
      have := World.ownsRow_lit (base := w.heap.size + 2) (e := 3) (size := 1) w2 (madeCells #[.int .i64 0] n) n hz2 (by unfold maxLen; omega) (by rw [size_madeCells]; simp)
      rw [toList_madeCells_one] at this
      simpa using this
    have hT := Has.new (w2.alloc (.cells (madeCells #[.int .i64 0] n) 3)) 103 #[.int .u8 k, .slice (some ⟨w2.heap.size, 0, none⟩) n n]
    have hu4 := Below_trans' hu3 hu3.size ((Below.refl _ _).alloc (Nat.le_refl _) (.cells #[.int .u8 k, .slice (some ⟨w2.heap.size, 0, none⟩) n n] 103))
    have hO4 := hO3.below ((Below.refl _ _).alloc (Nat.le_refl _) (.cells #[.int .u8 k, .slice (some ⟨w2.heap.size, 0, none⟩) n n] 103))
    have hga : w.heap.size + 2 ≤ w2.heap.size := hz2
    have hgt : w.heap.size + 2 ≤ (w2.alloc (.cells (madeCells #[.int .i64 0] n) 3)).heap.size := Nat.le_trans hz2 hu3.size
    have hne : w2.heap.size ≠ (w2.alloc (.cells (madeCells #[.int .i64 0] n) 3)).heap.size := by simp
    have hS5 := hS2.below hu4
    have hb5 := Below_trans' hb2 hb2.size hu4
    generalize hW : World.alloc (World.alloc _ _) _ = W5 at hT hO4 hS5 hb5 ⊢
    simp only [World.size_alloc] at hT hgt hne ⊢
    generalize hg6 : w2.heap.size + 1 = g6 at hT hgt hne ⊢
    clear hg6 hW hu4 hu3 hO3 hA q0 q1 hmk hS2 hb2
    generalize w2.heap.size = ga at hga hne hT hO4 ⊢
    obtain ⟨hR, hQ, -⟩ := hS5
    have hR6 : Has W5.drew (w.heap.size + 1) 103 #[.int .u8 0, .slice none 0 0] := hR
    have hQ6 : Has W5.drew w.heap.size 103 #[.int .u8 k, .slice A n c] := hQ
    have hT6 : Has W5.drew g6 103 #[.int .u8 k, .slice (some ⟨ga, 0, none⟩) n n] := hT
    have hO6 : Own W5.drew (w.heap.size + 2) (.slice (some ⟨ga, 0, none⟩) n n) (partR k ms p 0) := by rw [partR_zero, hl.out]; exact hO4
    have hb6 : Below w.heap.size w W5.drew := ⟨hb5.os, hb5.tape, hb5.output, hb5.size, hb5.block⟩
    have hm6 : RInts W5.drew A n c ms := h.below hb6
    have hp6 : RInts W5.drew A' n' c' p := h'.below hb6
    have hmb : Hid (0 < n → ∃ b off, A = some ⟨b, off, none⟩ ∧ b < w.heap.size) := fun hn => let ⟨b, off, e, hc⟩ := h.2.2.2.2 hn; ⟨b, off, e, World.block_lt_of_cell? w _ (hc 0 hn)⟩
    have hpb : Hid (0 < n' → ∃ b off, A' = some ⟨b, off, none⟩ ∧ b < w.heap.size) := fun hn => let ⟨b, off, e, hc⟩ := h'.2.2.2.2 hn; ⟨b, off, e, World.block_lt_of_cell? w _ (hc 0 hn)⟩
    have hbm := hide (fun x (hx : x ∈ ms) => h.bd hx)
    have hbp := hide (fun x (hx : x ∈ p) => h'.bd hx)
    have Hf := hide hf
    have Hp := hide hp
    have Hne := hide hne
    generalize W5.drew = W6 at hR6 hQ6 hT6 hO6 hm6 hp6 hb6 ⊢
    clear hR hQ hT hO4 hb5 hf hp hne h h'
    clear W5
    have q1 : W6.cell? ⟨w.heap.size, 1, none⟩ = some (.slice A n c) := hQ6.cell 1
    go_wp2_with fail
    clear q1
    go_loopw [7, 8, 29] (fun s7 s8 i wr => ∃ (t : Nat), t ≤ n ∧ i = .int .i64 t ∧ Hid (Own wr (w.heap.size + 2) (.slice (some ⟨ga, 0, none⟩) n n) (partR k ms p t)) ∧ Hid (Frame' (fun b => b = ga) W6 wr)) (fun s7 s8 i _ => n - (intOf i).toNat)
    case atStart => exact ⟨0, Nat.zero_le _, rfl, hO6, Frame'.refl _ _⟩
    case round =>
      obtain ⟨t, ht, rfl, hO, hF⟩ := hrel
      have hQr : Has wr w.heap.size 103 #[.int .u8 k, .slice A n c] := hF.out.has hQ6 (fun e => absurd (show _ = _ from e) (by omega))
      have hTr : Has wr g6 103 #[.int .u8 k, .slice (some ⟨ga, 0, none⟩) n n] := hF.out.has hT6 (fun e => Hne.out (Eq.symm (show _ = _ from e)))
      have hmr := hm6.frame hF.out (fun hn => let ⟨b, off, e, hb⟩ := hmb.out hn; ⟨b, off, e, fun e' => absurd (show _ = _ from e') (by omega)⟩)
      have hpr := hp6.frame hF.out (fun hn => let ⟨b, off, e, hb⟩ := hpb.out hn; ⟨b, off, e, fun e' => absurd (show _ = _ from e') (by omega)⟩)
      have k0 : wr.cell? ⟨w.heap.size, 0, none⟩ = some (.int .u8 k) := hQr.cell 0
      have s1 : wr.cell? ⟨g6, 1, none⟩ = some (.slice (some ⟨ga, 0, none⟩) n n) := hTr.cell 1
      have hyl : Hid ((partR k ms p t).length = n) := by unfold Hid; rw [length_partR, hl.out]
      by_cases hlt : t < n
      · obtain ⟨b, off, m, rfl, hc, hd, hat, hm1, hm2⟩ := hmr.step hlt
        by_cases hk3 : k = 3
        · have hk3' : (k == 3) = true := by simp [hk3]
          have hnn : n = n' := by
            have := Hf.out
            rw [hk3] at this
            simp only [fineS, if_true, Bool.and_eq_true, decide_eq_true_eq] at this
            have h2 := hl.out
            omega
          obtain ⟨b', off', v0, rfl, hc', hd', hat', hv1, hv2⟩ := hpr.step (show t < n' by omega)
          obtain ⟨V, rfl, hVn⟩ : ∃ V : Nat, v0 = V ∧ V < n := by
            have := (turned_iff.1 Hp.out).2.2 v0 (List.mem_of_getElem? hat'.out)
            have h2 := hl'.out
            exact ⟨v0.toNat, by omega, by omega⟩
          obtain ⟨u, hu, cu, fu⟩ := hO.out.at hyl.out hVn
          have hnext : Hid (partR k ms p (t + 1) = (partR k ms p t).set V m) := by
            unfold Hid
            rw [hk3, partR_point (turned_iff.1 Hp.out).2.1 hat.out hat'.out (by omega) (by rw [hl.out]; omega), Int.toNat_natCast]
          have b1 : (0 : Int) ≤ (t : Int) := by omega
          have b2 : (t : Int) < (n : Int) := by omega
          have b3 : (0 : Int) ≤ (V : Int) := by omega
          have b4 : (V : Int) < (n : Int) := by omega
          have b5 : (t : Int) < (n' : Int) := by omega
          have hbq : b' < w.heap.size := by
            obtain ⟨bq, offq, eq, hbq⟩ := hpb.out (by omega)
            cases eq; exact hbq
          have hne' : g6 ≠ ga := fun e => Hne.out e.symm
          have hbg : b' ≠ ga := by omega
          have kk1 : (wr.setCell ⟨ga, V, none⟩ (.int .i64 m)).drew.cell? ⟨g6, 1, none⟩ = some (.slice (some ⟨ga, 0, none⟩) n n) := (cell?_setCell_far (w := wr) (p := ⟨ga, V, none⟩) (a := ⟨g6, 1, none⟩) (u := .int .i64 m) hne').trans s1
          have kk2 : (wr.setCell ⟨ga, V, none⟩ (.int .i64 m)).drew.cell? ⟨b', off' + t, none⟩ = some (.int .i64 (V : Int)) := (cell?_setCell_far (w := wr) (p := ⟨ga, V, none⟩) (a := ⟨b', off' + t, none⟩) (u := .int .i64 m) hbg).trans hc'
          clear hmr hpr hQr hTr hk3 hnn
          go_wp2_with fail
          go_region_held3 (fun w' => w'.cell? ⟨g6, 1, none⟩ = some (.slice (some ⟨ga, 0, none⟩) n n) ∧ w'.cell? ⟨b', off' + t, none⟩ = some (.int .i64 (V : Int)))
            (first
              | go_keep
              | exact ⟨kk1, kk2⟩)
            (fail)
          all_goals
            have hO7 := Own.set hO.out hyl.out V m
            have hF7 := Frame'.setCell (p := ⟨ga, V, none⟩) hF.out (.inl rfl) (.int .i64 m)
            rw [← hnext.out] at hO7
            clear hO hF hc hc' cu fu k0 s1 hnext kk1 kk2
            go_wp2
            go_roundw
            case rel => exact ⟨t + 1, by omega, by go_num, hO7, ⟨hF7.os, hF7.tape, hF7.output, hF7.size, hF7.block⟩⟩
            case measure => simp [intOf] <;> omega
        · have hk3' : (k == 3) = false := by simp [hk3]
          obtain ⟨M, rfl, hM⟩ := fine_mark Hf.out hk3 (List.mem_of_getElem? hat.out)
          obtain ⟨b', off', v, rfl, hc', hd', hat', hv1, hv2⟩ := hpr.step (show M < n' by omega)
          obtain ⟨u, hu, cu, fu⟩ := hO.out.at hyl.out hlt
          have hnext := hide (partR_mark hk3 hat.out (by omega) (by rw [Int.toNat_natCast]; exact hat'.out))
          have b1 : (0 : Int) ≤ (t : Int) := by omega
          have b2 : (t : Int) < (n : Int) := by omega
          have b3 : (0 : Int) ≤ (M : Int) := by omega
          have b4 : (M : Int) < (n' : Int) := by omega
          have hbq : b' < w.heap.size := by
            obtain ⟨bq, offq, eq, hbq⟩ := hpb.out (by omega)
            cases eq; exact hbq
          have hne' : g6 ≠ ga := fun e => Hne.out e.symm
          have hbg : b' ≠ ga := by omega
          have kk1 : (wr.setCell ⟨ga, t, none⟩ (.int .i64 v)).drew.cell? ⟨g6, 1, none⟩ = some (.slice (some ⟨ga, 0, none⟩) n n) := (cell?_setCell_far (w := wr) (p := ⟨ga, t, none⟩) (a := ⟨g6, 1, none⟩) (u := .int .i64 v) hne').trans s1
          have kk2 : (wr.setCell ⟨ga, t, none⟩ (.int .i64 v)).drew.cell? ⟨b', off' + M, none⟩ = some (.int .i64 v) := (cell?_setCell_far (w := wr) (p := ⟨ga, t, none⟩) (a := ⟨b', off' + M, none⟩) (u := .int .i64 v) hbg).trans hc'
          clear hmr hpr hQr hTr hk3
          go_wp2_with fail
          go_region_held3 (fun w' => w'.cell? ⟨g6, 1, none⟩ = some (.slice (some ⟨ga, 0, none⟩) n n) ∧ w'.cell? ⟨b', off' + M, none⟩ = some (.int .i64 v))
            (first
              | go_keep
              | exact ⟨kk1, kk2⟩)
            (fail)
          all_goals
            have hO7 := Own.set hO.out hyl.out t v
            have hF7 := Frame'.setCell (p := ⟨ga, t, none⟩) hF.out (.inl rfl) (.int .i64 v)
            rw [← hnext.out] at hO7
            clear hO hF hc hc' cu fu k0 s1 hnext
            go_wp2
            go_roundw
            case rel => exact ⟨t + 1, by omega, by go_num, hO7, ⟨hF7.os, hF7.tape, hF7.output, hF7.size, hF7.block⟩⟩
            case measure => simp [intOf] <;> omega
      · have htn : t = n := by omega
        subst htn
        have hRr : Has wr (w.heap.size + 1) 103 #[.int .u8 0, .slice none 0 0] := hF.out.has hR6 (fun e => absurd (show _ = _ from e) (by omega))
        have hbr := Frame'.below hb6 hF.out (fun k e => by have e : k = ga := e; omega) hb6.size
        have hpt : Hid (partR k ms p t = partR k ms p ms.length) := by unfold Hid; rw [hl.out]
        have b2 : ¬ (t : Int) < (t : Int) := by omega
        clear hmr hpr hR6 hT6 hQ6 hO6 hm6 hp6 hb6 hQr hlt
        by_cases hk2 : k = 2
        · subst hk2
          have hcall := sort_any (w.heap.size + 2) (some ⟨ga, 0, none⟩) t t (partR 2 ms p t) wr hO.out (by omega)
          go_upto_region 15 with (go_at_call 70; refine hcall.mono ?_; rintro e w8 ⟨rfl, ys, hO8, hpm, hso, hF8⟩)
          have hT8 := hF8.has hTr (fun e => Hne.out (by have := Option.some.inj (show some g6 = some ga from e); omega))
          have hR8 := hF8.has hRr (fun e => absurd (Option.some.inj (show some (w.heap.size + 1) = some ga from e)) (by omega))
          have hb8 := Frame'.below hbr hF8 (fun k e => by have := Option.some.inj (show some k = some ga from e); omega) hbr.size
          have hys : ys = renS 2 ms p := renS_sorted (by rw [← hpt.out]; exact hpm) hso
          have hby := hide (fun x (hx : x ∈ ys) => bd_partR (k := 2) t hbm.out hbp.out x (hpm.subset hx))
          rw [hys] at hO8 hby
          clear hcall hF8 hTr hRr hbr hO hF hpm hso k0 s1 hys
          have x0 : World.cell? _ ⟨g6, 0, none⟩ = some (.int .u8 2) := hT8.cell 0
          have x1 : World.cell? _ ⟨g6, 1, none⟩ = some (.slice (some ⟨ga, 0, none⟩) t t) := hT8.cell 1
          have y0 : World.cell? _ ⟨w.heap.size + 1, 0, none⟩ = some (.int .u8 0) := hR8.cell 0
          have y1 : World.cell? _ ⟨w.heap.size + 1, 1, none⟩ = some (.slice none 0 0) := hR8.cell 1
          have f0 := hR8.free 0
          have f1 := hR8.free 1
          go_wp2
          refine retBal2 rfl rfl rfl (put2 hR8) rfl rfl ⟨_, _, _, rfl, ?_, fun hn => let ⟨b, off, e, hb⟩ := Own.new hO8 hn; ⟨b, off, e, by omega⟩, below2 hb8 (by omega) _ _⟩
          exact Own.ints (Own.frame hO8 (frame2 _ _ _ _) (fun b e e' => by have := (Own.own_lt hO8 e).1; have e' : b = w.heap.size + 1 := e'; omega)) (hby.out)
        · have hk2' : (k == 2) = false := by simp [hk2]
          have hO8 : Own wr (w.heap.size + 2) (.slice (some ⟨ga, 0, none⟩) t t) (renS k ms p) := by
            unfold renS
            rw [if_neg hk2, ← hpt.out]
            exact hO.out
          have hby := hide (fun x (hx : x ∈ renS k ms p) => bd_partR (k := k) ms.length hbm.out hbp.out x (by unfold renS at hx; rwa [if_neg hk2] at hx))
          clear hO hF s1
          have x0 : World.cell? _ ⟨g6, 0, none⟩ = some (.int .u8 k) := hTr.cell 0
          have x1 : World.cell? _ ⟨g6, 1, none⟩ = some (.slice (some ⟨ga, 0, none⟩) t t) := hTr.cell 1
          have y0 : World.cell? _ ⟨w.heap.size + 1, 0, none⟩ = some (.int .u8 0) := hRr.cell 0
          have y1 : World.cell? _ ⟨w.heap.size + 1, 1, none⟩ = some (.slice none 0 0) := hRr.cell 1
          have f0 := hRr.free 0
          have f1 := hRr.free 1
          go_wp2
          refine retBal2 rfl rfl rfl (put2 hRr) rfl rfl ⟨_, _, _, rfl, ?_, fun hn => let ⟨b, off, e, hb⟩ := Own.new hO8 hn; ⟨b, off, e, by omega⟩, below2 hbr (by omega) _ _⟩
          exact Own.ints (Own.frame hO8 (frame2 _ _ _ _) (fun b e e' => by have := (Own.own_lt hO8 e).1; have e' : b = w.heap.size + 1 := e'; omega)) (hby.out)
  · try (rename_i hh; clear hh)
    have hT := Has.new w2 103 #[.int .u8 k, .slice (some ⟨w2.heap.size + 1, 0, none⟩) n n]
    have hu3 : Below w2.heap.size w2 (w2.alloc (.cells #[.int .u8 k, .slice (some ⟨w2.heap.size + 1, 0, none⟩) n n] 103)) := (Below.refl _ _).alloc (Nat.le_refl _) _
    have hu4' : Below (w2.alloc (.cells #[.int .u8 k, .slice (some ⟨w2.heap.size + 1, 0, none⟩) n n] 103)).heap.size (w2.alloc (.cells #[.int .u8 k, .slice (some ⟨w2.heap.size + 1, 0, none⟩) n n] 103)) ((w2.alloc (.cells #[.int .u8 k, .slice (some ⟨w2.heap.size + 1, 0, none⟩) n n] 103)).alloc (.cells (madeCells #[.int .i64 0] n) 3)) := (Below.refl _ _).alloc (Nat.le_refl _) _
    have hu4 := Below_trans' hu3 hu3.size hu4'
    have hT := hT.below hu4' hT.lt
    have hO4 : Own ((w2.alloc (.cells #[.int .u8 k, .slice (some ⟨w2.heap.size + 1, 0, none⟩) n n] 103)).alloc (.cells (madeCells #[.int .i64 0] n) 3)) (w.heap.size + 2) (.slice (some ⟨w2.heap.size + 1, 0, none⟩) n n) (List.replicate n 0) := by
      unfold Own
      have := World.ownsRow_lit (base := w.heap.size + 2) (e := 3) (size := 1) (w2.alloc (.cells #[.int .u8 k, .slice (some ⟨w2.heap.size + 1, 0, none⟩) n n] 103)) (madeCells #[.int .i64 0] n) n (Nat.le_trans hz2 hu3.size) (by unfold maxLen; omega) (by rw [size_madeCells]; simp)
      rw [toList_madeCells_one] at this
      simpa using this
    have hga : w.heap.size + 2 ≤ w2.heap.size + 1 := by omega
    have hgt : w.heap.size + 2 ≤ w2.heap.size := hz2
    have hne : w2.heap.size + 1 ≠ w2.heap.size := by omega
    have hS5 := hS2.below hu4
    have hb5 := Below_trans' hb2 hb2.size hu4
    generalize hW : World.alloc (World.alloc _ _) _ = W5 at hT hO4 hS5 hb5 ⊢
    generalize hg6 : w2.heap.size + 1 = ga at hga hne hT hO4 ⊢
    clear hg6 hW hu4 hu4' hu3 q0 q1 hmk hS2 hb2
    generalize w2.heap.size = g6 at hT hgt hne ⊢
    obtain ⟨hR, hQ, -⟩ := hS5
    have hR6 : Has W5.drew (w.heap.size + 1) 103 #[.int .u8 0, .slice none 0 0] := hR
    have hQ6 : Has W5.drew w.heap.size 103 #[.int .u8 k, .slice A n c] := hQ
    have hT6 : Has W5.drew g6 103 #[.int .u8 k, .slice (some ⟨ga, 0, none⟩) n n] := hT
    have hO6 : Own W5.drew (w.heap.size + 2) (.slice (some ⟨ga, 0, none⟩) n n) (partR k ms p 0) := by rw [partR_zero, hl.out]; exact hO4
    have hb6 : Below w.heap.size w W5.drew := ⟨hb5.os, hb5.tape, hb5.output, hb5.size, hb5.block⟩
    have hm6 : RInts W5.drew A n c ms := h.below hb6
    have hp6 : RInts W5.drew A' n' c' p := h'.below hb6
    have hmb : Hid (0 < n → ∃ b off, A = some ⟨b, off, none⟩ ∧ b < w.heap.size) := fun hn => let ⟨b, off, e, hc⟩ := h.2.2.2.2 hn; ⟨b, off, e, World.block_lt_of_cell? w _ (hc 0 hn)⟩
    have hpb : Hid (0 < n' → ∃ b off, A' = some ⟨b, off, none⟩ ∧ b < w.heap.size) := fun hn => let ⟨b, off, e, hc⟩ := h'.2.2.2.2 hn; ⟨b, off, e, World.block_lt_of_cell? w _ (hc 0 hn)⟩
    have hbm := hide (fun x (hx : x ∈ ms) => h.bd hx)
    have hbp := hide (fun x (hx : x ∈ p) => h'.bd hx)
    have Hf := hide hf
    have Hp := hide hp
    have Hne := hide hne
    generalize W5.drew = W6 at hR6 hQ6 hT6 hO6 hm6 hp6 hb6 ⊢
    clear hR hQ hT hO4 hb5 hf hp hne h h'
    clear W5
    have q1 : W6.cell? ⟨w.heap.size, 1, none⟩ = some (.slice A n c) := hQ6.cell 1
    go_wp2_with fail
    clear q1
    go_loopw [7, 8, 29] (fun s7 s8 i wr => ∃ (t : Nat), t ≤ n ∧ i = .int .i64 t ∧ Hid (Own wr (w.heap.size + 2) (.slice (some ⟨ga, 0, none⟩) n n) (partR k ms p t)) ∧ Hid (Frame' (fun b => b = ga) W6 wr)) (fun s7 s8 i _ => n - (intOf i).toNat)
    case atStart => exact ⟨0, Nat.zero_le _, rfl, hO6, Frame'.refl _ _⟩
    case round =>
      obtain ⟨t, ht, rfl, hO, hF⟩ := hrel
      have hQr : Has wr w.heap.size 103 #[.int .u8 k, .slice A n c] := hF.out.has hQ6 (fun e => absurd (show _ = _ from e) (by omega))
      have hTr : Has wr g6 103 #[.int .u8 k, .slice (some ⟨ga, 0, none⟩) n n] := hF.out.has hT6 (fun e => Hne.out (Eq.symm (show _ = _ from e)))
      have hmr := hm6.frame hF.out (fun hn => let ⟨b, off, e, hb⟩ := hmb.out hn; ⟨b, off, e, fun e' => absurd (show _ = _ from e') (by omega)⟩)
      have hpr := hp6.frame hF.out (fun hn => let ⟨b, off, e, hb⟩ := hpb.out hn; ⟨b, off, e, fun e' => absurd (show _ = _ from e') (by omega)⟩)
      have k0 : wr.cell? ⟨w.heap.size, 0, none⟩ = some (.int .u8 k) := hQr.cell 0
      have s1 : wr.cell? ⟨g6, 1, none⟩ = some (.slice (some ⟨ga, 0, none⟩) n n) := hTr.cell 1
      have hyl : Hid ((partR k ms p t).length = n) := by unfold Hid; rw [length_partR, hl.out]
      by_cases hlt : t < n
      · obtain ⟨b, off, m, rfl, hc, hd, hat, hm1, hm2⟩ := hmr.step hlt
        by_cases hk3 : k = 3
        · have hk3' : (k == 3) = true := by simp [hk3]
          have hnn : n = n' := by
            have := Hf.out
            rw [hk3] at this
            simp only [fineS, if_true, Bool.and_eq_true, decide_eq_true_eq] at this
            have h2 := hl.out
            omega
          obtain ⟨b', off', v0, rfl, hc', hd', hat', hv1, hv2⟩ := hpr.step (show t < n' by omega)
          obtain ⟨V, rfl, hVn⟩ : ∃ V : Nat, v0 = V ∧ V < n := by
            have := (turned_iff.1 Hp.out).2.2 v0 (List.mem_of_getElem? hat'.out)
            have h2 := hl'.out
            exact ⟨v0.toNat, by omega, by omega⟩
          obtain ⟨u, hu, cu, fu⟩ := hO.out.at hyl.out hVn
          have hnext : Hid (partR k ms p (t + 1) = (partR k ms p t).set V m) := by
            unfold Hid
            rw [hk3, partR_point (turned_iff.1 Hp.out).2.1 hat.out hat'.out (by omega) (by rw [hl.out]; omega), Int.toNat_natCast]
          have b1 : (0 : Int) ≤ (t : Int) := by omega
          have b2 : (t : Int) < (n : Int) := by omega
          have b3 : (0 : Int) ≤ (V : Int) := by omega
          have b4 : (V : Int) < (n : Int) := by omega
          have b5 : (t : Int) < (n' : Int) := by omega
          have hbq : b' < w.heap.size := by
            obtain ⟨bq, offq, eq, hbq⟩ := hpb.out (by omega)
            cases eq; exact hbq
          have hne' : g6 ≠ ga := fun e => Hne.out e.symm
          have hbg : b' ≠ ga := by omega
          have kk1 : (wr.setCell ⟨ga, V, none⟩ (.int .i64 m)).drew.cell? ⟨g6, 1, none⟩ = some (.slice (some ⟨ga, 0, none⟩) n n) := (cell?_setCell_far (w := wr) (p := ⟨ga, V, none⟩) (a := ⟨g6, 1, none⟩) (u := .int .i64 m) hne').trans s1
          have kk2 : (wr.setCell ⟨ga, V, none⟩ (.int .i64 m)).drew.cell? ⟨b', off' + t, none⟩ = some (.int .i64 (V : Int)) := (cell?_setCell_far (w := wr) (p := ⟨ga, V, none⟩) (a := ⟨b', off' + t, none⟩) (u := .int .i64 m) hbg).trans hc'
          clear hmr hpr hQr hTr hk3 hnn
          go_wp2_with fail
          go_region_held3 (fun w' => w'.cell? ⟨g6, 1, none⟩ = some (.slice (some ⟨ga, 0, none⟩) n n) ∧ w'.cell? ⟨b', off' + t, none⟩ = some (.int .i64 (V : Int)))
            (first
              | go_keep
              | exact ⟨kk1, kk2⟩)
            (fail)
          all_goals
            have hO7 := Own.set hO.out hyl.out V m
            have hF7 := Frame'.setCell (p := ⟨ga, V, none⟩) hF.out (.inl rfl) (.int .i64 m)
            rw [← hnext.out] at hO7
            clear hO hF hc hc' cu fu k0 s1 hnext kk1 kk2
            go_wp2
            go_roundw
            case rel => exact ⟨t + 1, by omega, by go_num, hO7, ⟨hF7.os, hF7.tape, hF7.output, hF7.size, hF7.block⟩⟩
            case measure => simp [intOf] <;> omega
        · have hk3' : (k == 3) = false := by simp [hk3]
          obtain ⟨M, rfl, hM⟩ := fine_mark Hf.out hk3 (List.mem_of_getElem? hat.out)
          obtain ⟨b', off', v, rfl, hc', hd', hat', hv1, hv2⟩ := hpr.step (show M < n' by omega)
          obtain ⟨u, hu, cu, fu⟩ := hO.out.at hyl.out hlt
          have hnext := hide (partR_mark hk3 hat.out (by omega) (by rw [Int.toNat_natCast]; exact hat'.out))
          have b1 : (0 : Int) ≤ (t : Int) := by omega
          have b2 : (t : Int) < (n : Int) := by omega
          have b3 : (0 : Int) ≤ (M : Int) := by omega
          have b4 : (M : Int) < (n' : Int) := by omega
          have hbq : b' < w.heap.size := by
            obtain ⟨bq, offq, eq, hbq⟩ := hpb.out (by omega)
            cases eq; exact hbq
          have hne' : g6 ≠ ga := fun e => Hne.out e.symm
          have hbg : b' ≠ ga := by omega
          have kk1 : (wr.setCell ⟨ga, t, none⟩ (.int .i64 v)).drew.cell? ⟨g6, 1, none⟩ = some (.slice (some ⟨ga, 0, none⟩) n n) := (cell?_setCell_far (w := wr) (p := ⟨ga, t, none⟩) (a := ⟨g6, 1, none⟩) (u := .int .i64 v) hne').trans s1
          have kk2 : (wr.setCell ⟨ga, t, none⟩ (.int .i64 v)).drew.cell? ⟨b', off' + M, none⟩ = some (.int .i64 v) := (cell?_setCell_far (w := wr) (p := ⟨ga, t, none⟩) (a := ⟨b', off' + M, none⟩) (u := .int .i64 v) hbg).trans hc'
          clear hmr hpr hQr hTr hk3
          go_wp2_with fail
          go_region_held3 (fun w' => w'.cell? ⟨g6, 1, none⟩ = some (.slice (some ⟨ga, 0, none⟩) n n) ∧ w'.cell? ⟨b', off' + M, none⟩ = some (.int .i64 v))
            (first
              | go_keep
              | exact ⟨kk1, kk2⟩)
            (fail)
          all_goals
            have hO7 := Own.set hO.out hyl.out t v
            have hF7 := Frame'.setCell (p := ⟨ga, t, none⟩) hF.out (.inl rfl) (.int .i64 v)
            rw [← hnext.out] at hO7
            clear hO hF hc hc' cu fu k0 s1 hnext
            go_wp2
            go_roundw
            case rel => exact ⟨t + 1, by omega, by go_num, hO7, ⟨hF7.os, hF7.tape, hF7.output, hF7.size, hF7.block⟩⟩
            case measure => simp [intOf] <;> omega
      · have htn : t = n := by omega
        subst htn
        have hRr : Has wr (w.heap.size + 1) 103 #[.int .u8 0, .slice none 0 0] := hF.out.has hR6 (fun e => absurd (show _ = _ from e) (by omega))
        have hbr := Frame'.below hb6 hF.out (fun k e => by have e : k = ga := e; omega) hb6.size
        have hpt : Hid (partR k ms p t = partR k ms p ms.length) := by unfold Hid; rw [hl.out]
        have b2 : ¬ (t : Int) < (t : Int) := by omega
        clear hmr hpr hR6 hT6 hQ6 hO6 hm6 hp6 hb6 hQr hlt
        by_cases hk2 : k = 2
        · subst hk2
          have hcall := sort_any (w.heap.size + 2) (some ⟨ga, 0, none⟩) t t (partR 2 ms p t) wr hO.out (by omega)
          go_upto_region 15 with (go_at_call 70; refine hcall.mono ?_; rintro e w8 ⟨rfl, ys, hO8, hpm, hso, hF8⟩)
          have hT8 := hF8.has hTr (fun e => Hne.out (by have := Option.some.inj (show some g6 = some ga from e); omega))
          have hR8 := hF8.has hRr (fun e => absurd (Option.some.inj (show some (w.heap.size + 1) = some ga from e)) (by omega))
          have hb8 := Frame'.below hbr hF8 (fun k e => by have := Option.some.inj (show some k = some ga from e); omega) hbr.size
          have hys : ys = renS 2 ms p := renS_sorted (by rw [← hpt.out]; exact hpm) hso
          have hby := hide (fun x (hx : x ∈ ys) => bd_partR (k := 2) t hbm.out hbp.out x (hpm.subset hx))
          rw [hys] at hO8 hby
          clear hcall hF8 hTr hRr hbr hO hF hpm hso k0 s1 hys
          have x0 : World.cell? _ ⟨g6, 0, none⟩ = some (.int .u8 2) := hT8.cell 0
          have x1 : World.cell? _ ⟨g6, 1, none⟩ = some (.slice (some ⟨ga, 0, none⟩) t t) := hT8.cell 1
          have y0 : World.cell? _ ⟨w.heap.size + 1, 0, none⟩ = some (.int .u8 0) := hR8.cell 0
          have y1 : World.cell? _ ⟨w.heap.size + 1, 1, none⟩ = some (.slice none 0 0) := hR8.cell 1
          have f0 := hR8.free 0
          have f1 := hR8.free 1
          go_wp2
          refine retBal2 rfl rfl rfl (put2 hR8) rfl rfl ⟨_, _, _, rfl, ?_, fun hn => let ⟨b, off, e, hb⟩ := Own.new hO8 hn; ⟨b, off, e, by omega⟩, below2 hb8 (by omega) _ _⟩
          exact Own.ints (Own.frame hO8 (frame2 _ _ _ _) (fun b e e' => by have := (Own.own_lt hO8 e).1; have e' : b = w.heap.size + 1 := e'; omega)) (hby.out)
        · have hk2' : (k == 2) = false := by simp [hk2]
          have hO8 : Own wr (w.heap.size + 2) (.slice (some ⟨ga, 0, none⟩) t t) (renS k ms p) := by
            unfold renS
            rw [if_neg hk2, ← hpt.out]
            exact hO.out
          have hby := hide (fun x (hx : x ∈ renS k ms p) => bd_partR (k := k) ms.length hbm.out hbp.out x (by unfold renS at hx; rwa [if_neg hk2] at hx))
          clear hO hF s1
          have x0 : World.cell? _ ⟨g6, 0, none⟩ = some (.int .u8 k) := hTr.cell 0
          have x1 : World.cell? _ ⟨g6, 1, none⟩ = some (.slice (some ⟨ga, 0, none⟩) t t) := hTr.cell 1
          have y0 : World.cell? _ ⟨w.heap.size + 1, 0, none⟩ = some (.int .u8 0) := hRr.cell 0
          have y1 : World.cell? _ ⟨w.heap.size + 1, 1, none⟩ = some (.slice none 0 0) := hRr.cell 1
          have f0 := hRr.free 0
          have f1 := hRr.free 1
          go_wp2
          refine retBal2 rfl rfl rfl (put2 hRr) rfl rfl ⟨_, _, _, rfl, ?_, fun hn => let ⟨b, off, e, hb⟩ := Own.new hO8 hn; ⟨b, off, e, by omega⟩, below2 hbr (by omega) _ _⟩
          exact Own.ints (Own.frame hO8 (frame2 _ _ _ _) (fun b e e' => by have := (Own.own_lt hO8 e).1; have e' : b = w.heap.size + 1 := e'; omega)) (hby.out)
end Go.Proofs.YtolbceckbnifmaaGreat
