/-
  The reference's Keep of one ballot.
  The reference's Rename of one ballot.
-/
import Derived.Test.YtleniljhacnikaaGreatW8f
import Derived.Test.YtleniljhacnikaaGreatMem3
import Derived.Test.YtleniljhacnikaaGreatSpecM
import Derived.Test.YtleniljhacnikaaGreatApp
import Derived.Test.YtleniljhacnikaaGreatQApp
import Derived.Test.YtleniljhacnikaaGreatW9m
namespace Go.Proofs.YtleniljhacnikaaGreat
open Go.RowKit Go.Proofs
attribute [local go_sem] cell?_more cell?_alloc_some cell?_setCell_far frozen?_alloc_some frozen?_more

/-- What the first t marks leave. -/
def keptP (k : Int) (ms : List Int) (bs : List Bool) (t : Nat) : List Int :=
  if k = 1 ∨ k = 2 then (ms.take t).filter fun x => isS bs x
  else if k = 3 then (List.range t).map fun i : Nat => if isS bs i = true then ms.getD i 0 else 0
  else ms.take t
theorem keptP_end (k : Int) (ms : List Int) (bs : List Bool) : keptP k ms bs ms.length = keptS k ms bs := by
  unfold keptP keptS; rw [List.take_length]
theorem keptP_zero (k : Int) (ms : List Int) (bs : List Bool) : keptP k ms bs 0 = [] := by
  unfold keptP; split <;> (try split) <;> simp
theorem keptP_in {k : Int} {ms : List Int} {bs : List Bool} {t : Nat} {m : Int} (hk : k = 1 ∨ k = 2) (hat : ms[t]? = some m) (hi : isS bs m = true) : keptP k ms bs (t + 1) = keptP k ms bs t ++ [m] := by
  unfold keptP; rw [if_pos hk, if_pos hk, List.take_add_one, hat, List.filter_append]; simp [hi]
theorem keptP_out {k : Int} {ms : List Int} {bs : List Bool} {t : Nat} {m : Int} (hk : k = 1 ∨ k = 2) (hat : ms[t]? = some m) (hi : isS bs m = false) : keptP k ms bs (t + 1) = keptP k ms bs t := by
  unfold keptP; rw [if_pos hk, if_pos hk, List.take_add_one, hat, List.filter_append]; simp [hi]
theorem keptP_yes {k : Int} {ms : List Int} {bs : List Bool} {t : Nat} {m : Int} (hk : k = 3) (hat : ms[t]? = some m) (hi : isS bs (t : Int) = true) : keptP k ms bs (t + 1) = keptP k ms bs t ++ [m] := by
  unfold keptP; rw [if_neg (by omega), if_pos hk, if_neg (by omega), if_pos hk, List.range_succ, List.map_append]; simp [hi, List.getD, hat]
theorem keptP_no {k : Int} {ms : List Int} {bs : List Bool} {t : Nat} (hk : k = 3) (hi : isS bs (t : Int) = false) : keptP k ms bs (t + 1) = keptP k ms bs t ++ [0] := by
  unfold keptP; rw [if_neg (by omega), if_pos hk, if_neg (by omega), if_pos hk, List.range_succ, List.map_append]; simp [hi]
theorem keptP_else {k : Int} {ms : List Int} {bs : List Bool} {t : Nat} {m : Int} (h1 : k ≠ 1) (h2 : k ≠ 2) (h3 : k ≠ 3) (hat : ms[t]? = some m) : keptP k ms bs (t + 1) = keptP k ms bs t ++ [m] := by
  unfold keptP; rw [if_neg (by omega), if_neg h3, if_neg (by omega), if_neg h3, List.take_add_one, hat]; simp
theorem length_keptP (k : Int) (ms : List Int) (bs : List Bool) (t : Nat) : (keptP k ms bs t).length ≤ t := by
  unfold keptP
  split
  · exact Nat.le_trans (List.length_filter_le _ _) (by rw [List.length_take]; omega)
  · split
    · simp
    · rw [List.length_take]; omega
theorem bd_keptS {k : Int} {ms : List Int} {bs : List Bool} (hm : ∀ x ∈ ms, -9223372036854775808 ≤ x ∧ x ≤ 9223372036854775807) : ∀ x ∈ keptS k ms bs, -9223372036854775808 ≤ x ∧ x ≤ 9223372036854775807 := by
  intro x hx
  unfold keptS at hx
  split at hx
  · exact hm x (List.mem_filter.1 hx).1
  · split at hx
    · obtain ⟨i, hi, rfl⟩ := List.mem_map.1 hx
      rw [List.mem_range] at hi
      try simp only
      split
      · exact hm _ (by simp [List.getD, hi])
      · omega
    · exact hm x hx

/-- What the reference's Keep leaves. -/
def RKeepPost (w : World) (k : Int) (xs : List Int) (e : Ending) (w' : World) : Prop :=
  ∃ A n c, e = .returned (.agg #[.int .u8 k, .slice A n c]) ∧ Own w' w.heap.size (.slice A n c) xs ∧ Below w.heap.size w w'


set_option maxRecDepth 100000 in
set_option maxHeartbeats 4000000 in
theorem rkeep_any (k : Int) (A : Option Addr) (n c : Nat) (ms : List Int) (A' : Option Addr) (n' c' : Nat) (bs : List Bool) (w : World) (h : RInts w A n c ms) (h' : RBools w A' n' c' bs) (hn : n ≤ 1000) :
    Calls Tryz.prog 27 #[.agg #[.int .u8 k, .slice A n c], .slice A' n' c'] w (RKeepPost w k (keptS k ms bs)) := by
  have hl := hide h.len
  have hlb := hide h'.1
  have hle' : n' ≤ 9223372036854775807 := Nat.le_trans h'.2.1 h'.2.2.1
  have hS1 := (((Hs.nil w).alloc 32 #[.int .u8 k, .slice A n c]).alloc 32 #[.int .u8 0, .slice none 0 0]).alloc 32 #[.int .u8 k, .slice none 0 0]
  have hb1 := (((Below.refl w.heap.size w).alloc (Nat.le_refl _) (.cells #[.int .u8 k, .slice A n c] 32)).alloc (by simp) (.cells #[.int .u8 0, .slice none 0 0] 32)).alloc (by simp; omega) (.cells #[.int .u8 k, .slice none 0 0] 32)
  simp only [World.size_alloc] at hS1
  go_enter Tryz.func27, Tryz.ntmps27
  go_upto_region 2 with fail
  generalize hW : World.alloc (World.alloc (World.alloc w _) _) _ = W1 at hS1 hb1
  try rw [hW]
  clear hW
  have hP1 : Has W1 w.heap.size 32 #[.int .u8 k, .slice A n c] := hS1.2.2.1
  have hR1 : Has W1 (w.heap.size + 1) 32 #[.int .u8 0, .slice none 0 0] := hS1.2.1
  have hV1 : Has W1 (w.heap.size + 2) 32 #[.int .u8 k, .slice none 0 0] := hS1.1
  have hO1 : Own W1 (w.heap.size + 3) (.slice none 0 0) (keptP k ms bs 0) := by rw [keptP_zero]; exact Own.nil_ _ _
  clear hS1
  go_wp2_with fail
  go_loopw [6] (fun i wr => ∃ (t : Nat) (At : Option Addr) (nt ct : Nat), t ≤ n ∧ i = .int .i64 t ∧ Has wr w.heap.size 32 #[.int .u8 k, .slice A n c] ∧ Has wr (w.heap.size + 1) 32 #[.int .u8 0, .slice none 0 0] ∧ Has wr (w.heap.size + 2) 32 #[.int .u8 k, .slice At nt ct] ∧ Own wr (w.heap.size + 3) (.slice At nt ct) (keptP k ms bs t) ∧ Below w.heap.size w wr) (fun i _ => n - (intOf i).toNat)
  case atStart => exact ⟨0, none, 0, 0, Nat.zero_le _, rfl, hP1, hR1, hV1, hO1, hb1⟩
  case round =>
    clear hP1 hR1 hV1 hO1 hb1
    obtain ⟨t, At, nt, ct, ht, rfl, hP, hR, hV, hO, hb⟩ := hrel
    have hlk := length_keptP k ms bs t
    have p0 : wr.cell? ⟨w.heap.size, 0, none⟩ = some (.int .u8 k) := hP.cell 0
    have p1 : wr.cell? ⟨w.heap.size, 1, none⟩ = some (.slice A n c) := hP.cell 1
    have v1 : wr.cell? ⟨w.heap.size + 2, 1, none⟩ = some (.slice At nt ct) := hV.cell 1
    by_cases hlt : t < n
    · obtain ⟨b, off, m, rfl, hc, hd, hat, hm1, hm2⟩ := h.step hlt
      have m0 := keep_cell hb hc
      have b1 : (0 : Int) ≤ (t : Int) := by omega
      have b2 : (t : Int) < (n : Int) := by omega
      have hB := h'.below hb
      clear hc hd
      by_cases hk1 : k = 1
      · have e1 : (k == 1) = true := by simp [hk1]
        have HK := hide hk1
        clear hk1
        by_cases h0 : 0 ≤ m
        · by_cases h2 : m < (n' : Int)
          · obtain ⟨M, rfl⟩ : ∃ M : Nat, m = (M : Int) := ⟨m.toNat, by omega⟩
            obtain ⟨b', off', eA, hbit⟩ := hB.2.2.2 (show 0 < n' by omega)
            subst eA
            have l0 := hbit M (by omega)
            have hs : Hid (isS bs (M : Int) = bs.getD M false) := hide (by unfold isS; rw [inR_iff.2 (by have := hlb.out; omega)]; simp)
            generalize bs.getD M false = bit at l0 hs
            clear hbit hB
            cases bit with
            | true =>
              have hnx := hide (keptP_in (.inl HK.out) hat.out hs.out)
              have hO1 := hO.below ((Below.refl _ _).alloc (Nat.le_refl _) (.cells #[.int .i64 ((M : Int))] 3))
              have hz' := hb.size
              have hV0 := hV.lt
              go_wp2_with (at_builtin; refine appInt rfl rfl rfl (hO.below ((Below.refl _ _).alloc (Nat.le_refl _) _)) rfl ((Has.new _ _ _).cell 0) (by omega) (by simp; omega) ?_)
              have hP2 := hP.alloc (.cells #[.int .i64 ((M : Int))] 3)
              have hR2 := hR.alloc (.cells #[.int .i64 ((M : Int))] 3)
              have hV2 := hV.alloc (.cells #[.int .i64 ((M : Int))] 3)
              have hb2 := hb.alloc hb.size (.cells #[.int .i64 ((M : Int))] 3)
              intro v' w3 hO3 hg3
              rw [← hnx.out] at hO3
              have hP3 := grown_has hO1 hg3 hP2 (by omega)
              have hR3 := grown_has hO1 hg3 hR2 (by omega)
              have hV3 := grown_has hO1 hg3 hV2 (by omega)
              have hb3 := hb2.grown hg3 hb2.size (fun k hk => by have := hO1.lt k hk; omega)
              obtain ⟨A3, c3, hv3⟩ := hO3.slice
              subst hv3
              have k4 : Frame' (fun b => b = w.heap.size + 2) w3 (w3.setCell ⟨w.heap.size + 2, 1, none⟩ (.slice A3 (keptP k ms bs (t + 1)).length c3)) := Frame'.setCell (p := ⟨w.heap.size + 2, 1, none⟩) (Frame'.refl (fun b => b = w.heap.size + 2) w3) (.inl rfl) _
              have hV4 : Has (w3.setCell ⟨w.heap.size + 2, 1, none⟩ (.slice A3 (keptP k ms bs (t + 1)).length c3)) (w.heap.size + 2) 32 #[.int .u8 k, .slice A3 (keptP k ms bs (t + 1)).length c3] := hV3.put 1 _
              have hP4 := k4.has hP3 (by show ¬ (w.heap.size = w.heap.size + 2); omega)
              have hR4 := k4.has hR3 (by show ¬ (w.heap.size + 1 = w.heap.size + 2); omega)
              have hO4 : Own (w3.setCell ⟨w.heap.size + 2, 1, none⟩ (.slice A3 (keptP k ms bs (t + 1)).length c3)) (w.heap.size + 3) (.slice A3 (keptP k ms bs (t + 1)).length c3) (keptP k ms bs (t + 1)) :=
                Own.frame hO3 k4 (fun b hb e => by have := (Own.own_lt hO3 hb).1; omega)
              have hb4 := Frame'.below hb3 k4 (fun b e => by rw [e]; omega) hb3.size
              have o1 : w3.cell? ⟨w.heap.size + 2, 1, none⟩ = some (.slice At nt ct) := hV3.cell 1
              have f1 := hV3.free 1
              clear hO1 hV0 hz' hP2 hR2 hV2 hb2 hP3 hR3 hV3 hb3 hg3 hO3 hP hR hV hO hb k4 p0 p1 m0 v1
              go_wp2
              go_roundw
              case rel => exact ⟨t + 1, A3, _, c3, by omega, by go_num, hP4, hR4, hV4, hO4, hb4⟩
              case measure => simp [intOf] <;> omega
            | false =>
              have hnx := hide (keptP_out (.inl HK.out) hat.out hs.out)
              rw [← hnx.out] at hO
              go_wp2
              go_roundw
              case rel => exact ⟨t + 1, At, nt, ct, by omega, by go_num, hP, hR, hV, hO, hb⟩
              case measure => simp [intOf] <;> omega
          · have hs : Hid (isS bs m = false) := hide (by unfold isS; rw [show inR 0 bs.length m = false from by rw [← Bool.not_eq_true, inR_iff]; have := hlb.out; omega]; rfl)
            have hnx := hide (keptP_out (.inl HK.out) hat.out hs.out)
            rw [← hnx.out] at hO
            go_wp2
            go_roundw
            case rel => exact ⟨t + 1, At, nt, ct, by omega, by go_num, hP, hR, hV, hO, hb⟩
            case measure => simp [intOf] <;> omega
        · have hs : Hid (isS bs m = false) := hide (by unfold isS; rw [show inR 0 bs.length m = false from by rw [← Bool.not_eq_true, inR_iff]; omega]; rfl)
          have hnx := hide (keptP_out (.inl HK.out) hat.out hs.out)
          rw [← hnx.out] at hO
          go_wp2
          go_roundw
          case rel => exact ⟨t + 1, At, nt, ct, by omega, by go_num, hP, hR, hV, hO, hb⟩
          case measure => simp [intOf] <;> omega
      · have e1 : (k == 1) = false := by simpa using hk1
        by_cases hk2 : k = 2
        · have e2 : (k == 2) = true := by simp [hk2]
          have HK := hide hk2
          clear hk2
          by_cases h0 : 0 ≤ m
          · by_cases h2 : m < (n' : Int)
            · obtain ⟨M, rfl⟩ : ∃ M : Nat, m = (M : Int) := ⟨m.toNat, by omega⟩
              obtain ⟨b', off', eA, hbit⟩ := hB.2.2.2 (show 0 < n' by omega)
              subst eA
              have l0 := hbit M (by omega)
              have hs : Hid (isS bs (M : Int) = bs.getD M false) := hide (by unfold isS; rw [inR_iff.2 (by have := hlb.out; omega)]; simp)
              generalize bs.getD M false = bit at l0 hs
              clear hbit hB
              cases bit with
              | true =>
                have hnx := hide (keptP_in (.inr HK.out) hat.out hs.out)
                have hO1 := hO.below ((Below.refl _ _).alloc (Nat.le_refl _) (.cells #[.int .i64 ((M : Int))] 3))
                have hz' := hb.size
                have hV0 := hV.lt
                go_wp2_with (at_builtin; refine appInt rfl rfl rfl (hO.below ((Below.refl _ _).alloc (Nat.le_refl _) _)) rfl ((Has.new _ _ _).cell 0) (by omega) (by simp; omega) ?_)
                have hP2 := hP.alloc (.cells #[.int .i64 ((M : Int))] 3)
                have hR2 := hR.alloc (.cells #[.int .i64 ((M : Int))] 3)
                have hV2 := hV.alloc (.cells #[.int .i64 ((M : Int))] 3)
                have hb2 := hb.alloc hb.size (.cells #[.int .i64 ((M : Int))] 3)
                intro v' w3 hO3 hg3
                rw [← hnx.out] at hO3
                have hP3 := grown_has hO1 hg3 hP2 (by omega)
                have hR3 := grown_has hO1 hg3 hR2 (by omega)
                have hV3 := grown_has hO1 hg3 hV2 (by omega)
                have hb3 := hb2.grown hg3 hb2.size (fun k hk => by have := hO1.lt k hk; omega)
                obtain ⟨A3, c3, hv3⟩ := hO3.slice
                subst hv3
                have k4 : Frame' (fun b => b = w.heap.size + 2) w3 (w3.setCell ⟨w.heap.size + 2, 1, none⟩ (.slice A3 (keptP k ms bs (t + 1)).length c3)) := Frame'.setCell (p := ⟨w.heap.size + 2, 1, none⟩) (Frame'.refl (fun b => b = w.heap.size + 2) w3) (.inl rfl) _
                have hV4 : Has (w3.setCell ⟨w.heap.size + 2, 1, none⟩ (.slice A3 (keptP k ms bs (t + 1)).length c3)) (w.heap.size + 2) 32 #[.int .u8 k, .slice A3 (keptP k ms bs (t + 1)).length c3] := hV3.put 1 _
                have hP4 := k4.has hP3 (by show ¬ (w.heap.size = w.heap.size + 2); omega)
                have hR4 := k4.has hR3 (by show ¬ (w.heap.size + 1 = w.heap.size + 2); omega)
                have hO4 : Own (w3.setCell ⟨w.heap.size + 2, 1, none⟩ (.slice A3 (keptP k ms bs (t + 1)).length c3)) (w.heap.size + 3) (.slice A3 (keptP k ms bs (t + 1)).length c3) (keptP k ms bs (t + 1)) :=
                  Own.frame hO3 k4 (fun b hb e => by have := (Own.own_lt hO3 hb).1; omega)
                have hb4 := Frame'.below hb3 k4 (fun b e => by rw [e]; omega) hb3.size
                have o1 : w3.cell? ⟨w.heap.size + 2, 1, none⟩ = some (.slice At nt ct) := hV3.cell 1
                have f1 := hV3.free 1
                clear hO1 hV0 hz' hP2 hR2 hV2 hb2 hP3 hR3 hV3 hb3 hg3 hO3 hP hR hV hO hb k4 p0 p1 m0 v1
                go_wp2
                go_roundw
                case rel => exact ⟨t + 1, A3, _, c3, by omega, by go_num, hP4, hR4, hV4, hO4, hb4⟩
                case measure => simp [intOf] <;> omega
              | false =>
                have hnx := hide (keptP_out (.inr HK.out) hat.out hs.out)
                rw [← hnx.out] at hO
                go_wp2
                go_roundw
                case rel => exact ⟨t + 1, At, nt, ct, by omega, by go_num, hP, hR, hV, hO, hb⟩
                case measure => simp [intOf] <;> omega
            · have hs : Hid (isS bs m = false) := hide (by unfold isS; rw [show inR 0 bs.length m = false from by rw [← Bool.not_eq_true, inR_iff]; have := hlb.out; omega]; rfl)
              have hnx := hide (keptP_out (.inr HK.out) hat.out hs.out)
              rw [← hnx.out] at hO
              go_wp2
              go_roundw
              case rel => exact ⟨t + 1, At, nt, ct, by omega, by go_num, hP, hR, hV, hO, hb⟩
              case measure => simp [intOf] <;> omega
          · have hs : Hid (isS bs m = false) := hide (by unfold isS; rw [show inR 0 bs.length m = false from by rw [← Bool.not_eq_true, inR_iff]; omega]; rfl)
            have hnx := hide (keptP_out (.inr HK.out) hat.out hs.out)
            rw [← hnx.out] at hO
            go_wp2
            go_roundw
            case rel => exact ⟨t + 1, At, nt, ct, by omega, by go_num, hP, hR, hV, hO, hb⟩
            case measure => simp [intOf] <;> omega
        · have e2 : (k == 2) = false := by simpa using hk2
          by_cases hk3 : k = 3
          · have e3 : (k == 3) = true := by simp [hk3]
            have HK := hide hk3
            clear hk3
            by_cases h2 : t < n'
            · obtain ⟨b', off', eA, hbit⟩ := hB.2.2.2 (show 0 < n' by omega)
              subst eA
              have l0 := hbit t h2
              have l1 : (t : Int) < (n' : Int) := by omega
              have hs : Hid (isS bs (t : Int) = bs.getD t false) := hide (by unfold isS; rw [inR_iff.2 (by have := hlb.out; omega)]; simp)
              generalize bs.getD t false = bit at l0 hs
              clear hbit hB
              cases bit with
              | true =>
                have hnx := hide (keptP_yes HK.out hat.out hs.out)
                have hO1 := hO.below ((Below.refl _ _).alloc (Nat.le_refl _) (.cells #[.int .i64 (m)] 3))
                have hz' := hb.size
                have hV0 := hV.lt
                go_wp2_with (at_builtin; refine appInt rfl rfl rfl (hO.below ((Below.refl _ _).alloc (Nat.le_refl _) _)) rfl ((Has.new _ _ _).cell 0) (by omega) (by simp; omega) ?_)
                have hP2 := hP.alloc (.cells #[.int .i64 (m)] 3)
                have hR2 := hR.alloc (.cells #[.int .i64 (m)] 3)
                have hV2 := hV.alloc (.cells #[.int .i64 (m)] 3)
                have hb2 := hb.alloc hb.size (.cells #[.int .i64 (m)] 3)
                intro v' w3 hO3 hg3
                rw [← hnx.out] at hO3
                have hP3 := grown_has hO1 hg3 hP2 (by omega)
                have hR3 := grown_has hO1 hg3 hR2 (by omega)
                have hV3 := grown_has hO1 hg3 hV2 (by omega)
                have hb3 := hb2.grown hg3 hb2.size (fun k hk => by have := hO1.lt k hk; omega)
                obtain ⟨A3, c3, hv3⟩ := hO3.slice
                subst hv3
                have k4 : Frame' (fun b => b = w.heap.size + 2) w3 (w3.setCell ⟨w.heap.size + 2, 1, none⟩ (.slice A3 (keptP k ms bs (t + 1)).length c3)) := Frame'.setCell (p := ⟨w.heap.size + 2, 1, none⟩) (Frame'.refl (fun b => b = w.heap.size + 2) w3) (.inl rfl) _
                have hV4 : Has (w3.setCell ⟨w.heap.size + 2, 1, none⟩ (.slice A3 (keptP k ms bs (t + 1)).length c3)) (w.heap.size + 2) 32 #[.int .u8 k, .slice A3 (keptP k ms bs (t + 1)).length c3] := hV3.put 1 _
                have hP4 := k4.has hP3 (by show ¬ (w.heap.size = w.heap.size + 2); omega)
                have hR4 := k4.has hR3 (by show ¬ (w.heap.size + 1 = w.heap.size + 2); omega)
                have hO4 : Own (w3.setCell ⟨w.heap.size + 2, 1, none⟩ (.slice A3 (keptP k ms bs (t + 1)).length c3)) (w.heap.size + 3) (.slice A3 (keptP k ms bs (t + 1)).length c3) (keptP k ms bs (t + 1)) :=
                  Own.frame hO3 k4 (fun b hb e => by have := (Own.own_lt hO3 hb).1; omega)
                have hb4 := Frame'.below hb3 k4 (fun b e => by rw [e]; omega) hb3.size
                have o1 : w3.cell? ⟨w.heap.size + 2, 1, none⟩ = some (.slice At nt ct) := hV3.cell 1
                have f1 := hV3.free 1
                clear hO1 hV0 hz' hP2 hR2 hV2 hb2 hP3 hR3 hV3 hb3 hg3 hO3 hP hR hV hO hb k4 p0 p1 m0 v1
                go_wp2
                go_roundw
                case rel => exact ⟨t + 1, A3, _, c3, by omega, by go_num, hP4, hR4, hV4, hO4, hb4⟩
                case measure => simp [intOf] <;> omega
              | false =>
                have hnx := hide (keptP_no (ms := ms) HK.out hs.out)
                have hO1 := hO.below ((Below.refl _ _).alloc (Nat.le_refl _) (.cells #[.int .i64 (0)] 3))
                have hz' := hb.size
                have hV0 := hV.lt
                go_wp2_with (at_builtin; refine appInt rfl rfl rfl (hO.below ((Below.refl _ _).alloc (Nat.le_refl _) _)) rfl ((Has.new _ _ _).cell 0) (by omega) (by simp; omega) ?_)
                have hP2 := hP.alloc (.cells #[.int .i64 (0)] 3)
                have hR2 := hR.alloc (.cells #[.int .i64 (0)] 3)
                have hV2 := hV.alloc (.cells #[.int .i64 (0)] 3)
                have hb2 := hb.alloc hb.size (.cells #[.int .i64 (0)] 3)
                intro v' w3 hO3 hg3
                rw [← hnx.out] at hO3
                have hP3 := grown_has hO1 hg3 hP2 (by omega)
                have hR3 := grown_has hO1 hg3 hR2 (by omega)
                have hV3 := grown_has hO1 hg3 hV2 (by omega)
                have hb3 := hb2.grown hg3 hb2.size (fun k hk => by have := hO1.lt k hk; omega)
                obtain ⟨A3, c3, hv3⟩ := hO3.slice
                subst hv3
                have k4 : Frame' (fun b => b = w.heap.size + 2) w3 (w3.setCell ⟨w.heap.size + 2, 1, none⟩ (.slice A3 (keptP k ms bs (t + 1)).length c3)) := Frame'.setCell (p := ⟨w.heap.size + 2, 1, none⟩) (Frame'.refl (fun b => b = w.heap.size + 2) w3) (.inl rfl) _
                have hV4 : Has (w3.setCell ⟨w.heap.size + 2, 1, none⟩ (.slice A3 (keptP k ms bs (t + 1)).length c3)) (w.heap.size + 2) 32 #[.int .u8 k, .slice A3 (keptP k ms bs (t + 1)).length c3] := hV3.put 1 _
                have hP4 := k4.has hP3 (by show ¬ (w.heap.size = w.heap.size + 2); omega)
                have hR4 := k4.has hR3 (by show ¬ (w.heap.size + 1 = w.heap.size + 2); omega)
                have hO4 : Own (w3.setCell ⟨w.heap.size + 2, 1, none⟩ (.slice A3 (keptP k ms bs (t + 1)).length c3)) (w.heap.size + 3) (.slice A3 (keptP k ms bs (t + 1)).length c3) (keptP k ms bs (t + 1)) :=
                  Own.frame hO3 k4 (fun b hb e => by have := (Own.own_lt hO3 hb).1; omega)
                have hb4 := Frame'.below hb3 k4 (fun b e => by rw [e]; omega) hb3.size
                have o1 : w3.cell? ⟨w.heap.size + 2, 1, none⟩ = some (.slice At nt ct) := hV3.cell 1
                have f1 := hV3.free 1
                clear hO1 hV0 hz' hP2 hR2 hV2 hb2 hP3 hR3 hV3 hb3 hg3 hO3 hP hR hV hO hb k4 p0 p1 m0 v1
                go_wp2
                go_roundw
                case rel => exact ⟨t + 1, A3, _, c3, by omega, by go_num, hP4, hR4, hV4, hO4, hb4⟩
                case measure => simp [intOf] <;> omega
            · have l1 : (n' : Int) ≤ (t : Int) := by omega
              have hs : Hid (isS bs (t : Int) = false) := hide (by unfold isS; rw [show inR 0 bs.length (t : Int) = false from by rw [← Bool.not_eq_true, inR_iff]; have := hlb.out; omega]; rfl)
              have hnx := hide (keptP_no (ms := ms) HK.out hs.out)
              have hO1 := hO.below ((Below.refl _ _).alloc (Nat.le_refl _) (.cells #[.int .i64 (0)] 3))
              have hz' := hb.size
              have hV0 := hV.lt
              go_wp2_with (at_builtin; refine appInt rfl rfl rfl (hO.below ((Below.refl _ _).alloc (Nat.le_refl _) _)) rfl ((Has.new _ _ _).cell 0) (by omega) (by simp; omega) ?_)
              have hP2 := hP.alloc (.cells #[.int .i64 (0)] 3)
              have hR2 := hR.alloc (.cells #[.int .i64 (0)] 3)
              have hV2 := hV.alloc (.cells #[.int .i64 (0)] 3)
              have hb2 := hb.alloc hb.size (.cells #[.int .i64 (0)] 3)
              intro v' w3 hO3 hg3
              rw [← hnx.out] at hO3
              have hP3 := grown_has hO1 hg3 hP2 (by omega)
              have hR3 := grown_has hO1 hg3 hR2 (by omega)
              have hV3 := grown_has hO1 hg3 hV2 (by omega)
              have hb3 := hb2.grown hg3 hb2.size (fun k hk => by have := hO1.lt k hk; omega)
              obtain ⟨A3, c3, hv3⟩ := hO3.slice
              subst hv3
              have k4 : Frame' (fun b => b = w.heap.size + 2) w3 (w3.setCell ⟨w.heap.size + 2, 1, none⟩ (.slice A3 (keptP k ms bs (t + 1)).length c3)) := Frame'.setCell (p := ⟨w.heap.size + 2, 1, none⟩) (Frame'.refl (fun b => b = w.heap.size + 2) w3) (.inl rfl) _
              have hV4 : Has (w3.setCell ⟨w.heap.size + 2, 1, none⟩ (.slice A3 (keptP k ms bs (t + 1)).length c3)) (w.heap.size + 2) 32 #[.int .u8 k, .slice A3 (keptP k ms bs (t + 1)).length c3] := hV3.put 1 _
              have hP4 := k4.has hP3 (by show ¬ (w.heap.size = w.heap.size + 2); omega)
              have hR4 := k4.has hR3 (by show ¬ (w.heap.size + 1 = w.heap.size + 2); omega)
              have hO4 : Own (w3.setCell ⟨w.heap.size + 2, 1, none⟩ (.slice A3 (keptP k ms bs (t + 1)).length c3)) (w.heap.size + 3) (.slice A3 (keptP k ms bs (t + 1)).length c3) (keptP k ms bs (t + 1)) :=
                Own.frame hO3 k4 (fun b hb e => by have := (Own.own_lt hO3 hb).1; omega)
              have hb4 := Frame'.below hb3 k4 (fun b e => by rw [e]; omega) hb3.size
              have o1 : w3.cell? ⟨w.heap.size + 2, 1, none⟩ = some (.slice At nt ct) := hV3.cell 1
              have f1 := hV3.free 1
              clear hO1 hV0 hz' hP2 hR2 hV2 hb2 hP3 hR3 hV3 hb3 hg3 hO3 hP hR hV hO hb k4 p0 p1 m0 v1
              go_wp2
              go_roundw
              case rel => exact ⟨t + 1, A3, _, c3, by omega, by go_num, hP4, hR4, hV4, hO4, hb4⟩
              case measure => simp [intOf] <;> omega
          · have e3 : (k == 3) = false := by simpa using hk3
            have hnx := hide (keptP_else hk1 hk2 hk3 hat.out (bs := bs))
            have hO1 := hO.below ((Below.refl _ _).alloc (Nat.le_refl _) (.cells #[.int .i64 (m)] 3))
            have hz' := hb.size
            have hV0 := hV.lt
            go_wp2_with (at_builtin; refine appInt rfl rfl rfl (hO.below ((Below.refl _ _).alloc (Nat.le_refl _) _)) rfl ((Has.new _ _ _).cell 0) (by omega) (by simp; omega) ?_)
            have hP2 := hP.alloc (.cells #[.int .i64 (m)] 3)
            have hR2 := hR.alloc (.cells #[.int .i64 (m)] 3)
            have hV2 := hV.alloc (.cells #[.int .i64 (m)] 3)
            have hb2 := hb.alloc hb.size (.cells #[.int .i64 (m)] 3)
            intro v' w3 hO3 hg3
            rw [← hnx.out] at hO3
            have hP3 := grown_has hO1 hg3 hP2 (by omega)
            have hR3 := grown_has hO1 hg3 hR2 (by omega)
            have hV3 := grown_has hO1 hg3 hV2 (by omega)
            have hb3 := hb2.grown hg3 hb2.size (fun k hk => by have := hO1.lt k hk; omega)
            obtain ⟨A3, c3, hv3⟩ := hO3.slice
            subst hv3
            have k4 : Frame' (fun b => b = w.heap.size + 2) w3 (w3.setCell ⟨w.heap.size + 2, 1, none⟩ (.slice A3 (keptP k ms bs (t + 1)).length c3)) := Frame'.setCell (p := ⟨w.heap.size + 2, 1, none⟩) (Frame'.refl (fun b => b = w.heap.size + 2) w3) (.inl rfl) _
            have hV4 : Has (w3.setCell ⟨w.heap.size + 2, 1, none⟩ (.slice A3 (keptP k ms bs (t + 1)).length c3)) (w.heap.size + 2) 32 #[.int .u8 k, .slice A3 (keptP k ms bs (t + 1)).length c3] := hV3.put 1 _
            have hP4 := k4.has hP3 (by show ¬ (w.heap.size = w.heap.size + 2); omega)
            have hR4 := k4.has hR3 (by show ¬ (w.heap.size + 1 = w.heap.size + 2); omega)
            have hO4 : Own (w3.setCell ⟨w.heap.size + 2, 1, none⟩ (.slice A3 (keptP k ms bs (t + 1)).length c3)) (w.heap.size + 3) (.slice A3 (keptP k ms bs (t + 1)).length c3) (keptP k ms bs (t + 1)) :=
              Own.frame hO3 k4 (fun b hb e => by have := (Own.own_lt hO3 hb).1; omega)
            have hb4 := Frame'.below hb3 k4 (fun b e => by rw [e]; omega) hb3.size
            have o1 : w3.cell? ⟨w.heap.size + 2, 1, none⟩ = some (.slice At nt ct) := hV3.cell 1
            have f1 := hV3.free 1
            clear hO1 hV0 hz' hP2 hR2 hV2 hb2 hP3 hR3 hV3 hb3 hg3 hO3 hP hR hV hO hb k4 p0 p1 m0 v1
            go_wp2
            go_roundw
            case rel => exact ⟨t + 1, A3, _, c3, by omega, by go_num, hP4, hR4, hV4, hO4, hb4⟩
            case measure => simp [intOf] <;> omega
    · have b2 : ¬ (t : Int) < (n : Int) := by omega
      have hfin : Hid (keptP k ms bs t = keptS k ms bs) := hide (by rw [show t = ms.length by have := hl.out; omega]; exact keptP_end k ms bs)
      have v0 : wr.cell? ⟨w.heap.size + 2, 0, none⟩ = some (.int .u8 k) := hV.cell 0
      have r0 : wr.cell? ⟨w.heap.size + 1, 0, none⟩ = some (.int .u8 0) := hR.cell 0
      have r1 : wr.cell? ⟨w.heap.size + 1, 1, none⟩ = some (.slice none 0 0) := hR.cell 1
      have f0 := hR.free 0
      have f1 := hR.free 1
      go_wp2
      refine retBal rfl rfl (put2 hR) rfl rfl ⟨At, nt, ct, rfl, ?_, below2 hb (by omega) _ _⟩
      rw [← hfin.out]
      exact (Own.frame hO (frame2 wr (w.heap.size + 1) (.int .u8 k) (.slice At nt ct)) (fun b hb e => by have := (Own.own_lt hO hb).1; have e : b = w.heap.size + 1 := e; omega)).mono (by omega)
end Go.Proofs.YtleniljhacnikaaGreat

namespace Go.Proofs.YtleniljhacnikaaGreat
open Go.RowKit Go.Proofs
attribute [local go_sem] cell?_more cell?_alloc_some cell?_setCell_far frozen?_alloc_some frozen?_more

/-- What the reference's Rename leaves. -/
def RRenPost (w : World) (k : Int) (xs : List Int) (e : Ending) (w' : World) : Prop :=
  ∃ A n c, e = .returned (.tuple #[.agg #[.int .u8 k, .slice A n c], .int .i64 0]) ∧ Own w' w.heap.size (.slice A n c) xs ∧ Below w.heap.size w w'

/-- The loop's frame: b, the result, o. -/
def RenR (w : World) (g : Nat) (k : Int) (A : Option Addr) (n c : Nat) (At : Option Addr) (nt ct : Nat) (xs : List Int) (wr : World) : Prop :=
  Has wr w.heap.size 32 #[.int .u8 k, .slice A n c] ∧ Has wr (w.heap.size + 1) 32 #[.int .u8 0, .slice none 0 0] ∧ Has wr g 32 #[.int .u8 k, .slice At nt ct] ∧ Own wr (g + 1) (.slice At nt ct) xs ∧ Below w.heap.size w wr
/-- A number appended and stored. -/
theorem RenR.put {w : World} {g : Nat} {k : Int} {A : Option Addr} {n c : Nat} {At : Option Addr} {nt ct : Nat} {xs : List Int} {wr wy : World} (h : RenR w g k A n c At nt ct xs wr) (hg : w.heap.size + 1 < g) (hy : Below wr.heap.size wr wy) {w3 : World} {v' : Value} {ys : List Int}
    (hO : Own w3 (g + 1) v' ys) (hk : wy.grownBy w3 (Value.slice At nt ct).ownBlock) :
    ∃ A3 n3 c3, v' = .slice A3 n3 c3 ∧ w3.cell? ⟨g, 1, none⟩ = some (.slice At nt ct) ∧ w3.frozen? ⟨g, 1, none⟩ = false ∧ RenR w g k A n c A3 n3 c3 ys (w3.setCell ⟨g, 1, none⟩ (.slice A3 n3 c3)) := by
  obtain ⟨hP, hR, hV, hOw, hb⟩ := h
  have hO1 := hOw.below hy
  have hP3 := grown_has hO1 hk (hP.below hy hP.lt) (by omega)
  have hR3 := grown_has hO1 hk (hR.below hy hR.lt) (by omega)
  have hV3 := grown_has hO1 hk (hV.below hy hV.lt) (by omega)
  have hb2 := Below_trans' hb hb.size hy
  have hb3 := hb2.grown hk hb2.size (fun k hk => by have := hO1.lt k hk; omega)
  obtain ⟨A3, c3, rfl⟩ := hO.slice
  have k4 : Frame' (fun b => b = g) w3 (w3.setCell ⟨g, 1, none⟩ (.slice A3 ys.length c3)) := Frame'.setCell (p := ⟨g, 1, none⟩) (Frame'.refl (fun b => b = g) w3) (.inl rfl) _
  refine ⟨A3, _, c3, rfl, hV3.cell 1, hV3.free 1, k4.has hP3 (by show ¬ (w.heap.size = g); omega), k4.has hR3 (by show ¬ (w.heap.size + 1 = g); omega), hV3.put 1 _, Own.frame hO k4 (fun b hb e => ?_), Frame'.below hb3 k4 (fun b e => by rw [e]; omega) hb3.size⟩
  have := (Own.own_lt hO hb).1
  have e : b = g := e
  omega
/-- An append whose run is known. -/
theorem operApp {o : Oper} {a : Act} {w : World} {K : Act → World → Prop} {Q : Exit → Act → World → Prop} {s x : Operand} {t : TypeId} (ho : o.op = .call { callee := .builtin .append, args := #[s, x], argTypes := #[t, t] }) {v u v' : Value} {w' : World} (hs : a.eval s = v) (hx : a.eval x = u)
    (hr : (Builtin.append_ #[t, t] o.type #[v, u]).run Tryz.prog w = .ok v' w') (hK : K (a.put o.dst v') w') : o.wp Tryz.prog a w K Q := by
  unfold Oper.wp execOp
  simp only [ho, resolve, invoke, builtin, Sem.run_bind, Sem.run_pure, Result.andThen_ok, List.map_toArray, List.map_cons, List.map_nil, hs, hx, hr]
  exact hK
theorem ints_has {w : World} {g : Nat} {x : Int} (h : Has w g 3 #[.int .i64 x]) (hx : -9223372036854775808 ≤ x ∧ x ≤ 9223372036854775807) : RInts w (some ⟨g, 0, none⟩) 1 1 [x] := by
  refine ⟨rfl, Nat.le_refl _, by omega, fun y hy => by simp at hy; subst hy; exact hx, fun _ => ⟨g, 0, rfl, fun i hi => ?_⟩⟩
  obtain rfl : i = 0 := by omega
  exact h.cell 0


set_option maxRecDepth 100000 in
set_option maxHeartbeats 4000000 in
theorem rren8_any (k : Int) (A : Option Addr) (n c : Nat) (ms : List Int) (A' : Option Addr) (n' c' : Nat) (p : List Int) (w : World) (h : RInts w A n c ms) (h' : RInts w A' n' c' p) (hp : turnedS p = true) (hf : fineS k ms n' = true) (hn : n ≤ 10) :
    Calls Tryz.prog 33 #[.agg #[.int .u8 k, .slice A n c], .slice A' n' c'] w (RRenPost w k (renS k ms p)) := by
  have hl := hide h.len
  have hl' := hide h'.len
  obtain ⟨p1, p2, -⟩ := turned_perm.1 hp
  rw [hl'.out] at p1 p2
  have hck : bcheckS k ms n' = 0 := by unfold bcheckS; rw [if_neg (by omega), if_pos hf]
  obtain ⟨hk, hmr, hm3, -⟩ := marks_of hck
  have HN := hide (names_of hp hl'.out)
  have HP := hide hp
  have HC := hide hck
  have hS0 := ((Hs.nil w).alloc 32 #[.int .u8 k, .slice A n c]).alloc 32 #[.int .u8 0, .slice none 0 0]
  have hb0 := ((Below.refl w.heap.size w).alloc (Nat.le_refl _) (.cells #[.int .u8 k, .slice A n c] 32)).alloc (by simp) (.cells #[.int .u8 0, .slice none 0 0] 32)
  simp only [World.size_alloc] at hS0
  have hz0 : ((w.alloc (.cells #[.int .u8 k, .slice A n c] 32)).alloc (.cells #[.int .u8 0, .slice none 0 0] 32)).heap.size = w.heap.size + 2 := by simp
  go_enter Tryz.func33, Tryz.ntmps33
  go_wp2_with fail
  generalize hW : World.alloc (World.alloc w _) _ = W0 at hS0 hb0 hz0
  try rw [hW]
  clear hW
  refine (rturned_any A' n' c' p W0 (h'.below hb0)).mono ?_
  rintro e w1 ⟨rfl, rfl⟩
  rw [hp]
  have q0 : W0.cell? ⟨w.heap.size, 0, none⟩ = some (.int .u8 k) := hS0.2.1.cell 0
  have q1 : W0.cell? ⟨w.heap.size, 1, none⟩ = some (.slice A n c) := hS0.2.1.cell 1
  go_wp2_with fail
  refine (rfine_any k A n c ms n' W0 (h.below hb0)).mono ?_
  rintro e w1 ⟨rfl, hbw⟩
  rw [hf]
  have hS1 := hS0.below hbw
  have hb1 := Below_trans' hb0 hb0.size hbw
  have hz1 : w.heap.size + 2 ≤ w1.heap.size := by have := hbw.size; omega
  clear hS0 hb0 hbw hz0 q0 q1
  have q0 : w1.cell? ⟨w.heap.size, 0, none⟩ = some (.int .u8 k) := hS1.2.1.cell 0
  have q1 : w1.cell? ⟨w.heap.size, 1, none⟩ = some (.slice A n c) := hS1.2.1.cell 1
  go_upto_region 6 with fail
  have hbw : Below w1.heap.size w1 (w1.alloc (.cells #[.int .u8 k, .slice none 0 0] 32)) := (Below.refl _ _).alloc (Nat.le_refl _) _
  have hR2 : ∀ xs, xs = [] → RenR w w1.heap.size k A n c none 0 0 xs (w1.alloc (.cells #[.int .u8 k, .slice none 0 0] 32)) := fun xs e => by
    subst e
    exact ⟨(hS1.below hbw).2.1, (hS1.below hbw).1, Has.new _ _ _, Own.nil_ _ _, Below_trans' hb1 hb1.size hbw⟩
  generalize hW : World.alloc w1 _ = W2 at hR2
  try rw [hW]
  clear hW hbw hS1 hb1 q0 q1
  generalize w1.heap.size = g at hR2 hz1 ⊢
  have hg2 : w.heap.size + 1 < g := by omega
  have q0 : W2.cell? ⟨w.heap.size, 0, none⟩ = some (.int .u8 k) := (hR2 [] rfl).1.cell 0
  rcases hk with hk | hk | hk
  · have e1 : (k == 1) = true := by simp [hk]
    have HK := hide hk
    have Hmr := hide (hmr (by omega))
    have hR3 := hide (hR2 (rankT ms p 0) (by simp [rankT]))
    clear hk hR2 hmr hm3 hck hp hf
    go_wp2_with fail
    go_loopw [7] (fun i wr => ∃ (t : Nat) (At : Option Addr) (nt ct : Nat), t ≤ n ∧ i = .int .i64 t ∧ RenR w g k A n c At nt ct (rankT ms p t) wr) (fun i _ => n - (intOf i).toNat)
    case atStart => exact ⟨0, none, 0, 0, Nat.zero_le _, rfl, hR3.out⟩
    case round =>
      clear hR3 q0
      obtain ⟨t, At, nt, ct, ht, rfl, hR⟩ := hrel
      have p0 : wr.cell? ⟨w.heap.size, 0, none⟩ = some (.int .u8 k) := hR.1.cell 0
      have p1 : wr.cell? ⟨w.heap.size, 1, none⟩ = some (.slice A n c) := hR.1.cell 1
      have v1 : wr.cell? ⟨g, 1, none⟩ = some (.slice At nt ct) := hR.2.2.1.cell 1
      have fv1 := hR.2.2.1.free 1
      have hb := hR.2.2.2.2
      have hV0 := hR.2.2.1.lt
      by_cases hlt : t < n
      · obtain ⟨b, off, m, rfl, hc, hd, hat, hm1, hm2⟩ := h.step hlt
        have m0 := keep_cell hb hc
        obtain ⟨M, rfl⟩ : ∃ M : Nat, m = (M : Int) := ⟨m.toNat, by have := Hmr.out m (List.mem_of_getElem? hat.out); omega⟩
        have hMn : M < n' := by have := Hmr.out _ (List.mem_of_getElem? hat.out); omega
        obtain ⟨b', off', v, eA, hcp, _, hatp, hv1, hv2⟩ := h'.step hMn
        subst eA
        have n0 := keep_cell hb hcp
        have hnm : Hid (nameS p (M : Int) = v) := hide (by unfold nameS; rw [Int.toNat_natCast]; simp [List.getD, hatp.out])
        have hlr := length_rankT ms p t
        have hnx : Hid (rankT ms p (t + 1) = rankT ms p t ++ [v]) := hide (by rw [rankT_succ hat.out, hnm.out])
        have b1 : (0 : Int) ≤ (t : Int) := by omega
        have b2 : (t : Int) < (n : Int) := by omega
        have b3 : (0 : Int) ≤ (M : Int) := by omega
        have b4 : (M : Int) < (n' : Int) := by omega
        clear hd hatp hat hnm
        go_upto_region 15 with (fail)
        refine wp_region_app 10 (by kernel_rfl) (by kernel_rfl) (by kernel_rfl) (by kernel_rfl) (by kernel_rfl) (fun i => match i with | 0 => .pointer (some ⟨g, 1, none⟩) | 1 => .slice At nt ct | 2 => .slice (some ⟨b', off', none⟩) n' c' | 3 => .pointer (some ⟨w.heap.size, 1, none⟩) | 4 => .slice (some ⟨b, off, none⟩) n c | 5 => .int .i64 (t : Int) | 6 => .pointer (some ⟨b, off + t, none⟩) | 7 => .int .i64 (M : Int) | 8 => .pointer (some ⟨b', off' + M, none⟩) | 9 => .int .i64 v | 12 => .pointer (some ⟨g, 1, none⟩) | _ => undef) (fun w' => Below wr.heap.size wr w') (fun gb w' => Below wr.heap.size wr w' ∧ Has w' gb 3 #[.int .i64 (v)])
          (fun v' w' => ∃ A3 n3 c3, v' = .slice A3 n3 c3 ∧ w'.cell? ⟨g, 1, none⟩ = some (.slice At nt ct) ∧ w'.frozen? ⟨g, 1, none⟩ = false ∧ RenR w g k (some ⟨b, off, none⟩) n c A3 n3 c3 (rankT ms p (t + 1)) (w'.setCell ⟨g, 1, none⟩ (.slice A3 n3 c3)))
          (fun w' => ∃ A3 n3 c3, RenR w g k (some ⟨b, off, none⟩) n c A3 n3 c3 (rankT ms p (t + 1)) w') (Below.refl _ _).drew ?_ ?_ ?_ ?_ ?_ ?_
        · intro i hi o ho a w' hsee hw'
          have hbw' : Below wr.heap.size wr w' := by rcases hw' with h | ⟨_, h, _⟩ <;> exact h
          clear hw'
          have k0 := keep_cell hbw' v1
          have k1 := keep_cell hbw' p1
          have k2 := keep_cell hbw' m0
          have k3 := keep_cell hbw' n0
          rcases (show i = 0 ∨ i = 1 ∨ i = 2 ∨ i = 3 ∨ i = 4 ∨ i = 5 ∨ i = 6 ∨ i = 7 ∨ i = 8 ∨ i = 9 by omega) with rfl | rfl | rfl | rfl | rfl | rfl | rfl | rfl | rfl | rfl
          · have e := (hsee.2 6 (by kernel_rfl)).trans (show _ = Value.pointer (some ⟨g, 0, none⟩) from rfl)
            simp at ho
            subst ho
            refine operRead ?_ ⟨rfl, id, fun _ => id⟩
            unfold execOp
            simp only [e]
            go_simp
          · simp at ho
            subst ho
            have e := hsee.1 0 (by omega) ⟨⟨0, .data⟩, by simp, rfl, rfl⟩ _ rfl (by simp)
            refine operRead ?_ ⟨rfl, id, fun _ => id⟩
            unfold execOp
            simp only [e]
            go_simp
          · have e := (hsee.2 1 (by kernel_rfl)).trans (show _ = Value.slice (some ⟨b', off', none⟩) n' c' from rfl)
            simp at ho
            subst ho
            refine operRead ?_ ⟨rfl, id, fun _ => id⟩
            unfold execOp
            simp only [e]
            go_simp
          · have e := (hsee.2 2 (by kernel_rfl)).trans (show _ = Value.pointer (some ⟨w.heap.size, 0, none⟩) from rfl)
            simp at ho
            subst ho
            refine operRead ?_ ⟨rfl, id, fun _ => id⟩
            unfold execOp
            simp only [e]
            go_simp
          · simp at ho
            subst ho
            have e := hsee.1 3 (by omega) ⟨⟨3, .data⟩, by simp, rfl, rfl⟩ _ rfl (by simp)
            refine operRead ?_ ⟨rfl, id, fun _ => id⟩
            unfold execOp
            simp only [e]
            go_simp
          · have e := (hsee.2 7 (by kernel_rfl)).trans (show _ = Value.int .i64 (t : Int) from rfl)
            simp at ho
            subst ho
            refine operRead ?_ ⟨rfl, id, fun _ => id⟩
            unfold execOp
            simp only [e]
            go_simp
          · simp at ho
            subst ho
            have e := hsee.1 4 (by omega) ⟨⟨4, .data⟩, by simp, rfl, rfl⟩ _ rfl (by simp)
            have e' := hsee.1 5 (by omega) ⟨⟨5, .data⟩, by simp, rfl, rfl⟩ _ rfl (by simp)
            refine operRead ?_ ⟨rfl, id, fun _ => id⟩
            unfold execOp
            simp only [e, e']
            go_simp
          · simp at ho
            subst ho
            have e := hsee.1 6 (by omega) ⟨⟨6, .data⟩, by simp, rfl, rfl⟩ _ rfl (by simp)
            refine operRead ?_ ⟨rfl, id, fun _ => id⟩
            unfold execOp
            simp only [e]
            go_simp
          · simp at ho
            subst ho
            have e := hsee.1 2 (by omega) ⟨⟨2, .data⟩, by simp, rfl, rfl⟩ _ rfl (by simp)
            have e' := hsee.1 7 (by omega) ⟨⟨7, .data⟩, by simp, rfl, rfl⟩ _ rfl (by simp)
            refine operRead ?_ ⟨rfl, id, fun _ => id⟩
            unfold execOp
            simp only [e, e']
            go_simp
          · simp at ho
            subst ho
            have e := hsee.1 8 (by omega) ⟨⟨8, .data⟩, by simp, rfl, rfl⟩ _ rfl (by simp)
            refine operRead ?_ ⟨rfl, id, fun _ => id⟩
            unfold execOp
            simp only [e]
            go_simp
        · intro o ho a w' hsee hbw'
          simp at ho
          subst ho
          have e := hsee.1 9 (by omega) ⟨⟨9, .data⟩, by simp, rfl, rfl⟩ _ rfl (by simp)
          have hbn := hbw'.alloc hbw'.size (.cells #[.int .i64 (v)] 3)
          have hN := Has.new w' 3 #[.int .i64 (v)]
          refine Oper.wp_mono (K := fun a'' w'' => a'' = a.put (some 63) (.slice (some ⟨w'.heap.size, 0, none⟩) 1 1) ∧ w'' = w'.alloc (.cells #[.int .i64 (v)] 3)) ?_ ?_
          · rintro _ _ ⟨rfl, rfl⟩
            exact ⟨_, rfl, hbn, hN⟩
          · clear hbn hN
            unfold Oper.wp execOp
            simp only [e, List.map_toArray, List.map_cons, List.map_nil]
            go_simp
        · intro o ho a w' gb hsee hbox ⟨hbw', hN⟩
          simp at ho
          subst ho
          have e1 := hsee.1 1 (by omega) ⟨⟨1, .data⟩, by simp, rfl, rfl⟩ _ rfl (by simp)
          have e2 := hbox _ rfl (by simp)
          obtain ⟨v4, w4, h41, h42, h43, _⟩ := run_appInts w' 26 (hR.2.2.2.1.below hbw') (ints_has hN ⟨hv1, hv2⟩) (by omega) (Nat.le_trans hV0 hbw'.size)
          refine operApp rfl e1 e2 h41 ⟨_, rfl, ?_⟩
          rw [← hnx.out] at h42
          exact hR.put hg2 hbw' h42 h43
        · intro o ho a w' hsee
          simp at ho
          subst ho
          have e := (hsee.2 6 (by kernel_rfl)).trans (show _ = Value.pointer (some ⟨g, 0, none⟩) from rfl)
          refine operRead ?_ ⟨rfl, rfl⟩
          unfold execOp
          simp only [e]
          go_simp
        · intro o ho a w' v' hv ha ⟨A3, n3, c3, e3, hc, hfz, hR4⟩
          simp at ho
          subst ho
          have e1 := (hv _ rfl (by simp)).trans e3
          have e2 := ha _ rfl (by simp)
          unfold Oper.wp execOp
          simp only [e1, e2]
          go_simp
          first | exact ⟨A3, n3, c3, hR4⟩ | exact ⟨rfl, A3, n3, c3, hR4⟩
        · rintro vs w' ⟨A3, n3, c3, hR4⟩
          rw [putEach_ds [some 53, some 54, some 55, some 56, some 57, some 58, some 59, some 60, some 61, some 62, some 63, some 64, some 65, none] (by kernel_rfl)]
          simp only [putDs, Nat.zero_add, Nat.reduceAdd]
          go_simp
          go_wp2
          go_roundw
          case rel => exact ⟨t + 1, A3, n3, c3, by omega, by go_num, hR4⟩
          case measure => simp [intOf] <;> omega
      · have b2 : ¬ (t : Int) < (n : Int) := by omega
        have hfin : Hid (rankT ms p t = renS k ms p) := hide (by rw [show t = ms.length by have := hl.out; omega, HK.out]; exact rankT_end ms p)
        have v0 : wr.cell? ⟨g, 0, none⟩ = some (.int .u8 k) := hR.2.2.1.cell 0
        have r0 : wr.cell? ⟨w.heap.size + 1, 0, none⟩ = some (.int .u8 0) := hR.2.1.cell 0
        have r1 : wr.cell? ⟨w.heap.size + 1, 1, none⟩ = some (.slice none 0 0) := hR.2.1.cell 1
        have f0 := hR.2.1.free 0
        have f1 := hR.2.1.free 1
        go_wp2
        refine retBal2 rfl rfl rfl (put2 hR.2.1) rfl rfl ⟨At, nt, ct, rfl, ?_, below2 hb (by omega) _ _⟩
        rw [← hfin.out]
        exact (Own.frame hR.2.2.2.1 (frame2 wr (w.heap.size + 1) (.int .u8 k) (.slice At nt ct)) (fun b hb e => by have := (Own.own_lt hR.2.2.2.1 hb).1; have e : b = w.heap.size + 1 := e; omega)).mono (by omega)
  · have e1 : (k == 1) = false := by simp [hk]
    have e2 : (k == 2) = true := by simp [hk]
    have HK := hide hk
    have hR3 := hide (hR2 (setT ms p 0) (by simp [setT, rangeI]))
    clear hk hR2 hmr hm3 hck hp hf
    go_wp2_with fail
    go_loopw [8] (fun i wr => ∃ (t : Nat) (At : Option Addr) (nt ct : Nat), t ≤ n' ∧ i = .int .i64 t ∧ RenR w g k A n c At nt ct (setT ms p t) wr) (fun i _ => n' - (intOf i).toNat)
    case atStart => exact ⟨0, none, 0, 0, Nat.zero_le _, rfl, hR3.out⟩
    case round =>
      clear hR3 q0
      obtain ⟨t, At, nt, ct, ht, rfl, hR⟩ := hrel
      have p0 : wr.cell? ⟨w.heap.size, 0, none⟩ = some (.int .u8 k) := hR.1.cell 0
      have p1 : wr.cell? ⟨w.heap.size, 1, none⟩ = some (.slice A n c) := hR.1.cell 1
      have v1 : wr.cell? ⟨g, 1, none⟩ = some (.slice At nt ct) := hR.2.2.1.cell 1
      have fv1 := hR.2.2.1.free 1
      have hb := hR.2.2.2.2
      have hV0 := hR.2.2.1.lt
      by_cases hlt : t < n'
      · have b1 : (0 : Int) ≤ (t : Int) := by omega
        have b2 : (t : Int) < (n' : Int) := by omega
        obtain ⟨j, hj⟩ : ∃ j, placeS p (t : Int) 0 = j := ⟨_, rfl⟩
        obtain ⟨z, hzj⟩ : ∃ z, placeS ms j 0 = z := ⟨_, rfl⟩
        have HJ := hide hj
        have HZ := hide hzj
        clear hj hzj
        go_wp2_with fail
        refine (place_any A' n' c' p (t : Int) _ (h'.below hb)).mono ?_
        rintro e w4 ⟨rfl, rfl⟩
        rw [HJ.out]
        go_wp2_with fail
        refine (place_any A n c ms j _ (h.below hb)).mono ?_
        rintro e w4 ⟨rfl, rfl⟩
        rw [HZ.out]
        by_cases hz0 : 0 ≤ z
        · have hlr := length_setT ms p t
          have hnx : Hid (setT ms p (t + 1) = setT ms p t ++ [(t : Int)]) := hide (setT_in (by rw [HJ.out, HZ.out]; exact hz0))
          have hO1 := hR.2.2.2.1.below ((Below.refl _ _).alloc (Nat.le_refl _) (.cells #[.int .i64 (t : Int)] 3))
          have HR := hide hR
          go_wp2_with (at_builtin; refine appInt rfl rfl rfl hO1 rfl ((Has.new _ _ _).cell 0) (by omega) (by simp; omega) ?_)
          intro v' w3 hO3 hg3
          obtain ⟨A3, n3, c3, rfl, v13, f13, hR4⟩ := HR.out.put hg2 ((Below.refl _ _).alloc (Nat.le_refl _) _) hO3 hg3
          rw [← hnx.out] at hR4
          clear hR hO1 hO3 hg3 p0 p1 v1 fv1
          go_wp2
          go_roundw
          case rel => exact ⟨t + 1, A3, n3, c3, by omega, by go_num, hR4⟩
          case measure => simp [intOf] <;> omega
        · have hnx : Hid (setT ms p (t + 1) = setT ms p t) := hide (setT_out (by rw [HJ.out, HZ.out]; exact hz0))
          rw [← hnx.out] at hR
          go_wp2
          go_roundw
          case rel => exact ⟨t + 1, At, nt, ct, by omega, by go_num, hR⟩
          case measure => simp [intOf] <;> omega
      · have b2 : ¬ (t : Int) < (n' : Int) := by omega
        have hfin : Hid (setT ms p t = renS k ms p) := hide (by rw [show t = n' by omega, HK.out]; exact setT_end HP.out hl'.out (by rw [← HK.out]; exact HC.out))
        have v0 : wr.cell? ⟨g, 0, none⟩ = some (.int .u8 k) := hR.2.2.1.cell 0
        have r0 : wr.cell? ⟨w.heap.size + 1, 0, none⟩ = some (.int .u8 0) := hR.2.1.cell 0
        have r1 : wr.cell? ⟨w.heap.size + 1, 1, none⟩ = some (.slice none 0 0) := hR.2.1.cell 1
        have f0 := hR.2.1.free 0
        have f1 := hR.2.1.free 1
        go_wp2
        refine retBal2 rfl rfl rfl (put2 hR.2.1) rfl rfl ⟨At, nt, ct, rfl, ?_, below2 hb (by omega) _ _⟩
        rw [← hfin.out]
        exact (Own.frame hR.2.2.2.1 (frame2 wr (w.heap.size + 1) (.int .u8 k) (.slice At nt ct)) (fun b hb e => by have := (Own.own_lt hR.2.2.2.1 hb).1; have e : b = w.heap.size + 1 := e; omega)).mono (by omega)
  · have e1 : (k == 1) = false := by simp [hk]
    have e2 : (k == 2) = false := by simp [hk]
    have HK := hide hk
    have Hm3 := hide (hm3 hk)
    have HNN : Hid (n = n') := hide (by have := Hm3.out; have := hl.out; omega)
    have hR3 := hide (hR2 (scoreT ms p 0) (by simp [scoreT, rangeI]))
    clear hk hR2 hmr hm3 hck hp hf
    go_wp2_with fail
    go_loopw [10] (fun i wr => ∃ (t : Nat) (At : Option Addr) (nt ct : Nat), t ≤ n' ∧ i = .int .i64 t ∧ RenR w g k A n c At nt ct (scoreT ms p t) wr) (fun i _ => n' - (intOf i).toNat)
    case atStart => exact ⟨0, none, 0, 0, Nat.zero_le _, rfl, hR3.out⟩
    case round =>
      clear hR3 q0
      obtain ⟨t, At, nt, ct, ht, rfl, hR⟩ := hrel
      have p0 : wr.cell? ⟨w.heap.size, 0, none⟩ = some (.int .u8 k) := hR.1.cell 0
      have p1 : wr.cell? ⟨w.heap.size, 1, none⟩ = some (.slice A n c) := hR.1.cell 1
      have v1 : wr.cell? ⟨g, 1, none⟩ = some (.slice At nt ct) := hR.2.2.1.cell 1
      have fv1 := hR.2.2.1.free 1
      have hb := hR.2.2.2.2
      have hV0 := hR.2.2.1.lt
      by_cases hlt : t < n'
      · obtain ⟨j, hj, hpj⟩ : ∃ j : Nat, j < n ∧ placeS p (t : Int) 0 = (j : Int) := by
          obtain ⟨j, hj, _, hx⟩ := name_onto HP.out hl'.out hlt
          have hp := place_name HN.out hj
          rw [hx] at hp
          exact ⟨j, by have := HNN.out; omega, hp⟩
        obtain ⟨b, off, m, rfl, hc, hd, hat, hm1, hm2⟩ := h.step hj
        have m0 := keep_cell hb hc
        have hlr := length_scoreT ms p t
        have hnx : Hid (scoreT ms p (t + 1) = scoreT ms p t ++ [m]) := hide (by rw [scoreT_succ, hpj, Int.toNat_natCast]; simp [List.getD, hat.out])
        have HJ := hide hpj
        have b1 : (0 : Int) ≤ (t : Int) := by omega
        have b2 : (t : Int) < (n' : Int) := by omega
        have b3 : (0 : Int) ≤ (j : Int) := by omega
        have b4 : (j : Int) < (n : Int) := by omega
        have hpz : RInts wr.drew A' n' c' p := h'.below hb.drew
        clear hd hat hpj
        go_upto_region 10 with (fail)
        refine wp_region_app 9 (by kernel_rfl) (by kernel_rfl) (by kernel_rfl) (by kernel_rfl) (by kernel_rfl) (fun i => match i with | 0 => .pointer (some ⟨g, 1, none⟩) | 1 => .slice At nt ct | 2 => .pointer (some ⟨w.heap.size, 1, none⟩) | 3 => .slice (some ⟨b, off, none⟩) n c | 4 => .slice A' n' c' | 5 => .int .i64 (t : Int) | 6 => .int .i64 (j : Int) | 7 => .pointer (some ⟨b, off + j, none⟩) | 8 => .int .i64 m | 11 => .pointer (some ⟨g, 1, none⟩) | _ => undef) (fun w' => Below wr.heap.size wr w') (fun gb w' => Below wr.heap.size wr w' ∧ Has w' gb 3 #[.int .i64 (m)])
          (fun v' w' => ∃ A3 n3 c3, v' = .slice A3 n3 c3 ∧ w'.cell? ⟨g, 1, none⟩ = some (.slice At nt ct) ∧ w'.frozen? ⟨g, 1, none⟩ = false ∧ RenR w g k (some ⟨b, off, none⟩) n c A3 n3 c3 (scoreT ms p (t + 1)) (w'.setCell ⟨g, 1, none⟩ (.slice A3 n3 c3)))
          (fun w' => ∃ A3 n3 c3, RenR w g k (some ⟨b, off, none⟩) n c A3 n3 c3 (scoreT ms p (t + 1)) w') (Below.refl _ _).drew ?_ ?_ ?_ ?_ ?_ ?_
        · intro i hi o ho a w' hsee hw'
          have hbw' : Below wr.heap.size wr w' := by rcases hw' with h | ⟨_, h, _⟩ <;> exact h
          clear hw'
          have k0 := keep_cell hbw' v1
          have k1 := keep_cell hbw' p1
          have k2 := keep_cell hbw' m0
          rcases (show i = 0 ∨ i = 1 ∨ i = 2 ∨ i = 3 ∨ i = 4 ∨ i = 5 ∨ i = 6 ∨ i = 7 ∨ i = 8 by omega) with rfl | rfl | rfl | rfl | rfl | rfl | rfl | rfl | rfl
          · have e := (hsee.2 6 (by kernel_rfl)).trans (show _ = Value.pointer (some ⟨g, 0, none⟩) from rfl)
            simp at ho
            subst ho
            refine operRead ?_ ⟨rfl, id, fun _ => id⟩
            unfold execOp
            simp only [e]
            go_simp
          · simp at ho
            subst ho
            have e := hsee.1 0 (by omega) ⟨⟨0, .data⟩, by simp, rfl, rfl⟩ _ rfl (by simp)
            refine operRead ?_ ⟨rfl, id, fun _ => id⟩
            unfold execOp
            simp only [e]
            go_simp
          · have e := (hsee.2 2 (by kernel_rfl)).trans (show _ = Value.pointer (some ⟨w.heap.size, 0, none⟩) from rfl)
            simp at ho
            subst ho
            refine operRead ?_ ⟨rfl, id, fun _ => id⟩
            unfold execOp
            simp only [e]
            go_simp
          · simp at ho
            subst ho
            have e := hsee.1 2 (by omega) ⟨⟨2, .data⟩, by simp, rfl, rfl⟩ _ rfl (by simp)
            refine operRead ?_ ⟨rfl, id, fun _ => id⟩
            unfold execOp
            simp only [e]
            go_simp
          · have e := (hsee.2 1 (by kernel_rfl)).trans (show _ = Value.slice A' n' c' from rfl)
            simp at ho
            subst ho
            refine operRead ?_ ⟨rfl, id, fun _ => id⟩
            unfold execOp
            simp only [e]
            go_simp
          · have e := (hsee.2 10 (by kernel_rfl)).trans (show _ = Value.int .i64 (t : Int) from rfl)
            simp at ho
            subst ho
            refine operRead ?_ ⟨rfl, id, fun _ => id⟩
            unfold execOp
            simp only [e]
            go_simp
          · simp at ho
            subst ho
            have e := hsee.1 4 (by omega) ⟨⟨4, .data⟩, by simp, rfl, rfl⟩ _ rfl (by simp)
            have e' := hsee.1 5 (by omega) ⟨⟨5, .data⟩, by simp, rfl, rfl⟩ _ rfl (by simp)
            refine operCall2 rfl e e' (call_in Tryz.func62 (by kernel_rfl) rfl) ((place_any A' n' c' p (t : Int) _ (h'.below (Below_trans' hb hb.size hbw'))).mono ?_)
            rintro e w'' ⟨rfl, rfl⟩
            rw [HJ.out]
            exact ⟨_, rfl, rfl, id, fun _ => id⟩
          · simp at ho
            subst ho
            have e := hsee.1 3 (by omega) ⟨⟨3, .data⟩, by simp, rfl, rfl⟩ _ rfl (by simp)
            have e' := hsee.1 6 (by omega) ⟨⟨6, .data⟩, by simp, rfl, rfl⟩ _ rfl (by simp)
            refine operRead ?_ ⟨rfl, id, fun _ => id⟩
            unfold execOp
            simp only [e, e']
            go_simp
          · simp at ho
            subst ho
            have e := hsee.1 7 (by omega) ⟨⟨7, .data⟩, by simp, rfl, rfl⟩ _ rfl (by simp)
            refine operRead ?_ ⟨rfl, id, fun _ => id⟩
            unfold execOp
            simp only [e]
            go_simp
        · intro o ho a w' hsee hbw'
          simp at ho
          subst ho
          have e := hsee.1 8 (by omega) ⟨⟨8, .data⟩, by simp, rfl, rfl⟩ _ rfl (by simp)
          have hbn := hbw'.alloc hbw'.size (.cells #[.int .i64 (m)] 3)
          have hN := Has.new w' 3 #[.int .i64 (m)]
          refine Oper.wp_mono (K := fun a'' w'' => a'' = a.put (some 41) (.slice (some ⟨w'.heap.size, 0, none⟩) 1 1) ∧ w'' = w'.alloc (.cells #[.int .i64 (m)] 3)) ?_ ?_
          · rintro _ _ ⟨rfl, rfl⟩
            exact ⟨_, rfl, hbn, hN⟩
          · clear hbn hN
            unfold Oper.wp execOp
            simp only [e, List.map_toArray, List.map_cons, List.map_nil]
            go_simp
        · intro o ho a w' gb hsee hbox ⟨hbw', hN⟩
          simp at ho
          subst ho
          have e1 := hsee.1 1 (by omega) ⟨⟨1, .data⟩, by simp, rfl, rfl⟩ _ rfl (by simp)
          have e2 := hbox _ rfl (by simp)
          obtain ⟨v4, w4, h41, h42, h43, _⟩ := run_appInts w' 26 (hR.2.2.2.1.below hbw') (ints_has hN ⟨hm1, hm2⟩) (by omega) (Nat.le_trans hV0 hbw'.size)
          refine operApp rfl e1 e2 h41 ⟨_, rfl, ?_⟩
          rw [← hnx.out] at h42
          exact hR.put hg2 hbw' h42 h43
        · intro o ho a w' hsee
          simp at ho
          subst ho
          have e := (hsee.2 6 (by kernel_rfl)).trans (show _ = Value.pointer (some ⟨g, 0, none⟩) from rfl)
          refine operRead ?_ ⟨rfl, rfl⟩
          unfold execOp
          simp only [e]
          go_simp
        · intro o ho a w' v' hv ha ⟨A3, n3, c3, e3, hc, hfz, hR4⟩
          simp at ho
          subst ho
          have e1 := (hv _ rfl (by simp)).trans e3
          have e2 := ha _ rfl (by simp)
          unfold Oper.wp execOp
          simp only [e1, e2]
          go_simp
          first | exact ⟨A3, n3, c3, hR4⟩ | exact ⟨rfl, A3, n3, c3, hR4⟩
        · rintro vs w' ⟨A3, n3, c3, hR4⟩
          rw [putEach_ds [some 32, some 33, some 34, some 35, some 36, some 37, some 38, some 39, some 40, some 41, some 42, some 43, none] (by kernel_rfl)]
          simp only [putDs, Nat.zero_add, Nat.reduceAdd]
          go_simp
          go_wp2
          go_roundw
          case rel => exact ⟨t + 1, A3, n3, c3, by omega, by go_num, hR4⟩
          case measure => simp [intOf] <;> omega
      · have b2 : ¬ (t : Int) < (n' : Int) := by omega
        have hfin : Hid (scoreT ms p t = renS k ms p) := hide (by rw [show t = n' by omega, HK.out]; exact scoreT_end HP.out hl'.out Hm3.out)
        have v0 : wr.cell? ⟨g, 0, none⟩ = some (.int .u8 k) := hR.2.2.1.cell 0
        have r0 : wr.cell? ⟨w.heap.size + 1, 0, none⟩ = some (.int .u8 0) := hR.2.1.cell 0
        have r1 : wr.cell? ⟨w.heap.size + 1, 1, none⟩ = some (.slice none 0 0) := hR.2.1.cell 1
        have f0 := hR.2.1.free 0
        have f1 := hR.2.1.free 1
        go_wp2
        refine retBal2 rfl rfl rfl (put2 hR.2.1) rfl rfl ⟨At, nt, ct, rfl, ?_, below2 hb (by omega) _ _⟩
        rw [← hfin.out]
        exact (Own.frame hR.2.2.2.1 (frame2 wr (w.heap.size + 1) (.int .u8 k) (.slice At nt ct)) (fun b hb e => by have := (Own.own_lt hR.2.2.2.1 hb).1; have e : b = w.heap.size + 1 := e; omega)).mono (by omega)
end Go.Proofs.YtleniljhacnikaaGreat
