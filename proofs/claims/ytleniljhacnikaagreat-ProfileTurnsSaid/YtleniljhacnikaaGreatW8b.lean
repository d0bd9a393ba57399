/-
  The layer ballot: fine, Check; the reference: Fine, Check.
-/
import Derived.Test.YtleniljhacnikaaGreatW8a
namespace Go.Proofs.YtleniljhacnikaaGreat
open Go.RowKit Go.Proofs
attribute [local go_sem] cell?_more cell?_alloc_some

theorem nodup_take_succ {xs : List Int} {k : Nat} {v : Int} (h : xs[k]? = some v) : (xs.take (k + 1)).Nodup ↔ (xs.take k).Nodup ∧ v ∉ xs.take k := by
  rw [List.take_add_one, h]
  simp only [Option.toList_some, List.nodup_append]
  constructor
  · rintro ⟨h1, _, h3⟩
    exact ⟨h1, fun hm => h3 v hm v (by simp) rfl⟩
  · rintro ⟨h1, h2⟩
    exact ⟨h1, by simp, fun a ha b hb e => by simp at hb; subst hb; subst e; exact h2 ha⟩

theorem nodup_take {xs : List Int} (h : xs.Nodup) (k : Nat) : (xs.take k).Nodup := h.sublist (List.take_sublist k xs)

/-- The variable 'seen': which of 0 .. 9 are among the numbers l. -/
def Seen (C : Array Value) (l : List Int) : Prop := C.size = 10 ∧ ∀ j : Nat, j < 10 → C[j]? = some (.bool (decide ((j : Int) ∈ l)))

theorem Seen_new : Seen #[.bool false, .bool false, .bool false, .bool false, .bool false, .bool false, .bool false, .bool false, .bool false, .bool false] [] :=
  ⟨rfl, fun j hj => by
    have : j = 0 ∨ j = 1 ∨ j = 2 ∨ j = 3 ∨ j = 4 ∨ j = 5 ∨ j = 6 ∨ j = 7 ∨ j = 8 ∨ j = 9 := by omega
    rcases this with rfl | rfl | rfl | rfl | rfl | rfl | rfl | rfl | rfl | rfl <;> rfl⟩
theorem Seen.put {C : Array Value} {l : List Int} (h : Seen C l) {v : Int} (h0 : 0 ≤ v) : Seen (C.setIfInBounds v.toNat (.bool true)) (l ++ [v]) := by
  refine ⟨by simp [h.1], fun j hj => ?_⟩
  by_cases e : v.toNat = j
  · subst e
    rw [Array.getElem?_setIfInBounds_self_of_lt (by rw [h.1]; exact hj)]
    simp [Int.toNat_of_nonneg h0]
  · rw [Array.getElem?_setIfInBounds_ne e, h.2 j hj]
    have : ¬ (j : Int) = v := by omega
    simp [this]

theorem fineS_2 (ms : List Int) (cs : Int) : fineS 2 ms cs = (ms.all (fun x => inR 0 cs x) && sortedB ms && nodupB ms) := by simp [fineS]
theorem fineS_1 (ms : List Int) (cs : Int) : fineS 1 ms cs = (ms.all (fun x => inR 0 cs x) && nodupB ms) := by simp [fineS]


set_option maxHeartbeats 400000 in
theorem fine_any (k : Int) (A : Option Addr) (n c : Nat) (ms : List Int) (cs : Int) (w : World) (h : RInts w A n c ms) (hcs : cs ≤ 10) :
    Calls Tryz.prog 60 #[.agg #[.int .u8 k, .slice A n c], .int .i64 cs] w fun e w' => e = .returned (.bool (fineS k ms cs)) ∧ Below w.heap.size w w' := by
  have hn := h.le
  have hl := h.len
  by_cases h3 : k = 3
  · subst h3
    go_enter Tryz.func60, Tryz.ntmps60
    go_wp2
    go_loop [13] (fun i => ∃ j : Nat, j ≤ n ∧ i = .int .i64 j ∧ Hid (ms.all (fun x => inR 0 11 x) = (ms.drop j).all (fun x => inR 0 11 x))) (fun i => n - (intOf i).toNat)
    case atStart => exact ⟨0, Nat.zero_le _, rfl, by simp [Hid]⟩
    case round =>
      obtain ⟨j, hj, rfl, hp⟩ := hrel
      by_cases hlt : j < n
      · obtain ⟨b, off, v, rfl, hc, hd, _⟩ := h.step hlt
        by_cases hv : inR 0 11 v = true
        · go_wp2_with (go_at_call 52; refine (within8 _ _ _ _).mono ?_; rintro e w' ⟨rfl, rfl⟩)
          go_round
          case rel => exact ⟨j + 1, by omega, by go_num, by unfold Hid; rw [hp.out, hd.out]; simp [hv]⟩
          case measure => simp [intOf] <;> omega
        · have hv' : inR 0 11 v = false := by simpa using hv
          go_wp2_with (go_at_call 52; refine (within8 _ _ _ _).mono ?_; rintro e w' ⟨rfl, rfl⟩)
          go_ret
          exact ⟨ret_b (by unfold fineS; rw [if_pos rfl, hp.out, hd.out]; simp [hv']), (Below.refl _ _).alloc (Nat.le_refl _) _⟩
      · have hd := hide (h.done hlt)
        by_cases hz : (n : Int) = cs
        · have hz' : ((n : Int) == cs) = true := by simpa using hz
          go_wp2
          go_ret
          exact ⟨ret_b (by unfold fineS; rw [if_pos rfl, hp.out, hd.out]; simp [hl, hz]), (Below.refl _ _).alloc (Nat.le_refl _) _⟩
        · have hz' : ((n : Int) == cs) = false := by simpa using hz
          go_wp2
          go_ret
          exact ⟨ret_b (by unfold fineS; rw [if_pos rfl, hp.out, hd.out]; simp [hl, hz]), (Below.refl _ _).alloc (Nat.le_refl _) _⟩
  · by_cases h2 : k = 2
    · subst h2
      go_enter Tryz.func60, Tryz.ntmps60
      go_wp2
      go_loop [13] (fun i => ∃ j : Nat, j ≤ n ∧ i = .int .i64 j ∧ Hid (ms.all (fun x => inR 0 cs x) = (ms.drop j).all (fun x => inR 0 cs x))) (fun i => n - (intOf i).toNat)
      case atStart => exact ⟨0, Nat.zero_le _, rfl, by simp [Hid]⟩
      obtain ⟨j, hj, rfl, hp⟩ := hrel
      by_cases hlt : j < n
      · obtain ⟨b, off, v, rfl, hc, hd, _⟩ := h.step hlt
        by_cases hv : inR 0 cs v = true
        · go_wp2_with (go_at_call 52; refine (within8 _ _ _ _).mono ?_; rintro e w' ⟨rfl, rfl⟩)
          go_round
          case rel => exact ⟨j + 1, by omega, by go_num, by unfold Hid; rw [hp.out, hd.out]; simp [hv]⟩
          case measure => simp [intOf] <;> omega
        · have hv' : inR 0 cs v = false := by simpa using hv
          go_wp2_with (go_at_call 52; refine (within8 _ _ _ _).mono ?_; rintro e w' ⟨rfl, rfl⟩)
          go_ret
          exact ⟨ret_b (by rw [fineS_2]; try (rw [hp.out, hd.out]; simp [hv'])), (Below.refl _ _).alloc (Nat.le_refl _) _⟩
      have hall : Hid (ms.all (fun x => inR 0 cs x) = true) := by unfold Hid; rw [hp.out, h.done hlt]; rfl
      obtain rfl : j = n := by omega
      clear hp hlt hj
      by_cases hso : sortedB ms = true
      · have Hso := hide hso
        clear hso
        go_wp2_with (go_at_call 74; refine (isSorted_any _ _ _ ms _ (h.below ((Below.refl _ _).alloc (Nat.le_refl _) _))).mono ?_; rintro e w1 ⟨he, hb1⟩; rw [Hso.out] at he; subst he; have hc1 := keepc hb1)
        have hz : w.heap.size ≤ w1.heap.size := by have := hb1.size; simp at this; omega
        go_loopw [57] (fun i wr => ∃ (t : Nat) (C : Array Value), t ≤ j ∧ i = .int .i64 t ∧ Has wr (w1.heap.size) 92 C ∧ Seen C (ms.take t) ∧ Hid ((ms.take t).Nodup) ∧ Below w.heap.size w wr) (fun i _ => j - (intOf i).toNat)
        case atStart => exact ⟨0, _, Nat.zero_le _, rfl, Has.new _ _ _, by simpa using Seen_new, by simp [Hid], (((Below.refl _ _).alloc (Nat.le_refl _) _).trans (hb1.mono (by simp))).alloc (by have := hb1.size; simp at this; omega) _⟩
        case round =>
          obtain ⟨t, C, ht, rfl, hC, hS, hno, hb⟩ := hrel
          by_cases hlt : t < j
          · obtain ⟨b, off, v, rfl, hc, hd, hat, _⟩ := (h.below hb).step hlt
            have hv := inR_iff.1 (List.all_eq_true.1 hall.out v (List.mem_of_getElem? hat.out))
            have v0 : 0 ≤ v := hv.1
            have v1 : v < 10 := by omega
            have hfr := hC.free v.toNat
            have hcell := (hC.cell v.toNat).trans (hS.2 v.toNat (by omega))
            rw [Int.toNat_of_nonneg v0] at hcell
            by_cases hm : v ∈ ms.take t
            · have hm' := hide hm
              simp only [hm, decide_true] at hcell
              clear hm
              go_wp2
              go_ret
              refine ⟨ret_b ?_, hb⟩
              have : nodupB ms = false := decide_eq_false fun hh => ((nodup_take_succ hat.out).1 (nodup_take hh _)).2 hm'.out
              rw [fineS_2]; simp [this]
            · have hm' := hide hm
              simp only [hm, decide_false] at hcell
              clear hm
              go_wp2
              go_roundw
              case rel =>
                refine ⟨t + 1, _, by omega, by go_num, hC.put _ _, ?_, (nodup_take_succ hat.out).2 ⟨hno.out, hm'.out⟩, hb.setCell (by show w.heap.size ≤ w1.heap.size; omega) _⟩
                rw [List.take_add_one, hat.out]
                exact hS.put v0
              case measure => simp [intOf] <;> omega
          · obtain rfl : t = j := by omega
            go_wp2
            go_ret
            refine ⟨ret_b ?_, hb⟩
            have hno' := hno.out
            rw [List.take_of_length_le (by omega)] at hno'
            rw [fineS_2]; simp [hall.out, nodupB, hno', Hso.out]
      · have hso' : sortedB ms = false := by simpa using hso
        go_wp2_with (go_at_call 74; refine (isSorted_any _ _ _ ms _ (h.below ((Below.refl _ _).alloc (Nat.le_refl _) _))).mono ?_; rintro e w1 ⟨rfl, hb1⟩)
        go_ret
        exact ⟨ret_b (by rw [fineS_2]; simp [hso']), ((Below.refl _ _).alloc (Nat.le_refl _) _).trans (hb1.mono (by simp))⟩
    · by_cases h1 : k = 1
      · subst h1
        go_enter Tryz.func60, Tryz.ntmps60
        go_wp2
        go_loop [13] (fun i => ∃ j : Nat, j ≤ n ∧ i = .int .i64 j ∧ Hid (ms.all (fun x => inR 0 cs x) = (ms.drop j).all (fun x => inR 0 cs x))) (fun i => n - (intOf i).toNat)
        case atStart => exact ⟨0, Nat.zero_le _, rfl, by simp [Hid]⟩
        obtain ⟨j, hj, rfl, hp⟩ := hrel
        by_cases hlt : j < n
        · obtain ⟨b, off, v, rfl, hc, hd, _⟩ := h.step hlt
          by_cases hv : inR 0 cs v = true
          · go_wp2_with (go_at_call 52; refine (within8 _ _ _ _).mono ?_; rintro e w' ⟨rfl, rfl⟩)
            go_round
            case rel => exact ⟨j + 1, by omega, by go_num, by unfold Hid; rw [hp.out, hd.out]; simp [hv]⟩
            case measure => simp [intOf] <;> omega
          · have hv' : inR 0 cs v = false := by simpa using hv
            go_wp2_with (go_at_call 52; refine (within8 _ _ _ _).mono ?_; rintro e w' ⟨rfl, rfl⟩)
            go_ret
            exact ⟨ret_b (by rw [fineS_1]; try (rw [hp.out, hd.out]; simp [hv'])), (Below.refl _ _).alloc (Nat.le_refl _) _⟩
        have hall : Hid (ms.all (fun x => inR 0 cs x) = true) := by unfold Hid; rw [hp.out, h.done hlt]; rfl
        obtain rfl : j = n := by omega
        clear hp hlt hj
        go_wp2
        go_loopw [57] (fun i wr => ∃ (t : Nat) (C : Array Value), t ≤ j ∧ i = .int .i64 t ∧ Has wr (w.heap.size + 1) 92 C ∧ Seen C (ms.take t) ∧ Hid ((ms.take t).Nodup) ∧ Below w.heap.size w wr) (fun i _ => j - (intOf i).toNat)
        case atStart => exact ⟨0, _, Nat.zero_le _, rfl, Has.new2 _ _ _ _, by simpa using Seen_new, by simp [Hid], ((Below.refl _ _).alloc (Nat.le_refl _) _).alloc (by simp) _⟩
        case round =>
          obtain ⟨t, C, ht, rfl, hC, hS, hno, hb⟩ := hrel
          by_cases hlt : t < j
          · obtain ⟨b, off, v, rfl, hc, hd, hat, _⟩ := (h.below hb).step hlt
            have hv := inR_iff.1 (List.all_eq_true.1 hall.out v (List.mem_of_getElem? hat.out))
            have v0 : 0 ≤ v := hv.1
            have v1 : v < 10 := by omega
            have hfr := hC.free v.toNat
            have hcell := (hC.cell v.toNat).trans (hS.2 v.toNat (by omega))
            rw [Int.toNat_of_nonneg v0] at hcell
            by_cases hm : v ∈ ms.take t
            · have hm' := hide hm
              simp only [hm, decide_true] at hcell
              clear hm
              go_wp2
              go_ret
              refine ⟨ret_b ?_, hb⟩
              have : nodupB ms = false := decide_eq_false fun hh => ((nodup_take_succ hat.out).1 (nodup_take hh _)).2 hm'.out
              rw [fineS_1]; simp [this]
            · have hm' := hide hm
              simp only [hm, decide_false] at hcell
              clear hm
              go_wp2
              go_roundw
              case rel =>
                refine ⟨t + 1, _, by omega, by go_num, hC.put _ _, ?_, (nodup_take_succ hat.out).2 ⟨hno.out, hm'.out⟩, hb.setCell (by show w.heap.size ≤ w.heap.size + 1; omega) _⟩
                rw [List.take_add_one, hat.out]
                exact hS.put v0
              case measure => simp [intOf] <;> omega
          · obtain rfl : t = j := by omega
            go_wp2
            go_ret
            refine ⟨ret_b ?_, hb⟩
            have hno' := hno.out
            rw [List.take_of_length_le (by omega)] at hno'
            rw [fineS_1]; simp [hall.out, nodupB, hno']
      · have hf : Hid (fineS k ms cs = false) := by simp [Hid, fineS, h1, h2, h3]
        have k1 : (k == 1) = false := by simpa using h1
        have k2 : (k == 2) = false := by simpa using h2
        have k3 : (k == 3) = false := by simpa using h3
        have k4 : (k != 3) = true := by simpa using h3
        go_enter Tryz.func60, Tryz.ntmps60
        go_wp2
        go_loop [13] (fun i => ∃ j : Nat, j ≤ n ∧ i = .int .i64 j ∧ Hid (ms.all (fun x => inR 0 cs x) = (ms.drop j).all (fun x => inR 0 cs x))) (fun i => n - (intOf i).toNat)
        case atStart => exact ⟨0, Nat.zero_le _, rfl, by simp [Hid]⟩
        obtain ⟨j, hj, rfl, hp⟩ := hrel
        by_cases hlt : j < n
        · obtain ⟨b, off, v, rfl, hc, hd, _⟩ := h.step hlt
          by_cases hv : inR 0 cs v = true
          · go_wp2_with (go_at_call 52; refine (within8 _ _ _ _).mono ?_; rintro e w' ⟨rfl, rfl⟩)
            go_round
            case rel => exact ⟨j + 1, by omega, by go_num, by unfold Hid; rw [hp.out, hd.out]; simp [hv]⟩
            case measure => simp [intOf] <;> omega
          · have hv' : inR 0 cs v = false := by simpa using hv
            go_wp2_with (go_at_call 52; refine (within8 _ _ _ _).mono ?_; rintro e w' ⟨rfl, rfl⟩)
            go_ret
            exact ⟨ret_b (by rw [hf.out]; try (rw [hp.out, hd.out]; simp [hv'])), (Below.refl _ _).alloc (Nat.le_refl _) _⟩
        have hall : Hid (ms.all (fun x => inR 0 cs x) = true) := by unfold Hid; rw [hp.out, h.done hlt]; rfl
        obtain rfl : j = n := by omega
        clear hp hlt hj
        go_wp2
        go_ret
        exact ⟨ret_b (by rw [hf.out]), (Below.refl _ _).alloc (Nat.le_refl _) _⟩

theorem bcheck_any (k : Int) (A : Option Addr) (n c : Nat) (ms : List Int) (cs : Int) (w : World) (h : RInts w A n c ms) :
    Calls Tryz.prog 49 #[.agg #[.int .u8 k, .slice A n c], .int .i64 cs] w fun e w' => e = .returned (.int .i64 (bcheckS k ms cs)) ∧ Below w.heap.size w w' := by
  have hb0 := (Below.refl w.heap.size w).alloc (Nat.le_refl _) (.cells #[.int .u8 k, .slice A n c] 32)
  by_cases hc : inR 1 11 cs = true
  · have hc' := inR_iff.1 hc
    have Hc := hide hc
    clear hc
    by_cases hf : fineS k ms cs = true
    · have Hf := hide hf
      clear hf
      go_enter Tryz.func49, Tryz.ntmps49
      go_wp2_with (first
        | (go_at_call 52; refine (within8 _ _ _ _).mono ?_; rintro e w' ⟨he, rfl⟩; rw [Hc.out] at he; subst he)
        | (go_at_call 60; refine (fine_any _ _ _ _ ms _ _ (h.below hb0) (by omega)).mono ?_; rintro e w1 ⟨he, hb1⟩; rw [Hf.out] at he; subst he))
      go_ret
      exact ⟨ret_i (by rw [bcheckS, if_neg (by omega), if_pos Hf.out]), hb0.trans (hb1.mono (by simp))⟩
    · have hf' : fineS k ms cs = false := by simpa using hf
      have Hf := hide hf'
      clear hf hf'
      go_enter Tryz.func49, Tryz.ntmps49
      go_wp2_with (first
        | (go_at_call 52; refine (within8 _ _ _ _).mono ?_; rintro e w' ⟨he, rfl⟩; rw [Hc.out] at he; subst he)
        | (go_at_call 60; refine (fine_any _ _ _ _ ms _ _ (h.below hb0) (by omega)).mono ?_; rintro e w1 ⟨he, hb1⟩; rw [Hf.out] at he; subst he))
      go_ret
      exact ⟨ret_i (by rw [bcheckS, if_neg (by omega), if_neg (by rw [Hf.out]; simp)]), hb0.trans (hb1.mono (by simp))⟩
  · have hc' : inR 1 11 cs = false := by simpa using hc
    have hc2 : ¬ (1 ≤ cs ∧ cs < 11) := fun hh => hc (inR_iff.2 hh)
    have Hc := hide hc'
    have Hc2 := hide hc2
    clear hc hc' hc2
    go_enter Tryz.func49, Tryz.ntmps49
    go_wp2_with (go_at_call 52; refine (within8 _ _ _ _).mono ?_; rintro e w' ⟨he, rfl⟩; rw [Hc.out] at he; subst he)
    go_ret
    exact ⟨ret_i (by have := Hc2.out; rw [bcheckS, if_pos (by omega)]), hb0⟩
end Go.Proofs.YtleniljhacnikaaGreat
