/-
  Permutations: turned in pairs, Turned in the reference.
-/
import Derived.Test.YtleniljhacnikaaW8d
import Derived.Test.YtleniljhacnikaaSpecA
namespace Go.Proofs.Ytleniljhacnikaa
open Go.RowKit Go.Proofs
attribute [local go_sem] cell?_more cell?_alloc_some

theorem rturned_any (A : Option Addr) (n c : Nat) (p : List Int) (w : World) (h : RInts w A n c p) :
    Calls Try.prog 59 #[.slice A n c] w fun e w' => e = .returned (.bool (turnedS p)) ∧ w = w' := by
  have hn := h.le
  have hl := h.len
  go_enter Try.func59, Try.ntmps59
  go_wp2
  go_loop [3] (fun i => ∃ k : Nat, k ≤ n ∧ i = .int .i64 k ∧ Hid (∀ i : Nat, i < k → (i : Int) ∈ p)) (fun i => n - (intOf i).toNat)
  case atStart => exact ⟨0, Nat.zero_le _, rfl, fun i hi => absurd hi (by omega)⟩
  case round =>
    obtain ⟨k, hk, rfl, hp⟩ := hrel
    by_cases hlt : k < n
    · by_cases hm : (k : Int) ∈ p
      · have hq : ¬ placeS p (k : Int) 0 < 0 := by have := placeS_nn hm; omega
        have Hm := hide hm
        clear hm
        go_wp2_with (go_at_call 96; refine (place_any _ _ _ p _ _ h).mono ?_; rintro e w' ⟨rfl, rfl⟩)
        go_round
        case rel => exact ⟨k + 1, by omega, by go_num, fun i hi => by
          by_cases e : i = k
          · subst e; exact Hm.out
          · exact hp.out i (by omega)⟩
        case measure => simp [intOf] <;> omega
      · have hq : placeS p (k : Int) 0 < 0 := (placeS_neg (Int.le_refl 0)).2 hm
        have hf : Hid (turnedS p = false) := by
          unfold Hid
          rw [← Bool.not_eq_true, turned_perm]
          rintro ⟨_, _, h3⟩
          exact hm (h3.subset (mem_rangeI.2 (by omega)))
        clear hm
        go_wp2_with (go_at_call 96; refine (place_any _ _ _ p _ _ h).mono ?_; rintro e w' ⟨rfl, rfl⟩)
        go_ret
        exact ⟨ret_b (by rw [hf.out]), rfl⟩
    · obtain rfl : k = n := by omega
      have hall : Hid ((List.range p.length).all (fun i => decide ((i : Int) ∈ p)) = true) := by
        unfold Hid
        rw [List.all_eq_true]
        intro i hi
        rw [List.mem_range] at hi
        exact decide_eq_true (hp.out i (by omega))
      by_cases h1 : 1 ≤ k
      · go_wp2
        go_ret
        exact ⟨ret_b (by rw [turnedS, hall.out]; simp [hl, h1]; omega), rfl⟩
      · go_wp2
        go_ret
        exact ⟨ret_b (by rw [turnedS, hall.out]; simp [hl]; omega), rfl⟩

theorem pturned_any (A : Option Addr) (n c : Nat) (p : List Int) (w : World) (h : RInts w A n c p) :
    Calls Try.prog 63 #[.slice A n c] w fun e w' => e = .returned (.bool (turnedS p)) ∧ Below w.heap.size w w' := by
  have hn := h.le
  have hl := h.len
  go_enter Try.func63, Try.ntmps63
  go_wp2
  go_loopw [8] (fun i wr => ∃ (t : Nat) (C : Array Value), t ≤ n ∧ i = .int .i64 t ∧ Has wr w.heap.size 103 C ∧ Seen C (p.take t) ∧ Hid ((p.take t).Nodup) ∧ Hid (∀ x ∈ p.take t, 0 ≤ x ∧ x < n ∧ x < 10) ∧ Below w.heap.size w wr) (fun i _ => n - (intOf i).toNat)
  case atStart => exact ⟨0, _, Nat.zero_le _, rfl, Has.new _ _ _, by simpa using Seen_new, by simp [Hid], by simp [Hid], (Below.refl _ _).alloc (Nat.le_refl _) _⟩
  case round =>
    obtain ⟨t, C, ht, rfl, hC, hS, hno, hal, hb⟩ := hrel
    by_cases hlt : t < n
    · obtain ⟨b, off, v, rfl, hc, hd, hat, _⟩ := (h.below hb).step hlt
      by_cases h10 : n ≤ 10
      · have g10 : (n : Int) ≤ 10 := by omega
        by_cases hv : inR 0 (n : Int) v = true
        · have hv' := inR_iff.1 hv
          have v0 : 0 ≤ v := hv'.1
          have v1 : v < 10 := by omega
          have v2 : v < n := by omega
          have Hv := hide hv
          clear hv
          have hfr := hC.free v.toNat
          have hcell := (hC.cell v.toNat).trans (hS.2 v.toNat (by omega))
          rw [Int.toNat_of_nonneg v0] at hcell
          by_cases hm : v ∈ p.take t
          · have hm' := hide hm
            simp only [hm, decide_true] at hcell
            clear hm hv'
            have hf : Hid (turnedS p = false) := by
              unfold Hid
              rw [← Bool.not_eq_true, turned_iff]
              rintro ⟨_, h2, _⟩
              exact ((nodup_take_succ hat.out).1 (nodup_take h2 _)).2 hm'.out
            go_wp2_with (go_at_call 65; refine (within10 _ _ _).mono ?_; rintro e w' ⟨he, rfl⟩; rw [Hv.out] at he; subst he)
            go_ret
            exact ⟨ret_b (by rw [hf.out]), hb⟩
          · have hm' := hide hm
            simp only [hm, decide_false] at hcell
            clear hm hv'
            go_wp2_with (go_at_call 65; refine (within10 _ _ _).mono ?_; rintro e w' ⟨he, rfl⟩; rw [Hv.out] at he; subst he)
            go_roundw
            case rel =>
              refine ⟨t + 1, _, by omega, by go_num, hC.put _ _, ?_, (nodup_take_succ hat.out).2 ⟨hno.out, hm'.out⟩, ?_, hb.setCell (by show w.heap.size ≤ w.heap.size; omega) _⟩
              · rw [List.take_add_one, hat.out]
                exact hS.put v0
              · unfold Hid
                rw [List.take_add_one, hat.out]
                intro x hx
                rw [List.mem_append] at hx
                rcases hx with hx | hx
                · exact hal.out x hx
                · simp at hx; omega
            case measure => simp [intOf] <;> omega
        · have hv' : inR 0 (n : Int) v = false := by simpa using hv
          have hf : Hid (turnedS p = false) := by
            unfold Hid
            rw [← Bool.not_eq_true, turned_iff]
            rintro ⟨_, _, h3⟩
            have := h3 v (List.mem_of_getElem? hat.out)
            exact hv (inR_iff.2 (by omega))
          have Hv := hide hv'
          clear hv hv'
          go_wp2_with (go_at_call 65; refine (within10 _ _ _).mono ?_; rintro e w' ⟨he, rfl⟩; rw [Hv.out] at he; subst he)
          go_ret
          exact ⟨ret_b (by rw [hf.out]), hb⟩
      · have g10 : (10 : Int) < (n : Int) := by omega
        by_cases hv : inR 0 10 v = true
        · have hv' := inR_iff.1 hv
          have v0 : 0 ≤ v := hv'.1
          have v1 : v < 10 := by omega
          have v2 : v < n := by omega
          have Hv := hide hv
          clear hv
          have hfr := hC.free v.toNat
          have hcell := (hC.cell v.toNat).trans (hS.2 v.toNat (by omega))
          rw [Int.toNat_of_nonneg v0] at hcell
          by_cases hm : v ∈ p.take t
          · have hm' := hide hm
            simp only [hm, decide_true] at hcell
            clear hm hv'
            have hf : Hid (turnedS p = false) := by
              unfold Hid
              rw [← Bool.not_eq_true, turned_iff]
              rintro ⟨_, h2, _⟩
              exact ((nodup_take_succ hat.out).1 (nodup_take h2 _)).2 hm'.out
            go_wp2_with (go_at_call 65; refine (within10 _ _ _).mono ?_; rintro e w' ⟨he, rfl⟩; rw [Hv.out] at he; subst he)
            go_ret
            exact ⟨ret_b (by rw [hf.out]), hb⟩
          · have hm' := hide hm
            simp only [hm, decide_false] at hcell
            clear hm hv'
            go_wp2_with (go_at_call 65; refine (within10 _ _ _).mono ?_; rintro e w' ⟨he, rfl⟩; rw [Hv.out] at he; subst he)
            go_roundw
            case rel =>
              refine ⟨t + 1, _, by omega, by go_num, hC.put _ _, ?_, (nodup_take_succ hat.out).2 ⟨hno.out, hm'.out⟩, ?_, hb.setCell (by show w.heap.size ≤ w.heap.size; omega) _⟩
              · rw [List.take_add_one, hat.out]
                exact hS.put v0
              · unfold Hid
                rw [List.take_add_one, hat.out]
                intro x hx
                rw [List.mem_append] at hx
                rcases hx with hx | hx
                · exact hal.out x hx
                · simp at hx; omega
            case measure => simp [intOf] <;> omega
        · have hv' : inR 0 10 v = false := by simpa using hv
          have hf : Hid (turnedS p = false) := by
            unfold Hid
            rw [← Bool.not_eq_true, turned_iff]
            rintro ⟨_, _, h3⟩
            have := h3 v (List.mem_of_getElem? hat.out)
            exact hv (inR_iff.2 (by omega))
          have Hv := hide hv'
          clear hv hv'
          go_wp2_with (go_at_call 65; refine (within10 _ _ _).mono ?_; rintro e w' ⟨he, rfl⟩; rw [Hv.out] at he; subst he)
          go_ret
          exact ⟨ret_b (by rw [hf.out]), hb⟩
    · have hno' := hno.out
      have hal' := hal.out
      rw [List.take_of_length_le (by omega)] at hno' hal'
      have hE : Hid (turnedS p = decide (0 < (n : Int))) := by
        unfold Hid
        rw [Bool.eq_iff_iff, turned_iff, decide_eq_true_eq]
        constructor
        · rintro ⟨h1, _⟩; omega
        · intro h1; exact ⟨by omega, hno', fun x hx => by have := hal' x hx; omega⟩
      clear hno' hal'
      go_wp2
      go_ret
      exact ⟨ret_b (by rw [hE.out]; simp), hb⟩
end Go.Proofs.Ytleniljhacnikaa
