/-
  Permutations: turned in pairs, Turned in the reference.
-/
import Derived.Test.YtolbceckbnifmaaGreatW8a
import Derived.Test.YtolbceckbnifmaaGreatSpecA
namespace Go.Proofs.YtolbceckbnifmaaGreat
open Go.RowKit Go.Proofs
attribute [local go_sem] cell?_more cell?_alloc_some

theorem rturned_any (A : Option Addr) (n c : Nat) (p : List Int) (w : World) (h : RInts w A n c p) :
    Calls Tryz.prog 73 #[.slice A n c] w fun e w' => e = .returned (.bool (turnedS p)) ∧ w = w' := by
  have hn := h.le
  have hl := h.len
  go_enter Tryz.func73, Tryz.ntmps73
  go_wp2
  go_loop [3] (fun i => ∃ k : Nat, k ≤ n ∧ i = .int .i64 k ∧ Hid (∀ i : Nat, i < k → (i : Int) ∈ p)) (fun i => n - (intOf i).toNat)
  case atStart => exact ⟨0, Nat.zero_le _, rfl, fun i hi => absurd hi (by omega)⟩
  case round =>
    obtain ⟨k, hk, rfl, hp⟩ := hrel
    by_cases hlt : k < n
    · by_cases hm : (k : Int) ∈ p
      · have hq : ¬ placeS p (k : Int) 0 < 0 := by have := placeS_nn hm; omega
        have Hm := hide hm
        clear hm
        go_wp2_with (go_at_call 106; refine (place_any _ _ _ p _ _ h).mono ?_; rintro e w' ⟨rfl, rfl⟩)
        go_round
        case rel => exact ⟨k + 1, by omega, by go_num, fun i hi => by
          by_cases e : i = k
          · subst e; exact Hm.out
          · exact hp.out i (by omega)⟩
        case measure => simp [intOf] <;> omega
      · have hq : placeS p (k : Int) 0 < 0 := (placeS_neg (Int.le_refl 0)).2 hm
        have hf : Hid (turnedS p = false) := by
          unfold Hid
          rw [← Bool.not_eq_true, turned_perm]
          rintro ⟨_, _, h3⟩
          exact hm (h3.subset (mem_rangeI.2 (by omega)))
        clear hm
        go_wp2_with (go_at_call 106; refine (place_any _ _ _ p _ _ h).mono ?_; rintro e w' ⟨rfl, rfl⟩)
        go_ret
        exact ⟨ret_b (by rw [hf.out]), rfl⟩
    · obtain rfl : k = n := by omega
      have hall : Hid ((List.range p.length).all (fun i => decide ((i : Int) ∈ p)) = true) := by
        unfold Hid
        rw [List.all_eq_true]
        intro i hi
        rw [List.mem_range] at hi
        exact decide_eq_true (hp.out i (by omega))
      by_cases h1 : 1 ≤ k
      · go_wp2
        go_ret
        exact ⟨ret_b (by rw [turnedS, hall.out]; simp [hl, h1]; omega), rfl⟩
      · go_wp2
        go_ret
        exact ⟨ret_b (by rw [turnedS, hall.out]; simp [hl]; omega), rfl⟩

end Go.Proofs.YtolbceckbnifmaaGreat
