/-
  The library's IndexFunc, DeleteFunc and MinFunc at any closure.
-/
import Derived.Test.YtkhclcdmehjfkaaGreatW8f
namespace Go.Proofs.YtkhclcdmehjfkaaGreat
open Go.RowKit Go.Proofs Go.Shelf
attribute [local go_sem] cell?_more cell?_alloc_some cell?_setCell_far frozen?_alloc_some frozen?_more
set_option maxRecDepth 100000 in
theorem minFunc_at (F : FuncId) (eg : ∀ args w, (callFunc F args).run Tryz.prog w = .ok (.enter F args) w) (f : Int → Int) (hf : ∀ x, 0 ≤ f x + 1 ∧ f x ≤ 1000000) (lb : Array Value) (A : Option Addr) (n c : Nat) (xs : List Int) (w : World) (h : RInts w A n c xs) (h0 : 0 < n)
    (hp : ∀ W, Below w.heap.size w W → ∀ x y, Calls Tryz.prog F (#[.int .i64 x, .int .i64 y] ++ lb) W fun e w' => e = .returned (.int .i64 (f x - f y)) ∧ Below W.heap.size W w') :
    Calls Tryz.prog 142 #[.slice A n c, .func (.func F) #[] lb] w fun e w' => ∃ m, e = .returned (.int .i64 m) ∧ (m ∈ xs ∧ ∀ y ∈ xs, f m ≤ f y) ∧ Below w.heap.size w w' := by
  have hn := h.le
  have hl := hide h.len
  have Hp := hide hp
  have Hf := hide hf
  have d0 : ¬ (n : Int) < 1 := by omega
  clear hp hf
  obtain ⟨b, off, v0, rfl, hc0, _, hat0, _⟩ := h.step h0
  have h1 : Hid (v0 ∈ xs.take 1 ∧ ∀ y ∈ xs.take 1, f v0 ≤ f y) := by
    have : xs.take 1 = [v0] := by rw [List.take_add_one, hat0.out]; simp
    unfold Hid; rw [this]; simp
  simp only [Nat.add_zero] at hc0
  clear hat0
  go_enter Tryz.func142, Tryz.ntmps142
  go_wp2
  go_loopw [5, 6] (fun m i wr => ∃ (k : Nat) (v : Int), 1 ≤ k ∧ k ≤ n ∧ i = .int .i64 k ∧ m = .int .i64 v ∧ Hid (v ∈ xs.take k ∧ ∀ y ∈ xs.take k, f v ≤ f y) ∧ Below w.heap.size w wr) (fun m i _ => n - (intOf i).toNat)
  case atStart => exact ⟨1, v0, Nat.le_refl _, by omega, by go_num, rfl, h1, Below.refl _ _⟩
  case round =>
    obtain ⟨k, v, hk1, hk, rfl, rfl, hq, hbw⟩ := hrel
    by_cases hlt : k < n
    · obtain ⟨b2, off2, u, e2, hc, _, hat, _⟩ := (h.below hbw).step hlt
      cases e2
      have hcall := Hp.out wr hbw u v
      have htk : Hid (xs.take (k + 1) = xs.take k ++ [u]) := by unfold Hid; rw [List.take_add_one, hat.out]; rfl
      have fu := Hf.out u
      have fv := Hf.out v
      clear hat
      by_cases hlt2 : f u < f v
      · have q : Hid (u ∈ xs.take (k + 1) ∧ ∀ y ∈ xs.take (k + 1), f u ≤ f y) := by
          unfold Hid
          rw [htk.out]
          refine ⟨by simp, fun y hy => ?_⟩
          rcases List.mem_append.1 hy with hy | hy
          · have := hq.out.2 y hy; omega
          · simp at hy; subst hy; exact Int.le_refl _
        have d1 : f u - f v < 0 := by omega
        go_wp2_with (go_at_fn F; refine hcall.mono ?_; rintro e w' ⟨rfl, hb'⟩; have hc' := keep_cell hb' hc)
        go_roundw
        case rel => exact ⟨k + 1, u, by omega, by omega, by go_num, rfl, q, Below_trans' hbw hbw.size hb'⟩
        case measure => simp [intOf] <;> omega
      · have q : Hid (v ∈ xs.take (k + 1) ∧ ∀ y ∈ xs.take (k + 1), f v ≤ f y) := by
          unfold Hid
          rw [htk.out]
          refine ⟨List.mem_append_left _ hq.out.1, fun y hy => ?_⟩
          rcases List.mem_append.1 hy with hy | hy
          · exact hq.out.2 y hy
          · simp at hy; subst hy; omega
        have d1 : ¬ f u - f v < 0 := by omega
        go_wp2_with (go_at_fn F; refine hcall.mono ?_; rintro e w' ⟨rfl, hb'⟩; have hc' := keep_cell hb' hc)
        go_roundw
        case rel => exact ⟨k + 1, v, by omega, by omega, by go_num, rfl, q, Below_trans' hbw hbw.size hb'⟩
        case measure => simp [intOf] <;> omega
    · have e : Hid (xs.take k = xs) := List.take_of_length_le (by rw [hl.out]; omega)
      unfold Hid at hq
      rw [e.out] at hq
      go_wp2
      go_ret
      exact ⟨v, rfl, hq, hbw⟩
end Go.Proofs.YtkhclcdmehjfkaaGreat
