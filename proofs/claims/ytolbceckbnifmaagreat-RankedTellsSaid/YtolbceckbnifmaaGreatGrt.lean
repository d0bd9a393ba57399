/-
  The reference's Great.
-/
import Derived.Test.YtolbceckbnifmaaGreatW9a
namespace Go.Proofs.YtolbceckbnifmaaGreat
open Go.RowKit Go.Proofs
attribute [local go_sem] cell?_more cell?_alloc_some cell?_setCell_far frozen?_alloc_some frozen?_more

def shortRow (l : List Row) (j : Nat) : Bool := decide ((l.getD j ([], 0)).1.length ≤ 60)
def greatS (l : List Row) : Bool := !(allN (min l.length 141) (shortRow l)) || decide (140 < l.length)

theorem great_any (c k : Int) (A : Option Addr) (n cp : Nat) (l : List Row) (w : World) (h : RRows w A n cp l) :
    Calls Tryz.prog 42 #[.agg #[.int .i64 c, .int .u8 k, .slice A n cp]] w fun e w' => e = .returned (.bool (greatS l)) ∧ Below w.heap.size w w' := by
  have hn := h.le
  have hl := h.len
  have hP0 := Has.new w 27 #[.int .i64 c, .int .u8 k, .slice A n cp]
  have hb0 : Below w.heap.size w (w.alloc (.cells #[.int .i64 c, .int .u8 k, .slice A n cp] 27)) := (Below.refl _ _).alloc (Nat.le_refl _) _
  go_enter Tryz.func42, Tryz.ntmps42
  go_wp2
  generalize hW1 : World.alloc _ _ = W1 at hP0 hb0
  try rw [hW1]
  clear hW1
  have p2 : W1.cell? ⟨w.heap.size, 2, none⟩ = some (.slice A n cp) := hP0.cell 2
  have hrows := h.below hb0
  go_loop [3] (fun i => ∃ t : Nat, t ≤ n ∧ t ≤ 141 ∧ i = .int .i64 t ∧ Hid (∀ j, j < t → shortRow l j = true)) (fun i => 200 - (intOf i).toNat)
  case atStart => exact ⟨0, Nat.zero_le _, by omega, rfl, fun j hj => absurd hj (by omega)⟩
  case round =>
    obtain ⟨t, ht, ht2, rfl, hs⟩ := hrel
    by_cases hlt : t < n
    · have b1 : (t : Int) < (n : Int) := by omega
      have b2 : (0 : Int) ≤ (t : Int) := by omega
      by_cases h140 : t ≤ 140
      · have b3 : (t : Int) ≤ 140 := by omega
        obtain ⟨b, off, Am, nm, cm, ms, y, rfl, hc0, hm0, hc1, hd, hat, hy⟩ := hrows.step hlt
        have hlen := hide hm0.len
        have hsr := hide (show shortRow l t = decide (ms.length ≤ 60) by unfold shortRow; rw [getD_of hat.out])
        have hnm := hm0.le
        by_cases hbig : 60 < nm
        · go_wp2
          go_ret
          refine ⟨ret_b ?_, hb0⟩
          unfold greatS
          rw [allN_false (i := t) (by omega) (by rw [hsr.out, hlen.out]; simp; omega)]
          rfl
        · go_wp2
          go_round
          case rel => exact ⟨t + 1, by omega, by omega, by go_num, fun j hj => by
            by_cases e : j = t
            · subst e; rw [hsr.out, hlen.out]; simp; omega
            · exact hs.out j (by omega)⟩
          case measure => simp [intOf] <;> omega
      · have b3 : ¬ (t : Int) ≤ 140 := by omega
        have b4 : (140 : Int) < (n : Int) := by omega
        go_wp2
        go_ret
        refine ⟨ret_b ?_, hb0⟩
        unfold greatS
        simp
        omega
    · have b1 : ¬ (t : Int) < (n : Int) := by omega
      go_wp2
      go_ret
      refine ⟨ret_b ?_, hb0⟩
      unfold greatS
      rw [allN_true.2 (fun j hj => hs.out j (by omega))]
      simp [hl]
      omega
theorem great_no {l : List Row} (h : greatS l = false) : l.length ≤ 140 ∧ ∀ r ∈ l, r.1.length ≤ 60 := by
  unfold greatS at h
  simp only [Bool.or_eq_false_iff, Bool.not_eq_false', decide_eq_false_iff_not] at h
  obtain ⟨h1, h2⟩ := h
  refine ⟨by omega, fun r hr => ?_⟩
  obtain ⟨i, hi⟩ := List.getElem?_of_mem hr
  have hlt := (List.getElem?_eq_some_iff.1 hi).1
  have := allN_true.1 h1 i (by omega)
  unfold shortRow at this
  rw [getD_of hi] at this
  simpa using this
end Go.Proofs.YtolbceckbnifmaaGreat
