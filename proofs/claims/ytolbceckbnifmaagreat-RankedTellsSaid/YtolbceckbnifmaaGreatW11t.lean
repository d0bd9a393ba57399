/-
  What the laws that tell of a count have in common: is a profile or a lot too great?
-/
import Derived.Test.YtolbceckbnifmaaGreatGrt
import Derived.Test.YtolbceckbnifmaaGreatW9u
import Derived.Test.YtolbceckbnifmaaGreatW11g
namespace Go.Proofs.YtolbceckbnifmaaGreat
open Go.RowKit Go.Proofs Go.Shelf
attribute [local go_sem] cell?_more cell?_alloc_some cell?_setCell_far frozen?_alloc_some frozen?_more
theorem Own.lit0 (w : World) (B : Nat) (hB : B ≤ w.heap.size) : Own (w.alloc (.cells #[] 3)) B (.slice (some ⟨w.heap.size, 0, none⟩) 0 0) [] := by
  have := World.ownsRow_lit (base := B) (e := 3) (size := 1) w #[] 0 hB (by unfold maxLen; omega) (by simp)
  unfold Own
  simpa using this
theorem orows_slice {w : World} {B : Nat} {v : Value} {l : List Row} (h : ORows w B v l) : ∃ A n c, v = .slice A n c := by
  obtain ⟨cs, _, ho, _⟩ := h
  rcases ho.2 with ⟨e, _⟩ | ⟨g, cap, cur, e, _⟩
  · exact ⟨_, _, _, e⟩
  · exact ⟨_, _, _, e⟩
/-- Is a profile, or a lot, too great? -/
def great11 (l : List Row) (lot : List Int) : Bool := greatS l || decide (60 < lot.length)
theorem great11_any (c k : Int) (A : Option Addr) (n cp : Nat) (l : List Row) (At : Option Addr) (nt ct : Nat) (lot : List Int) (w : World) (h : RRows w A n cp l) (h' : RInts w At nt ct lot) :
    Calls Tryz.prog 9 #[.agg #[.int .i64 c, .int .u8 k, .slice A n cp], .slice At nt ct] w fun e w' => e = .returned (.bool (great11 l lot)) ∧ Below w.heap.size w w' := by
  have hb0 : Below w.heap.size w (w.alloc (.cells #[.int .i64 c, .int .u8 k, .slice A n cp] 27)) := below_allocN
  have hP0 := Has.new w 27 #[.int .i64 c, .int .u8 k, .slice A n cp]
  have hl := h'.len
  generalize hW : World.alloc w _ = W0 at hb0 hP0
  have p0 := hP0.cell 0
  have p1 := hP0.cell 1
  have p2 := hP0.cell 2
  go_enter Tryz.func9, Tryz.ntmps9
  go_wp2_with fail
  try simp only [hW]
  clear hW
  refine (great_any c k A n cp l W0 (h.below hb0)).mono ?_
  rintro e w1 ⟨rfl, hb1⟩
  have hb01 := Below_trans' hb0 hb0.size hb1
  cases hg : greatS l with
  | true =>
    go_wp2
    go_ret
    exact ⟨by unfold great11; rw [hg]; rfl, hb01⟩
  | false =>
    have hr : Hid (decide ((60 : Int) < (nt : Int)) = great11 l lot) := by
      unfold Hid great11
      rw [hg, hl, Bool.false_or]
      exact decide_eq_decide.2 (by omega)
    clear hg hl
    go_wp2
    go_ret
    exact ⟨ret_b hr.out, hb01⟩
end Go.Proofs.YtolbceckbnifmaaGreat
