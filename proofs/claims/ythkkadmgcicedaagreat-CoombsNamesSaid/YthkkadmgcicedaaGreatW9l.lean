/-
  The program's Sum.
-/
import Derived.Test.YthkkadmgcicedaaGreatW9k
namespace Go.Proofs.YthkkadmgcicedaaGreat
open Go.RowKit Go.Proofs
attribute [local go_sem] cell?_more cell?_alloc_some cell?_setCell_far frozen?_alloc_some frozen?_more

theorem row_small {c k : Int} {l : List Row} (h : checkS c k l = 0) {x : Row} (hx : x ∈ l) : x.1.length ≤ 10 ∧ 0 < x.2 ∧ x.2 ≤ 1000000 := by
  obtain ⟨h1, h2, h3, h4, h5, h6, h7, h8, h9⟩ := check_iff.1 h
  have hb := h9 x hx
  refine ⟨?_, h8 x hx, Int.le_trans (le_tot h8 hx) h6⟩
  unfold bcheckS at hb
  split at hb
  · cases hb
  split at hb
  · rename_i hf
    unfold fineS at hf
    split at hf
    · simp only [Bool.and_eq_true, decide_eq_true_eq] at hf; omega
    split at hf
    · simp only [Bool.and_eq_true, List.all_eq_true] at hf
      have hn : x.1.Nodup := of_decide_eq_true hf.2
      have := hn.length_le_of_subset (fun z hz => mem_rangeI.2 (show 0 ≤ z ∧ z < ((10 : Nat) : Int) from by have := inR_iff.1 (hf.1.1 z hz); omega))
      rwa [length_rangeI] at this
    split at hf
    · simp only [Bool.and_eq_true, List.all_eq_true] at hf
      have hn : x.1.Nodup := of_decide_eq_true hf.2
      have := hn.length_le_of_subset (fun z hz => mem_rangeI.2 (show 0 ≤ z ∧ z < ((10 : Nat) : Int) from by have := inR_iff.1 (hf.1 z hz); omega))
      rwa [length_rangeI] at this
    · cases hf
  · cases hb

/-- A profile of its own and an error are handed back. -/
def PPostO (w : World) (r : PR) (e : Ending) (w' : World) : Prop :=
  ∃ A n cp, e = .returned (.tuple #[.agg #[.int .i64 r.c, .int .u8 r.k, .slice A n cp], .int .i64 r.err]) ∧ ORows w' w.heap.size (.slice A n cp) r.l ∧ Below w.heap.size w w'

end Go.Proofs.YthkkadmgcicedaaGreat
