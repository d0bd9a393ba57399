/-
  The reference's Twin, whole.
  Same, in the program and in the reference.
-/
import Derived.Test.YtkmcgpaoekphmaaApp
import Derived.Test.YtkmcgpaoekphmaaW9m
import Derived.Test.YtkmcgpaoekphmaaW9i
import Derived.Shelf.Abstract
namespace Go.Proofs.Ytkmcgpaoekphmaa
open Go.RowKit Go.Proofs
attribute [local go_sem] cell?_more cell?_alloc_some cell?_setCell_far frozen?_alloc_some frozen?_more
section
variable {ops : Array Oper} {o : Oper} {a : Act} {w : World} {Q : Exit → Act → World → Prop} {K : Act → World → Prop} {E : Prop}
end

/-- Numbers that were made now are marks of one's own, in another block than v's. -/
theorem omarks_new {w : World} {H B : Nat} {A : Option Addr} {n c : Nat} {xs : List Int} {g : Option Nat} (h : Own w H (.slice A n c) xs) (hx : ∀ x ∈ xs, -9223372036854775808 ≤ x ∧ x ≤ 9223372036854775807) (hB : B ≤ H) (hg : ∀ k, g = some k → k < H) : OMarks w B g (.slice A n c) xs := by
  refine ⟨A, n, c, rfl, h.ints hx, fun hn => ?_⟩
  obtain ⟨h1, h2⟩ := h
  rcases h2 with ⟨e, e2⟩ | ⟨gg, cap, cur, e, hb, hgg, hnc, hcm, hcs, ht⟩
  · cases e; omega
  · cases e
    exact ⟨gg, 0, rfl, by omega, fun e => by have := hg gg e.symm; omega, fun i _ => frozen_of_row w gg _ cur 3 hgg⟩

end Go.Proofs.Ytkmcgpaoekphmaa

namespace Go.Proofs.Ytkmcgpaoekphmaa
open Go.RowKit Go.Proofs Go.Shelf
attribute [local go_sem] cell?_more cell?_alloc_some cell?_setCell_far frozen?_alloc_some frozen?_more
/-- Two profiles are the same. -/
def sameB (c k : Int) (l : List Row) (c' k' : Int) (l' : List Row) : Bool := decide (c = c' ∧ k = k' ∧ l = l')
theorem sameB_iff {c k : Int} {l : List Row} {c' k' : Int} {l' : List Row} : sameB c k l c' k' l' = true ↔ c = c' ∧ k = k' ∧ l = l' := by simp [sameB]
theorem sameB_self (c k : Int) (l : List Row) : sameB c k l c k l = true := sameB_iff.2 ⟨rfl, rfl, rfl⟩
def rowsB (l l' : List Row) : Bool := decide (l = l')

theorem equalI_any (A A' : Option Addr) (n c n' c' : Nat) (xs ys : List Int) (w : World) (h : RInts w A n c xs) (h' : RInts w A' n' c' ys) :
    Calls Try.prog 29 #[.slice A n c, .slice A' n' c'] w fun e w' => e = .returned (.bool (xs == ys)) ∧ Below w.heap.size w w' := by
  have hn := h.le
  have hn' := h'.le
  have hl := h.len
  have hl' := h'.len
  by_cases hnn : n = n'
  · subst hnn
    go_enter Try.func29, Try.ntmps29
    go_wp2
    go_loopw [13] (fun i wr => ∃ k : Nat, k ≤ n ∧ i = .int .i64 k ∧ Hid ((xs == ys) = (xs.drop k == ys.drop k)) ∧ Below w.heap.size w wr) (fun i _ => n - (intOf i).toNat)
    case atStart => exact ⟨0, Nat.zero_le _, rfl, by simp [Hid], Below.refl _ _⟩
    case round =>
      obtain ⟨k, hk, rfl, hp, hb⟩ := hrel
      by_cases hlt : k < n
      · obtain ⟨b, off, v, rfl, hc, hd, _⟩ := (h.below hb).step hlt
        obtain ⟨b', off', u, rfl, hc', hd', _⟩ := (h'.below hb).step hlt
        have b1 : (0 : Int) ≤ (k : Int) := by omega
        have b2 : (k : Int) < (n : Int) := by omega
        by_cases hv : v = u
        · have hz : (v != u) = false := by simp [hv]
          have Hv := hide hv
          clear hv
          go_wp2
          refine wp_region_more (by kernel_rfl) (by kernel_rfl) ?_
          repeat (go_big_quiet_step (fail))
          refine wpQuiet_nil ?_
          rintro w1 ⟨qw1, hww1⟩
          have hbw1 := below_of_eq hww1
          clear hww1 qw1
          go_wp2
          go_roundw
          case rel => exact ⟨k + 1, by omega, by go_num, by unfold Hid; rw [hp.out, hd.out, hd'.out, Hv.out]; simp, Below_trans' hb hb.size hbw1⟩
          case measure => simp [intOf] <;> omega
        · have hz : (v != u) = true := by simp [hv]
          go_wp2
          refine wp_region_more (by kernel_rfl) (by kernel_rfl) ?_
          repeat (go_big_quiet_step (fail))
          refine wpQuiet_nil ?_
          rintro w1 ⟨qw1, hww1⟩
          have hbw1 := below_of_eq hww1
          clear hww1 qw1
          go_wp2
          go_ret
          exact ⟨ret_b (by rw [hp.out, hd.out, hd'.out]; simp [hv]), Below_trans' hb hb.size hbw1⟩
      · have hd := hide (h.done hlt)
        have hd' := hide (h'.done hlt)
        go_wp2
        go_ret
        exact ⟨ret_b (by rw [hp.out, hd.out, hd'.out]; simp), hb⟩
  · have hz : ((n : Int) != (n' : Int)) = true := by simp; omega
    have hne : (xs == ys) = false := by
      rw [← Bool.not_eq_true]; intro hh; rw [beq_iff_eq] at hh; subst hh; omega
    have Hne := hide hne
    clear hne
    go_enter Try.func29, Try.ntmps29
    go_wp2
    go_ret
    exact ⟨ret_b (by rw [Hne.out]), Below.refl _ _⟩

def rowB (a b : Row) : Bool := decide (a = b)
theorem rowsB_step {l l' : List Row} {t : Nat} {a b : Row} (ha : l.drop t = a :: l.drop (t + 1)) (hb : l'.drop t = b :: l'.drop (t + 1)) : rowsB (l.drop t) (l'.drop t) = (rowB a b && rowsB (l.drop (t + 1)) (l'.drop (t + 1))) := by
  unfold rowsB rowB
  rw [ha, hb]
  by_cases e : a = b <;> simp [e]

end Go.Proofs.Ytkmcgpaoekphmaa
