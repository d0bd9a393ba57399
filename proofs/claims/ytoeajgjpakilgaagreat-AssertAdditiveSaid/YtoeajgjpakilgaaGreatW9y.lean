/-
  The program's may; the reference's may.
-/
import Derived.Test.YtoeajgjpakilgaaGreatW9m
namespace Go.Proofs.YtoeajgjpakilgaaGreat
open Go.RowKit Go.Proofs
attribute [local go_sem] cell?_more cell?_alloc_some cell?_setCell_far frozen?_alloc_some frozen?_more
/-- The error of adding or taking y ballots that does not depend on the rows. -/
def mayR (c k : Int) (l : List Row) (kb : Int) (mb : List Int) (y : Int) : Int :=
  if checkS c k l = 0 then (if kb = k ∧ bcheckS kb mb c = 0 then (if y < 1 then 2 else 0) else 8) else checkS c k l
theorem mayR_ok {c k : Int} {l : List Row} {kb : Int} {mb : List Int} {y : Int} (h : mayR c k l kb mb y = 0) : checkS c k l = 0 ∧ kb = k ∧ bcheckS k mb c = 0 ∧ 1 ≤ y := by
  unfold mayR at h
  split at h
  · rename_i h1
    split at h
    · rename_i h2
      split at h
      · cases h
      · exact ⟨h1, h2.1, h2.1 ▸ h2.2, by omega⟩
    · cases h
  · rename_i h1; exact absurd h h1

set_option maxHeartbeats 1000000 in
theorem rmay_any (c k : Int) (A : Option Addr) (n cp : Nat) (l : List Row) (kb : Int) (Ab : Option Addr) (nb cb : Nat) (mb : List Int) (y : Int) (w : World) (h : RRows w A n cp l) (hm : RInts w Ab nb cb mb) :
    Calls Tryz.prog 22 #[.agg #[.int .i64 c, .int .u8 k, .slice A n cp], .agg #[.int .u8 kb, .slice Ab nb cb], .int .i64 y] w fun e w' => e = .returned (.int .i64 (mayR c k l kb mb y)) ∧ Below w.heap.size w w' := by
  have hS0 := ((Hs.nil w).alloc 27 #[.int .i64 c, .int .u8 k, .slice A n cp]).alloc 29 #[.int .u8 kb, .slice Ab nb cb]
  have hb0 : Below w.heap.size w ((w.alloc (.cells #[.int .i64 c, .int .u8 k, .slice A n cp] 27)).alloc (.cells #[.int .u8 kb, .slice Ab nb cb] 29)) := ((Below.refl _ _).alloc (Nat.le_refl _) _).alloc (by simp) _
  simp only [World.size_alloc] at hS0
  go_enter Tryz.func22, Tryz.ntmps22
  go_wp2_with fail
  refine (rcheck_any _ _ _ _ _ l _ (h.below hb0)).mono ?_
  rintro e w1 ⟨rfl, hbw⟩
  obtain ⟨hQ, hP, -⟩ := hS0.below hbw
  have hb1 := Below_trans' hb0 hb0.size hbw
  clear hS0 hb0 hbw
  by_cases herr : checkS c k l = 0
  · have H1 := hide herr
    rw [herr]
    clear herr
    have q0 : w1.cell? ⟨w.heap.size + 1, 0, none⟩ = some (.int .u8 kb) := hQ.cell 0
    have q1 : w1.cell? ⟨w.heap.size + 1, 1, none⟩ = some (.slice Ab nb cb) := hQ.cell 1
    have p0 : w1.cell? ⟨w.heap.size, 0, none⟩ = some (.int .i64 c) := hP.cell 0
    have p1 : w1.cell? ⟨w.heap.size, 1, none⟩ = some (.int .u8 k) := hP.cell 1
    by_cases hk : kb = k
    · have hk1 : (kb != k) = false := by simp [hk]
      have Hk := hide hk
      clear hk
      go_wp2_with fail
      refine (rbcheck_any kb Ab nb cb mb c _ (hm.below hb1)).mono ?_
      rintro e w2 ⟨rfl, hbw⟩
      have hb2 := Below_trans' hb1 hb1.size hbw
      clear hbw hb1
      by_cases hbc : bcheckS kb mb c = 0
      · have H2 := hide hbc
        rw [hbc]
        clear hbc
        by_cases hy : y < 1
        · go_wp2
          go_ret
          exact ⟨ret_i (by rw [mayR, if_pos H1.out, if_pos ⟨Hk.out, H2.out⟩, if_pos (by omega)]), hb2⟩
        · go_wp2
          go_ret
          exact ⟨ret_i (by rw [mayR, if_pos H1.out, if_pos ⟨Hk.out, H2.out⟩, if_neg (by omega)]), hb2⟩
      · have H2 := hide hbc
        have hne : (bcheckS kb mb c != 0) = true := by rw [bne_iff_ne]; exact hbc
        clear hbc
        go_wp2
        go_ret
        exact ⟨ret_i (by rw [mayR, if_pos H1.out, if_neg (fun e => H2.out e.2)]), hb2⟩
    · have hk1 : (kb != k) = true := by simp [hk]
      have Hk := hide hk
      clear hk
      go_wp2
      go_ret
      exact ⟨ret_i (by rw [mayR, if_pos H1.out, if_neg (fun e => Hk.out e.1)]), hb1⟩
  · have H1 := hide herr
    have hne : (checkS c k l != 0) = true := by rw [bne_iff_ne]; exact herr
    clear herr
    go_wp2
    go_ret
    exact ⟨ret_i (by rw [mayR, if_neg H1.out]), hb1⟩
end Go.Proofs.YtoeajgjpakilgaaGreat
