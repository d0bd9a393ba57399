/-
  Slices of ballots; the program's Make.
-/
import Derived.Test.YtleniljhacnikaaGreatW9p
namespace Go.Proofs.YtleniljhacnikaaGreat
open Go.RowKit Go.Proofs
attribute [local go_sem] cell?_more cell?_alloc_some cell?_setCell_far frozen?_alloc_some frozen?_more

/-- A ballot: its kind and its marks. -/
abbrev Bal := Int × List Int
/-- The slice value (A, n, c) reads as the ballots bl in the world w (an element takes two cells). -/
def RBals (w : World) (A : Option Addr) (n c : Nat) (bl : List Bal) : Prop :=
  bl.length = n ∧ n ≤ c ∧ c ≤ 9223372036854775807 ∧
    (0 < n → ∃ b off, A = some ⟨b, off, none⟩ ∧ ∀ i, i < n → ∃ Am nm cm, w.cell? ⟨b, off + i * 2, none⟩ = some (.int .u8 (bl.getD i (0, [])).1) ∧
      w.cell? ⟨b, off + i * 2 + 1, none⟩ = some (.slice Am nm cm) ∧ RInts w Am nm cm (bl.getD i (0, [])).2)
namespace RBals
variable {w w' : World} {A : Option Addr} {n c k : Nat} {bl : List Bal}
theorem nil_ (w : World) : RBals w none 0 0 [] := ⟨rfl, Nat.le_refl _, by omega, fun h => absurd h (by omega)⟩
theorem len (h : RBals w A n c bl) : bl.length = n := h.1
theorem le (h : RBals w A n c bl) : n ≤ 9223372036854775807 := Nat.le_trans h.2.1 h.2.2.1
theorem step (h : RBals w A n c bl) (hk : k < n) : ∃ b off Am nm cm kb ms, A = some ⟨b, off, none⟩ ∧ w.cell? ⟨b, off + k * 2, none⟩ = some (.int .u8 kb) ∧ w.cell? ⟨b, off + k * 2 + 1, none⟩ = some (.slice Am nm cm) ∧ RInts w Am nm cm ms ∧ Hid (bl[k]? = some (kb, ms)) := by
  have hl : k < bl.length := by have := h.1; omega
  obtain ⟨b, off, e, hc⟩ := h.2.2.2 (by omega)
  obtain ⟨Am, nm, cm, h1, h2, h3⟩ := hc k hk
  have hg : bl.getD k (0, []) = bl[k] := by simp [List.getD, hl]
  refine ⟨b, off, Am, nm, cm, (bl.getD k (0, [])).1, (bl.getD k (0, [])).2, e, h1, h2, h3, ?_⟩
  rw [hg]; exact List.getElem?_eq_getElem hl
theorem below (h : RBals w A n c bl) (hb : Below w.heap.size w w') : RBals w' A n c bl :=
  ⟨h.1, h.2.1, h.2.2.1, fun hn => let ⟨b, off, e, hc⟩ := h.2.2.2 hn; ⟨b, off, e, fun i hi => let ⟨Am, nm, cm, h1, h2, h3⟩ := hc i hi; ⟨Am, nm, cm, keep_cell hb h1, keep_cell hb h2, h3.below hb⟩⟩⟩
end RBals

/-- Ballots added one by one, until an error. -/
def addS (r : PR) (b : Bal) : PR := if r.err = 0 then addP r.c r.k r.l b.1 b.2 1 else r
def makeP (c k : Int) (bl : List Bal) : PR := bl.foldl addS (if newErr c k = 0 then ⟨0, c, k, []⟩ else badP 2)
theorem makeP_take {c k : Int} {bl : List Bal} {t : Nat} {b : Bal} (h : bl[t]? = some b) : makeP c k (bl.take (t + 1)) = addS (makeP c k (bl.take t)) b := by
  unfold makeP
  rw [List.take_add_one, h]
  simp
theorem foldl_stuck {r : PR} (h : r.err ≠ 0) (bl : List Bal) : bl.foldl addS r = r := by
  induction bl with
  | nil => rfl
  | cons a s ih => rw [List.foldl_cons]; unfold addS; rw [if_neg h]; exact ih
theorem makeP_stuck {c k : Int} {bl : List Bal} {t : Nat} (h : (makeP c k (bl.take t)).err ≠ 0) : makeP c k bl = makeP c k (bl.take t) := by
  have : bl = bl.take t ++ bl.drop t := (List.take_append_drop t bl).symm
  rw [this]
  conv => lhs; unfold makeP; rw [List.foldl_append]
  rw [show (bl.take t).foldl addS (if newErr c k = 0 then ⟨0, c, k, []⟩ else badP 2) = makeP c k (bl.take t) from rfl, foldl_stuck h, ← this]

/-- The variable of a profile, and what it holds. -/
def PVar (w : World) (B g : Nat) (r : PR) : Prop := ∃ A n cp, Has w g 24 #[.int .i64 r.c, .int .u8 r.k, .slice A n cp] ∧ ORows w B (.slice A n cp) r.l
theorem PVar.mk' {w : World} {B g : Nat} {r : PR} {A : Option Addr} {n cp : Nat} (h1 : Has w g 24 #[.int .i64 r.c, .int .u8 r.k, .slice A n cp]) (h2 : ORows w B (.slice A n cp) r.l) : PVar w B g r := ⟨A, n, cp, h1, h2⟩


set_option maxRecDepth 100000 in
set_option maxHeartbeats 2000000 in
theorem pmake_any (c k : Int) (A : Option Addr) (n cp : Nat) (bl : List Bal) (w : World) (h : RBals w A n cp bl) :
    Calls Tryz.prog 12 #[.int .i64 c, .int .u8 k, .slice A n cp] w (PPostO w (makeP c k bl)) := by
  have hle := h.le
  have hl := hide h.len
  have hb0 : Below w.heap.size w (w.alloc (.cells #[.int .i64 0, .int .u8 0, .slice none 0 0] 24)) := (Below.refl _ _).alloc (Nat.le_refl _) _
  have hR0 : Has (w.alloc (.cells #[.int .i64 0, .int .u8 0, .slice none 0 0] 24)) w.heap.size 24 #[.int .i64 0, .int .u8 0, .slice none 0 0] := Has.new _ _ _
  have hz0 : (w.alloc (.cells #[.int .i64 0, .int .u8 0, .slice none 0 0] 24)).heap.size = w.heap.size + 1 := by simp
  obtain ⟨r0, hr0⟩ : ∃ r0 : PR, r0 = if newErr c k = 0 then ⟨0, c, k, []⟩ else badP 2 := ⟨_, rfl⟩
  have hnew : Calls Tryz.prog 16 #[.int .i64 c, .int .u8 k] (w.alloc (.cells #[.int .i64 0, .int .u8 0, .slice none 0 0] 24)) fun e w' => e = .returned (.tuple #[.agg #[.int .i64 r0.c, .int .u8 r0.k, .slice none 0 0], .int .i64 r0.err]) ∧ Below (w.alloc (.cells #[.int .i64 0, .int .u8 0, .slice none 0 0] 24)).heap.size (w.alloc (.cells #[.int .i64 0, .int .u8 0, .slice none 0 0] 24)) w' := by
    by_cases hn : newErr c k = 0
    · rw [if_pos hn] at hr0; subst hr0; exact new_ok c k _ hn
    · rw [if_neg hn] at hr0; subst hr0; exact new_bad c k _ hn
  have hl0 : r0.l = [] := by rw [hr0]; split <;> rfl
  have Hr0 : Hid (r0 = makeP c k (bl.take 0)) := by rw [hr0]; rfl
  have Hl0 := hide hl0
  clear hr0 hl0
  go_enter Tryz.func12, Tryz.ntmps12
  go_wp2_with fail
  refine hnew.mono ?_
  rintro e w1 ⟨rfl, hbw⟩
  have hR1 := hR0.below hbw hR0.lt
  have hb1 := Below_trans' hb0 hb0.size hbw
  have hz1 : w.heap.size + 1 ≤ w1.heap.size := by have := hbw.size; omega
  clear hnew hbw hR0 hb0 hz0
  go_upto_region 2 with fail
  have hu2 : Below w1.heap.size w1 (w1.alloc (.cells #[.int .i64 r0.c, .int .u8 r0.k, .slice none 0 0] 24)) := (Below.refl _ _).alloc (Nat.le_refl _) _
  have hV2 : Has (w1.alloc (.cells #[.int .i64 r0.c, .int .u8 r0.k, .slice none 0 0] 24)) w1.heap.size 24 #[.int .i64 r0.c, .int .u8 r0.k, .slice none 0 0] := Has.new _ _ _
  have hR2 := hR1.below hu2 hR1.lt
  have hb2 := Below_trans' hb1 hb1.size hu2
  have hz2 : w1.heap.size < (w1.alloc (.cells #[.int .i64 r0.c, .int .u8 r0.k, .slice none 0 0] 24)).heap.size := by simp
  generalize hW : World.alloc w1 _ = W2 at hV2 hR2 hb2 hz2
  try rw [hW]
  clear hW hu2 hR1 hb1
  generalize w1.heap.size = g1 at hV2 hz1 hz2 ⊢
  have hVV : PVar W2 (g1 + 1) g1 r0 := ⟨none, 0, 0, hV2, by rw [Hl0.out]; exact ORows.nil_ _ _⟩
  clear hV2
  go_wp2_with fail
  go_loopw [9, 20] (fun s9 i wr => ∃ (t : Nat) (r : PR), t ≤ n ∧ i = .int .i64 t ∧ s9 = .int .i64 r.err ∧ Hid (r = makeP c k (bl.take t)) ∧ PVar wr (g1 + 1) g1 r ∧ Has wr w.heap.size 24 #[.int .i64 0, .int .u8 0, .slice none 0 0] ∧ Below w.heap.size w wr ∧ g1 < wr.heap.size) (fun _ i _ => n - (intOf i).toNat)
  case atStart => exact ⟨0, r0, Nat.zero_le _, rfl, rfl, Hr0, hVV, hR2, hb2, hz2⟩
  case round =>
    clear hVV hR2 hb2 hz2
    obtain ⟨t, r, ht, rfl, rfl, hr, hV, hR, hb, hz⟩ := hrel
    by_cases hlt : t < n
    · obtain ⟨b, off, Am, nm, cm, kb, ms, rfl, hc0, hc1, hm0, hat⟩ := h.step hlt
      have q0 := keep_cell hb hc0
      have q1 := keep_cell hb hc1
      have b1 : (0 : Int) ≤ (t : Int) := by omega
      have b2 : (t : Int) < (n : Int) := by omega
      go_upto_region 5 with fail
      have hu : Below wr.heap.size wr (wr.alloc (.cells #[.int .u8 kb, .slice Am nm cm] 32)) := (Below.refl _ _).alloc (Nat.le_refl _) _
      have hB3 : Has (wr.alloc (.cells #[.int .u8 kb, .slice Am nm cm] 32)) wr.heap.size 32 #[.int .u8 kb, .slice Am nm cm] := Has.new _ _ _
      obtain ⟨A9, n9, c9, hP9, hO9⟩ := hV
      have hP3 := hP9.below hu hP9.lt
      have hO3 := hO9.below hu
      have hR3 := hR.below hu hR.lt
      have hb3 := Below_trans' hb hb.size hu
      have hz3 := Nat.lt_of_lt_of_le hz hu.size
      generalize hW : World.alloc wr _ = W3 at hB3 hP3 hO3 hR3 hb3 hz3
      try rw [hW]
      clear hW hu hP9 hO9 hR hb hz q0 q1
      generalize wr.heap.size = gb at hB3 ⊢
      by_cases he : r.err = 0
      · have hnext : Hid (makeP c k (bl.take (t + 1)) = addP r.c r.k r.l kb ms 1) := by unfold Hid; rw [makeP_take hat.out, ← hr.out]; unfold addS; rw [if_pos he]
        have he' : (r.err != 0) = false := by simp [he]
        clear he
        have p0 : W3.cell? ⟨g1, 0, none⟩ = some (.int .i64 r.c) := hP3.cell 0
        have p1 : W3.cell? ⟨g1, 1, none⟩ = some (.int .u8 r.k) := hP3.cell 1
        have p2 : W3.cell? ⟨g1, 2, none⟩ = some (.slice A9 n9 c9) := hP3.cell 2
        have s0 : W3.cell? ⟨gb, 0, none⟩ = some (.int .u8 kb) := hB3.cell 0
        have s1 : W3.cell? ⟨gb, 1, none⟩ = some (.slice Am nm cm) := hB3.cell 1
        go_wp2_with fail
        refine (padd_any r.c r.k A9 n9 c9 r.l kb Am nm cm ms 1 W3 hO3.rows (hm0.below hb3)).mono ?_
        rintro e w4 ⟨A4, n4, c4, rfl, hO4, hbw⟩
        have hP4 := hP3.below hbw hP3.lt
        have hR4 := hR3.below hbw hR3.lt
        have hb4 := Below_trans' hb3 hb3.size hbw
        have hz4 := Nat.lt_of_lt_of_le hz3 hbw.size
        have hO4 := hO4.mono (show g1 + 1 ≤ W3.heap.size by omega)
        obtain ⟨r', hr'⟩ : ∃ r', r' = addP r.c r.k r.l kb ms 1 := ⟨_, rfl⟩
        rw [← hr'] at hO4 ⊢
        have Hr' : Hid (r' = makeP c k (bl.take (t + 1))) := by unfold Hid; rw [hr', hnext.out]
        clear hr' hnext hP3 hO3 hR3 hB3 hb3 hz3 hbw p0 p1 p2 s0 s1 hr
        have hP5 := put3 (x' := .int .i64 r'.c) (y' := .int .u8 r'.k) (z' := .slice A4 n4 c4) hP4
        have k5 := frame3 w4 g1 (.int .i64 r'.c) (.int .u8 r'.k) (.slice A4 n4 c4)
        have hO5 := hO4.frame k5 (fun b hb _ e => by have e : b = g1 := e; omega)
        have hR5 := k5.has hR4 (by show ¬ (w.heap.size = g1); omega)
        have hb5 := below3 hb4 (show w.heap.size ≤ g1 by omega) (.int .i64 r'.c) (.int .u8 r'.k) (.slice A4 n4 c4)
        have hz5 := Nat.lt_of_lt_of_le hz4 k5.size
        have p0 : w4.cell? ⟨g1, 0, none⟩ = some (.int .i64 r.c) := hP4.cell 0
        have p1 : w4.cell? ⟨g1, 1, none⟩ = some (.int .u8 r.k) := hP4.cell 1
        have p2 : w4.cell? ⟨g1, 2, none⟩ = some (.slice A9 n9 c9) := hP4.cell 2
        have f0 := hP4.free 0
        have f1 := hP4.free 1
        have f2 := hP4.free 2
        clear hP4 hO4 hR4 hb4 hz4 k5
        go_wp2
        go_roundw
        case rel => exact ⟨t + 1, r', by omega, by go_num, rfl, Hr', ⟨A4, n4, c4, hP5, hO5⟩, hR5, hb5, hz5⟩
        case measure => simp [intOf] <;> omega
      · have hfin : Hid (makeP c k bl = r) := by unfold Hid; rw [makeP_stuck (t := t) (by rw [← hr.out]; exact he), ← hr.out]
        have he' : (r.err != 0) = true := by simp [he]
        have hV : PVar W3 (g1 + 1) g1 r := ⟨A9, n9, c9, hP3, hO3⟩
        have hR := hR3
        have hb := hb3
        clear he hr hP3 hO3 hB3 hR3 hb3
        obtain ⟨wr, hwr⟩ : ∃ wr, wr = W3 := ⟨_, rfl⟩
        subst hwr
        obtain ⟨A9, n9, c9, hP9, hO9⟩ := hV
        have hGl := hP9.lt
        have z0 : wr.cell? ⟨w.heap.size, 0, none⟩ = some (.int .i64 0) := hR.cell 0
        have z1 : wr.cell? ⟨w.heap.size, 1, none⟩ = some (.int .u8 0) := hR.cell 1
        have z2 : wr.cell? ⟨w.heap.size, 2, none⟩ = some (.slice none 0 0) := hR.cell 2
        have y0 := hR.free 0
        have y1 := hR.free 1
        have y2 := hR.free 2
        have p0 : wr.cell? ⟨g1, 0, none⟩ = some (.int .i64 r.c) := hP9.cell 0
        have p1 : wr.cell? ⟨g1, 1, none⟩ = some (.int .u8 r.k) := hP9.cell 1
        have p2 : wr.cell? ⟨g1, 2, none⟩ = some (.slice A9 n9 c9) := hP9.cell 2
        clear hP9 hGl
        go_wp2
        refine retProf2 rfl rfl rfl (put3 hR) rfl rfl ⟨A9, n9, c9, ?_, ?_, below3 hb (by omega) _ _ _⟩
        · rw [hfin.out]; rfl
        · rw [hfin.out]
          exact (hO9.frame (frame3 wr w.heap.size _ _ _) (fun b hb _ e => by have e : b = w.heap.size := e; omega)).mono (by omega)
    · have hfin : Hid (makeP c k bl = r) := by unfold Hid; rw [hr.out, List.take_of_length_le (by have := hl.out; omega)]
      have b2 : ¬ (t : Int) < (n : Int) := by omega
      clear hlt ht hr
      obtain ⟨A9, n9, c9, hP9, hO9⟩ := hV
      have hGl := hP9.lt
      have z0 : wr.cell? ⟨w.heap.size, 0, none⟩ = some (.int .i64 0) := hR.cell 0
      have z1 : wr.cell? ⟨w.heap.size, 1, none⟩ = some (.int .u8 0) := hR.cell 1
      have z2 : wr.cell? ⟨w.heap.size, 2, none⟩ = some (.slice none 0 0) := hR.cell 2
      have y0 := hR.free 0
      have y1 := hR.free 1
      have y2 := hR.free 2
      have p0 : wr.cell? ⟨g1, 0, none⟩ = some (.int .i64 r.c) := hP9.cell 0
      have p1 : wr.cell? ⟨g1, 1, none⟩ = some (.int .u8 r.k) := hP9.cell 1
      have p2 : wr.cell? ⟨g1, 2, none⟩ = some (.slice A9 n9 c9) := hP9.cell 2
      clear hP9 hGl
      go_wp2
      refine retProf2 rfl rfl rfl (put3 hR) rfl rfl ⟨A9, n9, c9, ?_, ?_, below3 hb (by omega) _ _ _⟩
      · rw [hfin.out]; rfl
      · rw [hfin.out]
        exact (hO9.frame (frame3 wr w.heap.size _ _ _) (fun b hb _ e => by have e : b = w.heap.size := e; omega)).mono (by omega)
end Go.Proofs.YtleniljhacnikaaGreat
