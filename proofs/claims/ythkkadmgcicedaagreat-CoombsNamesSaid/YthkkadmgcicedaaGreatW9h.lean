/-
  The library's BinarySearchFunc over rows; the program's place.
-/
import Derived.Test.YthkkadmgcicedaaGreatW9g
import Derived.Test.YthkkadmgcicedaaGreatSpecA
namespace Go.Proofs.YthkkadmgcicedaaGreat
open Go.RowKit Go.Proofs
attribute [local go_sem] cell?_more cell?_alloc_some cell?_setCell_far frozen?_alloc_some frozen?_more

/-- Are there ballots of the marks m? -/
def foundS (l : List Row) (m : List Int) : Bool := match l[plS l m]? with | some r => decide (r.1 = m) | none => false

theorem ret_ib {a a' : Int} {b b' : Bool} (h1 : a = a') (h2 : b = b') : Ending.returned (.tuple #[.int .i64 a, .bool b]) = .returned (.tuple #[.int .i64 a', .bool b']) := by rw [h1, h2]

theorem place1_any (Am : Option Addr) (nm cm : Nat) (ms : List Int) (y : Int) (A : Option Addr) (n c : Nat) (m : List Int) (w : World) (h : RInts w Am nm cm ms) (h' : RInts w A n c m) :
    Calls Tryz.prog 112 #[.agg #[.slice Am nm cm, .int .i64 y], .slice A n c] w fun e w' => e = .returned (.int .i64 (cmpL ms m)) ∧ Below w.heap.size w w' := by
  have hb0 : Below w.heap.size w (w.alloc (.cells #[.slice Am nm cm, .int .i64 y] 45)) := (Below.refl _ _).alloc (Nat.le_refl _) _
  go_enter Tryz.func112, Tryz.ntmps112
  go_wp2_with (go_at_call 78; refine (compareL_any _ _ _ _ _ _ ms m _ (h.below hb0) (h'.below hb0)).mono ?_; rintro e w' ⟨rfl, rfl⟩)
  go_ret
  exact ⟨rfl, hb0⟩

set_option maxHeartbeats 1000000 in
theorem bsf_any (A : Option Addr) (n c : Nat) (l : List Row) (A' : Option Addr) (n' c' : Nat) (m : List Int) (w : World) (h : RRows w A n c l) (h' : RInts w A' n' c' m) (hn : n ≤ 1000000) (hasc : Asc l) :
    Calls Tryz.prog 111 #[.slice A n c, .slice A' n' c', .func (.func 112) #[] #[]] w fun e w' => e = .returned (.tuple #[.int .i64 (plS l m), .bool (foundS l m)]) ∧ Below w.heap.size w w' := by
  have hl := h.len
  have Hasc := hide hasc
  clear hasc
  go_enter Tryz.func111, Tryz.ntmps111
  go_wp2_with fail
  go_loopw [9, 10] (fun i j wr => ∃ (a b : Nat), a ≤ b ∧ b ≤ n ∧ i = .int .i64 a ∧ j = .int .i64 b ∧ Hid (∀ k r, k < a → l[k]? = some r → cmpL r.1 m < 0) ∧ Hid (∀ k r, b ≤ k → l[k]? = some r → 0 ≤ cmpL r.1 m) ∧ Below w.heap.size w wr) (fun i j _ => (intOf j - intOf i).toNat)
  case atStart => exact ⟨0, n, Nat.zero_le _, Nat.le_refl _, rfl, rfl, fun k r hk => absurd hk (by omega), fun k r hk hr => absurd (List.getElem?_eq_some_iff.1 hr).1 (by omega), Below.refl _ _⟩
  case round =>
    obtain ⟨a, b, hab, hbn, rfl, rfl, hlo, hhi, hb⟩ := hrel
    by_cases hlt : a < b
    · have b1 : (a : Int) < (b : Int) := by omega
      have hd1 : a ≤ (a + b) / 2 := by omega
      have hd2 : (a + b) / 2 < b := by omega
      obtain ⟨bb, off, Am, nm, cm, ms, y, rfl, hc0, hm0, hc1, hdr, hat, hy⟩ := (h.below hb).step (show (a + b) / 2 < n by omega)
      go_wp2_with fail
      refine (place1_any Am nm cm ms y A' n' c' m wr hm0 (h'.below hb)).mono ?_
      rintro e w2 ⟨rfl, hbw⟩
      have hb2 := Below_trans' hb hb.size hbw
      by_cases hc : cmpL ms m < 0
      · have Hlo : Hid (∀ k r, k < (a + b) / 2 + 1 → l[k]? = some r → cmpL r.1 m < 0) := fun k r hk hr => by
          by_cases e : k = (a + b) / 2
          · subst e; rw [hat.out] at hr; cases hr; exact hc
          · exact cmpL_trans (Hasc.out.lt (show k < (a + b) / 2 by omega) hr hat.out) hc
        clear hlo
        go_wp2
        go_roundw
        case rel => exact ⟨(a + b) / 2 + 1, b, by omega, hbn, by go_num, rfl, Hlo, hhi, hb2⟩
        case measure => simp [intOf] <;> omega
      · have Hhi : Hid (∀ k r, (a + b) / 2 ≤ k → l[k]? = some r → 0 ≤ cmpL r.1 m) := fun k r hk hr => by
          by_cases e : k = (a + b) / 2
          · subst e; rw [hat.out] at hr; cases hr; exact Int.not_lt.1 hc
          · refine Int.not_lt.1 fun hh => ?_
            exact hc (cmpL_trans (Hasc.out.lt (show (a + b) / 2 < k by omega) hat.out hr) hh)
        clear hhi
        go_wp2
        go_roundw
        case rel => exact ⟨a, (a + b) / 2, by omega, by omega, rfl, by go_num, hlo, Hhi, hb2⟩
        case measure => simp [intOf] <;> omega
    · obtain rfl : a = b := by omega
      have hpl : Hid (plS l m = a) := plS_eq (by omega) hlo.out (fun r hr => Int.not_lt.2 (hhi.out a r (Nat.le_refl _) hr))
      clear hlo hhi
      by_cases han : a < n
      · have b1 : (a : Int) < (n : Int) := by omega
        have b2 : (0 : Int) ≤ (a : Int) := by omega
        obtain ⟨bb, off, Am, nm, cm, ms, y, rfl, hc0, hm0, hc1, hdr, hat, hy⟩ := (h.below hb).step han
        have hfo : Hid (foundS l m = decide (cmpL ms m = 0)) := by
          unfold Hid foundS
          rw [hpl.out, hat.out]
          simp only
          by_cases e : ms = m
          · rw [decide_eq_true e, decide_eq_true (cmpL_zero.2 e)]
          · rw [decide_eq_false e, decide_eq_false (fun h => e (cmpL_zero.1 h))]
        go_wp2_with fail
        refine (place1_any Am nm cm ms y A' n' c' m wr hm0 (h'.below hb)).mono ?_
        rintro e w2 ⟨rfl, hbw⟩
        have hb2 := Below_trans' hb hb.size hbw
        go_wp2
        go_ret2
        exact ⟨ret_ib (by rw [hpl.out]) (by rw [hfo.out]; rfl), hb2⟩
      · have b1 : ¬ (a : Int) < (n : Int) := by omega
        have hfo : Hid (foundS l m = false) := by
          unfold Hid foundS
          rw [hpl.out, List.getElem?_eq_none (by omega)]
        go_wp2
        go_ret2
        exact ⟨ret_ib (by rw [hpl.out]) (by rw [hfo.out]), hb⟩

theorem place9_any (c k : Int) (A : Option Addr) (n cp : Nat) (l : List Row) (A' : Option Addr) (n' c' : Nat) (m : List Int) (w : World) (h : RRows w A n cp l) (h' : RInts w A' n' c' m) (hn : n ≤ 1000000) (hasc : Asc l) :
    Calls Tryz.prog 97 #[.agg #[.int .i64 c, .int .u8 k, .slice A n cp], .slice A' n' c'] w fun e w' => e = .returned (.tuple #[.int .i64 (plS l m), .bool (foundS l m)]) ∧ Below w.heap.size w w' := by
  have hb0 : Below w.heap.size w (w.alloc (.cells #[.int .i64 c, .int .u8 k, .slice A n cp] 24)) := (Below.refl _ _).alloc (Nat.le_refl _) _
  have Hasc := hide hasc
  clear hasc
  go_enter Tryz.func97, Tryz.ntmps97
  go_wp2_with fail
  refine (bsf_any A n cp l A' n' c' m _ (h.below hb0) (h'.below hb0) hn Hasc.out).mono ?_
  rintro e w1 ⟨rfl, hbw⟩
  go_wp2
  go_ret2
  exact ⟨rfl, Below_trans' hb0 hb0.size hbw⟩
end Go.Proofs.YthkkadmgcicedaaGreat
