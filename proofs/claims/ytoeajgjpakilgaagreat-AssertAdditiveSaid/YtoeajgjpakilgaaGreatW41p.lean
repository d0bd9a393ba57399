/-
  The reference's Great of assertions and outcomes.
-/
import Derived.Test.YtoeajgjpakilgaaGreatW41n
namespace Go.Proofs.YtoeajgjpakilgaaGreat
open Go.RowKit Go.Proofs Go.Shelf
attribute [local go_sem] cell?_more cell?_alloc_some cell?_setCell_far frozen?_alloc_some frozen?_more
def bgr41 (ms : List Int) : Bool := decide (60 < ms.length)
theorem bgr41_any (k : Int) (A : Option Addr) (n c : Nat) (ms : List Int) (w : World) (h : RInts w A n c ms) :
    Calls Tryz.prog 5 #[.agg #[.int .u8 k, .slice A n c]] w fun e w' => e = .returned (.bool (bgr41 ms)) ∧ Below w.heap.size w w' := by
  have hl := hide h.len
  have hle := h.le
  have hb0 : Below w.heap.size w (w.alloc (.cells #[.int .u8 k, .slice A n c] 29)) := (Below.refl _ _).alloc (Nat.le_refl _) _
  go_enter Tryz.func5, Tryz.ntmps5
  go_wp2
  go_ret
  exact ⟨ret_b (by unfold bgr41; rw [hl.out]; exact decide_eq_decide.2 (by omega)), hb0⟩
/-- Is one of the first 41 rounds too large? -/
def wideR (outs : List (List Int)) : Bool := (outs.take 41).any fun o => decide (40 < o.length)
def great41 (L el : List Int) (outs : List (List Int)) : Bool := wideR outs || decide (40 < L.length) || decide (40 < outs.length) || decide (40 < el.length)
set_option maxRecDepth 100000 in
set_option maxHeartbeats 2000000 in
theorem great41_any (k x y : Int) (A : Option Addr) (n cp : Nat) (L : List Int) (Ae : Option Addr) (ne ce : Nat) (el : List Int) (Ar : Option Addr) (nr cr : Nat) (outs : List (List Int)) (vt : Option Addr) (nt ct : Nat) (w : World)
    (h : RInts w A n cp L) (he : RInts w Ae ne ce el) (hr : RAgg ERo 6 w Ar nr cr outs) :
    Calls Tryz.prog 4 #[.agg #[.int .u8 k, .int .i64 x, .int .i64 y, .slice A n cp], .agg #[.slice Ae ne ce, .slice Ar nr cr, .slice vt nt ct]] w fun e w' => e = .returned (.bool (great41 L el outs)) ∧ Below w.heap.size w w' := by
  have Hl := hide h.len
  have Hel := hide he.len
  have Hrl := hide hr.len
  have hn := h.le
  have hn1 := he.le
  have hn2 := hr.le
  have hb0 : Below w.heap.size w (w.alloc (.cells #[.int .u8 k, .int .i64 x, .int .i64 y, .slice A n cp] 24)) := below_allocN
  have hP := Has.new w 24 #[.int .u8 k, .int .i64 x, .int .i64 y, .slice A n cp]
  have hb1 : Below (w.alloc (.cells #[.int .u8 k, .int .i64 x, .int .i64 y, .slice A n cp] 24)).heap.size (w.alloc (.cells #[.int .u8 k, .int .i64 x, .int .i64 y, .slice A n cp] 24)) ((w.alloc (.cells #[.int .u8 k, .int .i64 x, .int .i64 y, .slice A n cp] 24)).alloc (.cells #[.slice Ae ne ce, .slice Ar nr cr, .slice vt nt ct] 34)) := below_allocN
  have hQ := Has.new (w.alloc (.cells #[.int .u8 k, .int .i64 x, .int .i64 y, .slice A n cp] 24)) 34 #[.slice Ae ne ce, .slice Ar nr cr, .slice vt nt ct]
  have hP1 := hP.below hb1 hP.lt
  have hb := Below_trans' hb0 hb0.size hb1
  clear hb0 hb1 hP
  rw [World.size_alloc] at hQ
  go_enter Tryz.func4, Tryz.ntmps4
  go_upto_region 1 with fail
  generalize World.alloc (World.alloc w _) _ = W0 at hb hP1 hQ ⊢
  have p3 := hP1.cell 3
  have q0 := hQ.cell 0
  have q1 := hQ.cell 1
  have hr0 := hr.below below_ro hb
  go_wp2
  go_loopw [5] (fun i wr => ∃ X : Nat, X ≤ nr ∧ X ≤ 41 ∧ i = .int .i64 X ∧ Hid ((outs.take X).any (fun o => decide (40 < o.length)) = false) ∧ W0 = wr) (fun i _ => nr - (intOf i).toNat)
  case atStart => exact ⟨0, Nat.zero_le _, by omega, rfl, rfl, rfl⟩
  case round =>
    obtain ⟨X, hX, hX41, rfl, hp, rfl⟩ := hrel
    by_cases hlt : X < nr ∧ X ≤ 40
    · obtain ⟨hlt, h40⟩ := hlt
      obtain ⟨br, or_, vs, o, rfl, _, hcell, ⟨A1, n1, c1, b1, A2, n2, c2, A3, n3, c3, A4, n4, c4, Ao, no, co, rfl, hO⟩, _, hat⟩ := hr0.step (k := X) hlt
      have r5 := hcell 5 _ rfl
      clear hcell
      have hol := hide hO.len
      have hno := hO.le
      have b40 : (X : Int) ≤ 40 := by omega
      by_cases hw : 40 < no
      · have hv : Hid (great41 L el outs = true) := by
          unfold Hid great41 wideR
          have : (outs.take 41).any (fun o => decide (40 < o.length)) = true := List.any_eq_true.2 ⟨o, List.mem_of_getElem? (i := X) (by rw [List.getElem?_take_of_lt (by omega)]; exact hat.out), by rw [hol.out]; simpa using hw⟩
          rw [this]; rfl
        have b1 : (40 : Int) < (no : Int) := by omega
        go_wp2
        go_ret
        exact ⟨ret_b hv.out.symm, hb⟩
      · have hnx : Hid ((outs.take (X + 1)).any (fun o => decide (40 < o.length)) = false) := by
          unfold Hid
          rw [List.take_add_one, hat.out]
          show (outs.take X ++ [o]).any _ = false
          rw [List.any_append, hp.out, List.any_cons, hol.out]; simp; omega
        have b1 : ¬ (40 : Int) < (no : Int) := by omega
        go_wp2
        go_roundw
        case rel => exact ⟨X + 1, by omega, by omega, by go_num, hnx, by trivial⟩
        case measure => simp [intOf] <;> omega
    · have hv : Hid (great41 L el outs = (decide (40 < (n : Int)) || decide (40 < (nr : Int)) || decide (40 < (ne : Int)))) := by
        have hw : wideR outs = false ∨ 40 < nr := by
          rcases Nat.lt_or_ge 40 nr with h1 | h1
          · exact .inr h1
          · left
            have : X = nr := by omega
            unfold wideR
            rw [List.take_of_length_le (by rw [Hrl.out]; omega), ← List.take_of_length_le (l := outs) (i := X) (by rw [Hrl.out]; omega)]
            exact hp.out
        unfold Hid great41
        rw [Hl.out, Hel.out, Hrl.out]
        rcases hw with hw | hw
        · rw [hw, Bool.false_or]
          have e1 : decide (40 < n) = decide (40 < (n : Int)) := by rw [decide_eq_decide]; omega
          have e2 : decide (40 < nr) = decide (40 < (nr : Int)) := by rw [decide_eq_decide]; omega
          have e3 : decide (40 < ne) = decide (40 < (ne : Int)) := by rw [decide_eq_decide]; omega
          rw [e1, e2, e3]
        · rw [decide_eq_true hw, decide_eq_true (show (40 : Int) < (nr : Int) by omega)]; simp
      by_cases c1 : 40 < n
      · have b1 : (40 : Int) < (n : Int) := by omega
        have hv2 : Hid (great41 L el outs = true) := by unfold Hid; rw [hv.out, decide_eq_true b1]; rfl
        by_cases hxn : X < nr
        · have b2 : ¬ (X : Int) ≤ 40 := by omega
          clear hlt hv
          go_wp2
          go_ret
          exact ⟨ret_b hv2.out.symm, hb⟩
        · clear hlt hv
          go_wp2
          go_ret
          exact ⟨ret_b hv2.out.symm, hb⟩
      · have b1 : ¬ (40 : Int) < (n : Int) := by omega
        by_cases c2 : 40 < nr
        · have b3 : (40 : Int) < (nr : Int) := by omega
          have hv2 : Hid (great41 L el outs = true) := by unfold Hid; rw [hv.out, decide_eq_true b3]; simp
          have b2 : ¬ (X : Int) ≤ 40 ∨ ¬ X < nr := by omega
          by_cases hxn : X < nr
          · have b2 : ¬ (X : Int) ≤ 40 := by omega
            clear hlt hv
            go_wp2
            go_ret
            exact ⟨ret_b hv2.out.symm, hb⟩
          · clear hlt hv
            go_wp2
            go_ret
            exact ⟨ret_b hv2.out.symm, hb⟩
        · have b3 : ¬ (40 : Int) < (nr : Int) := by omega
          have hv2 : Hid (great41 L el outs = decide (40 < (ne : Int))) := by unfold Hid; rw [hv.out, decide_eq_false b1, decide_eq_false b3]; rfl
          have hxn : ¬ X < nr := by omega
          clear hlt hv
          go_wp2
          go_ret
          exact ⟨ret_b hv2.out.symm, hb⟩
end Go.Proofs.YtoeajgjpakilgaaGreat
