/-
  The reference of contests, and of assertions: small functions.
-/
import Derived.Test.YtkmcgpaoekphmaaW41q
import Derived.Test.YtkmcgpaoekphmaaW41e
namespace Go.Proofs.Ytkmcgpaoekphmaa
open Go.RowKit Go.Proofs Go.Shelf
attribute [local go_sem] cell?_more cell?_alloc_some cell?_setCell_far frozen?_alloc_some frozen?_more
theorem rcheck07_any (name : ByteArray) (A : Option Addr) (n cp : Nat) (cs : List ByteArray) (seats : Int) (rule : Nat) (w : World) (h : RStrs w A n cp cs) (hle : StrsLe name cs) :
    Calls Try.prog 30 #[.agg #[.string name, .slice A n cp, .int .i64 seats, .int .u8 (rule : Int)]] w fun e w' => e = .returned (.int .i64 (contestE name cs seats rule)) ∧ Below w.heap.size w w' := by
  have Hl := hide h.len
  have hb : Below w.heap.size w (w.alloc (.cells #[.string name, .slice A n cp, .int .i64 seats, .int .u8 (rule : Int)] 34)) := below_allocN
  have hP := Has.new w 34 #[.string name, .slice A n cp, .int .i64 seats, .int .u8 (rule : Int)]
  go_enter Try.func30, Try.ntmps30
  go_upto_region 1 with fail
  generalize World.alloc w _ = W0 at hb hP ⊢
  have p0 := hP.cell 0
  have p1 := hP.cell 1
  have p2 := hP.cell 2
  have p3 := hP.cell 3
  by_cases n10 : 10 < n
  · have hv : Hid (contestE name cs seats rule = 4) := by unfold Hid contestE; rw [Hl.out, if_pos n10]
    have b1 : (10 : Int) < (n : Int) := by omega
    go_wp2
    go_ret
    exact ⟨ret_i hv.out.symm, hb⟩
  · have b1 : ¬ (10 : Int) < (n : Int) := by omega
    have hv0 := hide (contest_may (name := name) (cs := cs) (seats := seats) (rule := rule) (by rw [Hl.out]; omega))
    have hM := rmay07_any name A n cp cs seats rule W0 (h.below hb) hle
    clear hle
    cases hm : mayB name cs seats rule with
    | true =>
      rw [hm] at hM
      have hv : Hid (contestE name cs seats rule = 0) := by unfold Hid; rw [hv0.out, hm]; rfl
      clear hm
      go_wp2_with fail
      refine hM.mono ?_
      rintro e w1 ⟨rfl, hb1⟩
      go_wp2
      go_ret
      exact ⟨ret_i hv.out.symm, Below_trans' hb hb.size hb1⟩
    | false =>
      rw [hm] at hM
      have hv : Hid (contestE name cs seats rule = 8) := by unfold Hid; rw [hv0.out, hm]; rfl
      clear hm
      go_wp2_with fail
      refine hM.mono ?_
      rintro e w1 ⟨rfl, hb1⟩
      go_wp2
      go_ret
      exact ⟨ret_i hv.out.symm, Below_trans' hb hb.size hb1⟩

/-- It says yes or no. -/
def SomeB (e : Ending) : Prop := ∃ b : Bool, e = .returned (.bool b)
set_option maxRecDepth 100000 in
theorem great07_any (name : ByteArray) (A : Option Addr) (n cp : Nat) (cs : List ByteArray) (seats : Int) (rule : Nat) (w : World) (h : RStrs w A n cp cs) :
    Calls Try.prog 14 #[.agg #[.string name, .slice A n cp, .int .i64 seats, .int .u8 (rule : Int)]] w fun e w' => SomeB e ∧ Below w.heap.size w w' := by
  have hn := h.le
  have hb : Below w.heap.size w (w.alloc (.cells #[.string name, .slice A n cp, .int .i64 seats, .int .u8 (rule : Int)] 34)) := below_allocN
  have hP := Has.new w 34 #[.string name, .slice A n cp, .int .i64 seats, .int .u8 (rule : Int)]
  go_enter Try.func14, Try.ntmps14
  go_upto_region 1 with fail
  generalize World.alloc w _ = W0 at hb hP ⊢
  have p0 := hP.cell 0
  have p1 := hP.cell 1
  have h0 := h.below hb
  by_cases c1 : 100 < n
  · have b1 : (100 : Int) < (n : Int) := by omega
    go_wp2
    go_ret
    exact ⟨⟨_, rfl⟩, hb⟩
  · have b1 : ¬ (100 : Int) < (n : Int) := by omega
    by_cases c2 : 1000 < name.size
    · have b2 : (1000 : Int) < (name.size : Int) := by omega
      go_wp2
      go_ret
      exact ⟨⟨_, rfl⟩, hb⟩
    · have b2 : ¬ (1000 : Int) < (name.size : Int) := by omega
      go_wp2
      go_loopw [3] (fun i wr => ∃ k : Nat, k ≤ n ∧ i = .int .i64 k ∧ W0 = wr) (fun i _ => n - (intOf i).toNat)
      case atStart => exact ⟨0, Nat.zero_le _, rfl, rfl⟩
      case round =>
        obtain ⟨k, hk, rfl, rfl⟩ := hrel
        by_cases hlt : k < n
        · obtain ⟨b, off, s, rfl, hc, _, _⟩ := h0.step hlt
          by_cases c3 : 1000 < s.size
          · have b3 : (1000 : Int) < (s.size : Int) := by omega
            go_wp2
            go_ret
            exact ⟨⟨_, rfl⟩, hb⟩
          · have b3 : ¬ (1000 : Int) < (s.size : Int) := by omega
            go_wp2
            go_roundw
            case rel => exact ⟨k + 1, by omega, by go_num, by trivial⟩
            case measure => simp [intOf] <;> omega
        · go_wp2
          go_ret
          exact ⟨⟨_, rfl⟩, hb⟩

set_option maxRecDepth 100000 in
theorem in41_any (A : Option Addr) (n c : Nat) (xs : List Int) (x : Int) (w : World) (h : RInts w A n c xs) :
    Calls Try.prog 34 #[.slice A n c, .int .i64 x] w fun e w' => e = .returned (.bool (inL xs x)) ∧ w = w' := by
  have hn := h.le
  have Hl := hide h.len
  go_enter Try.func34, Try.ntmps34
  go_wp2
  go_loopw [5] (fun i wr => ∃ k : Nat, k ≤ n ∧ i = .int .i64 k ∧ Hid (inL (xs.take k) x = false) ∧ w = wr) (fun i _ => n - (intOf i).toNat)
  case atStart => exact ⟨0, Nat.zero_le _, rfl, rfl, rfl⟩
  case round =>
    obtain ⟨k, hk, rfl, hp, rfl⟩ := hrel
    by_cases hlt : k < n
    · obtain ⟨b, off, v, rfl, hc, _, hat, _⟩ := h.step hlt
      by_cases hv : v = x
      · have b1 : (v == x) = true := by simp [hv]
        have hr : Hid (inL xs x = true) := inL_iff.2 (hv ▸ List.mem_of_getElem? hat.out)
        clear hv
        go_wp2
        go_ret
        exact ⟨ret_b hr.out.symm, by trivial⟩
      · have b1 : (v == x) = false := by simp [hv]
        have hr : Hid (inL (xs.take (k + 1)) x = false) := by
          unfold Hid
          rw [take_succ_of hat.out]
          have := hp.out
          unfold inL at *
          simp only [decide_eq_false_iff_not, List.mem_append, List.mem_singleton] at *
          exact fun h => h.elim this (fun e => hv e.symm)
        clear hv
        go_wp2
        go_roundw
        case rel => exact ⟨k + 1, by omega, by go_num, hr, by trivial⟩
        case measure => simp [intOf] <;> omega
    · have hr : Hid (inL xs x = false) := by
        have := hp.out
        rw [List.take_of_length_le (by rw [Hl.out]; omega)] at this
        exact this
      go_wp2
      go_ret
      exact ⟨ret_b hr.out.symm, rfl⟩
theorem in41_val {E : Bool} (A : Option Addr) (n c : Nat) (xs : List Int) (x : Int) (w : World) (h : RInts w A n c xs) (hE : inL xs x = E) : Calls Try.prog 34 #[.slice A n c, .int .i64 x] w fun e w' => e = .returned (.bool E) ∧ w = w' := hE ▸ in41_any A n c xs x w h
set_option maxRecDepth 100000 in
theorem left41_any (A : Option Addr) (n c : Nat) (gone : List Int) (C : Nat) (hC : C ≤ 10) (w : World) (h : RInts w A n c gone) :
    Calls Try.prog 56 #[.slice A n c, .int .i64 (C : Int)] w fun e w' => ∃ v, e = .returned v ∧ Own w' w.heap.size v (othersL gone C) ∧ Below w.heap.size w w' := by
  go_enter Try.func56, Try.ntmps56
  go_wp2
  go_loopw [5, 6] (fun v i wr => ∃ k : Nat, k ≤ C ∧ i = .int .i64 k ∧ Own wr w.heap.size v (othersL gone k) ∧ Below w.heap.size w wr) (fun _ i _ => C - (intOf i).toNat)
  case atStart => exact ⟨0, Nat.zero_le _, rfl, Own.nil_ _ _, Below.refl _ _⟩
  case round =>
    obtain ⟨k, hk, rfl, hO, hb⟩ := hrel
    obtain ⟨wo, rfl⟩ : ∃ wo : World, wo = wr := ⟨_, rfl⟩
    have h1 := h.below hb
    by_cases hlt : k < C
    · cases hin : inL gone k with
      | true =>
        have hnx := hide (others_succ_in hin)
        have Hin := hide hin
        clear hin
        go_wp2_with (go_at_call 34; with_reducible refine (in41_val _ _ _ _ _ _ h1 Hin.out).mono ?_; rintro e w' ⟨rfl, rfl⟩)
        go_roundw
        case rel => exact ⟨k + 1, by omega, by go_num, by rw [hnx.out]; exact hO, hb⟩
        case measure => simp [intOf] <;> omega
      | false =>
        have hnx := hide (others_succ_out hin)
        have Hin := hide hin
        clear hin
        have hol := hide (others_le gone k)
        have hz := hb.size
        obtain ⟨ml, hml⟩ : ∃ m, m = (othersL gone k).length := ⟨_, rfl⟩
        go_wp2_with (first | (go_at_call 34; with_reducible refine (in41_val _ _ _ _ _ _ h1 Hin.out).mono ?_; rintro e w' ⟨rfl, rfl⟩) | (at_builtin; refine appInt rfl rfl rfl (hO.below below_allocN) rfl ((Has.new _ _ _).cell 0) (by have := hol.out; omega) (by simp; omega) ?_))
        intro v' w' hO' hg
        have hb3 : Below w.heap.size w w' := (hb.alloc hz _).grown hg (by simp; omega) (fun i hi => (hO.lt i hi).1)
        clear hml
        go_wp2
        go_roundw
        case rel => exact ⟨k + 1, by omega, by go_num, by rw [hnx.out]; exact hO', hb3⟩
        case measure => simp [intOf] <;> omega
    · obtain rfl : C = k := by omega
      go_wp2
      go_ret
      exact ⟨_, rfl, hO, hb⟩
end Go.Proofs.Ytkmcgpaoekphmaa
