/-
  The arguments of a count: Lot, Check, May.
  Outcomes that are equal are told equal: Same, rounds, Ties, All.
-/
import Derived.Test.YtolbceckbnifmaaGreatW11d
import Derived.Test.YtolbceckbnifmaaGreatW9a
import Derived.Test.YtolbceckbnifmaaGreatW8e
import Derived.Test.YtolbceckbnifmaaGreatApp2
import Derived.Test.YtolbceckbnifmaaGreatW8a
namespace Go.Proofs.YtolbceckbnifmaaGreat
open Go.RowKit Go.Proofs Go.Shelf
attribute [local go_sem] cell?_more cell?_alloc_some cell?_setCell_far frozen?_alloc_some frozen?_more
/-- Is the lot one of c candidates? -/
def lotS (lot : List Int) (c : Int) : Bool := decide ((lot.length : Int) = c) && turnedS lot
/-- The error of a count. -/
def mayS (c k : Int) (l : List Row) (kind seats most : Int) (lot : List Int) : Int :=
  if checkS c k l ≠ 0 ∨ k ≠ kind then 8 else if seats < 1 ∨ most < seats ∨ 10 < seats ∨ lotS lot c = false then 2 else 0

theorem rlot_any (A : Option Addr) (n c : Nat) (lot : List Int) (cands : Int) (w : World) (h : RInts w A n c lot) :
    Calls Tryz.prog 38 #[.slice A n c, .int .i64 cands] w fun e w' => e = .returned (.bool (lotS lot cands)) ∧ w = w' := by
  have hl := h.len
  have ht := rturned_any A n c lot w h
  by_cases e : (n : Int) = cands
  · have b1 : ((n : Int) == cands) = true := by simpa using e
    have hr : Hid (lotS lot cands = turnedS lot) := by unfold Hid lotS; rw [hl, decide_eq_true e]; rfl
    clear hl e
    go_enter Tryz.func38, Tryz.ntmps38
    go_wp2_with fail
    refine ht.mono ?_
    rintro e w' ⟨rfl, rfl⟩
    go_wp2
    go_ret
    exact ⟨ret_b hr.out.symm, rfl⟩
  · have b1 : ((n : Int) == cands) = false := by simpa using e
    have hr : Hid (lotS lot cands = false) := by unfold Hid lotS; rw [hl, decide_eq_false e]; rfl
    clear hl e
    go_enter Tryz.func38, Tryz.ntmps38
    go_wp2
    go_ret
    exact ⟨ret_b hr.out.symm, rfl⟩

set_option maxRecDepth 100000 in
theorem plot_any (A : Option Addr) (n c : Nat) (lot : List Int) (cands : Int) (w : World) (h : RInts w A n c lot) (hn : n ≤ 1000) (h1 : 1 ≤ cands) (h10 : cands ≤ 10) :
    Calls Tryz.prog 79 #[.slice A n c, .int .i64 cands] w fun e w' => e = .returned (.bool (lotS lot cands)) ∧ Below w.heap.size w w' := by
  have hl := hide h.len
  have hbv : Below w.heap.size w (w.alloc (.cells #[.slice A n c] 28)) := (Below.refl _ _).alloc (Nat.le_refl _) _
  have hcall := sortedL_any w.heap.size A n c lot (w.alloc (.cells #[.slice A n c] 28)) ((Has.new w 28 #[.slice A n c]).cell 0) (h.below hbv) (by omega)
  have hbd := hide (fun x (hx : x ∈ lot) => h.bd hx)
  have hcs := hide (And.intro h1 h10)
  clear h h1 h10
  go_enter Tryz.func79, Tryz.ntmps79
  go_wp2_with (first
    | (go_at_call 114; refine (values_any _ _ _ _).mono ?_; rintro e w' ⟨rfl, rfl⟩)
    | (go_at_call 113; refine hcall.mono ?_; rintro e w1 ⟨A1, c1, ys, rfl, hO, hp, hs, hb⟩))
  have hb1 := Below_trans' hbv hbv.size hb
  have hr1 := hO.ints (fun x hx => hbd.out x (hp.subset hx))
  have Hp := hide hp
  have Hs := hide hs
  have hpn : (lot.length : Int) ≤ 1000 := by rw [hl.out]; omega
  clear hcall hb hbv hp hs hO
  go_loop [13] (fun i => ∃ t : Nat, t ≤ lot.length ∧ i = .int .i64 t ∧ Hid (ys.take t = rangeI t)) (fun i => lot.length - (intOf i).toNat)
  case atStart => exact ⟨0, Nat.zero_le _, rfl, by simp [Hid, rangeI]⟩
  case round =>
    obtain ⟨t, ht, rfl, hpre⟩ := hrel
    by_cases hlt : t < lot.length
    · obtain ⟨b, off, v, rfl, hc, hd, hat, _⟩ := hr1.step hlt
      by_cases hv : v = t
      · have hv' : ((t : Int) != v) = false := by simp [hv]
        have Hv := hide hv
        clear hv
        go_wp2
        go_round
        case rel => exact ⟨t + 1, by omega, by go_num, by unfold Hid; rw [take_succ_of hat.out, hpre.out, Hv.out, rangeI_succ]⟩
        case measure => simp [intOf] <;> omega
      · have hv' : ((t : Int) != v) = true := by simp [Ne.symm hv]
        have Hv := hide hv
        clear hv
        go_wp2
        go_ret
        refine ⟨ret_b ?_, hb1⟩
        unfold lotS
        refine Eq.symm (Bool.eq_false_iff.2 fun ht => Hv.out ?_)
        rw [Bool.and_eq_true] at ht
        have e := ((turned_sorted Hp.out Hs.out).1 ht.2).2.2
        have h2 := hat.out
        rw [e, get_rangeI hlt] at h2
        exact (Option.some.inj h2).symm
    · have hte : Hid (t = lot.length) := by unfold Hid; omega
      have hx : Hid (ys = rangeI lot.length) := by
        have h2 := hpre.out
        rw [hte.out, List.take_of_length_le (by rw [Hp.out.length_eq]; exact Nat.le_refl _)] at h2
        exact h2
      by_cases e : (lot.length : Int) = cands
      · have b1 : ((lot.length : Int) == cands) = true := by simpa using e
        have hr : Hid (lotS lot cands = true) := by
          unfold Hid lotS
          rw [decide_eq_true e, (turned_sorted Hp.out Hs.out).2 ⟨by have := hcs.out; omega, by have := hcs.out; omega, hx.out⟩]; rfl
        clear e
        go_wp2
        go_ret
        exact ⟨ret_b hr.out.symm, hb1⟩
      · have b1 : ((lot.length : Int) == cands) = false := by simpa using e
        have hr : Hid (lotS lot cands = false) := by unfold Hid lotS; rw [decide_eq_false e]; rfl
        clear e
        go_wp2
        go_ret
        exact ⟨ret_b hr.out.symm, hb1⟩

theorem may_bad {c k : Int} {l : List Row} {kind seats most : Int} {lot : List Int} (h : checkS c k l ≠ 0 ∨ k ≠ kind) : mayS c k l kind seats most lot = 8 := by unfold mayS; rw [if_pos h]
theorem may_arg {c k : Int} {l : List Row} {kind seats most : Int} {lot : List Int} (h : checkS c k l = 0) (hk : k = kind) (h2 : seats < 1 ∨ most < seats ∨ 10 < seats ∨ lotS lot c = false) : mayS c k l kind seats most lot = 2 := by unfold mayS; rw [if_neg (fun h' => h'.elim (fun h'' => h'' h) (fun h'' => h'' hk)), if_pos h2]
theorem may_ok {c k : Int} {l : List Row} {kind seats most : Int} {lot : List Int} (h : checkS c k l = 0) (hk : k = kind) (h2 : ¬ (seats < 1 ∨ most < seats ∨ 10 < seats ∨ lotS lot c = false)) : mayS c k l kind seats most lot = 0 := by unfold mayS; rw [if_neg (fun h' => h'.elim (fun h'' => h'' h) (fun h'' => h'' hk)), if_neg h2]

set_option maxRecDepth 100000 in
set_option maxHeartbeats 1000000 in
theorem may_any (c k : Int) (A : Option Addr) (n cp : Nat) (l : List Row) (kind seats most : Int) (A' : Option Addr) (n' c' : Nat) (lot : List Int) (w : World) (h : RRows w A n cp l) (h' : RInts w A' n' c' lot) :
    Calls Tryz.prog 60 #[.agg #[.int .i64 c, .int .u8 k, .slice A n cp], .int .u8 kind, .int .i64 seats, .int .i64 most, .slice A' n' c'] w fun e w' => e = .returned (.int .i64 (mayS c k l kind seats most lot)) ∧ Below w.heap.size w w' := by
  have hb0 : Below w.heap.size w (w.alloc (.cells #[.int .i64 c, .int .u8 k, .slice A n cp] 27)) := (Below.refl _ _).alloc (Nat.le_refl _) _
  have hH0 := Has.new w 27 #[.int .i64 c, .int .u8 k, .slice A n cp]
  generalize hW : World.alloc w _ = W0 at hb0 hH0
  have s0 := hH0.cell 0
  have s1 := hH0.cell 1
  have s2 := hH0.cell 2
  go_enter Tryz.func60, Tryz.ntmps60
  go_wp2_with fail
  try rw [hW]
  clear hW
  refine (rcheck_any c k A n cp l W0 (h.below hb0)).mono ?_
  rintro e w1 ⟨rfl, hb1⟩
  have hb01 := Below_trans' hb0 hb0.size hb1
  have hH1 := hH0.below hb1 hH0.lt
  have r0 := hH1.cell 0
  have r1 := hH1.cell 1
  have r2 := hH1.cell 2
  clear hH0 s0 s1 s2
  by_cases hE : checkS c k l = 0
  · have e1 : (checkS c k l != 0) = false := by simp [hE]
    by_cases hk : k = kind
    · have e2 : (k != kind) = false := by simp [hk]
      have HE := hide hE
      have HK := hide hk
      clear hE hk
      by_cases h1 : seats < 1
      · have hr : Hid (mayS c k l kind seats most lot = 2) := may_arg HE.out HK.out (.inl h1)
        go_wp2
        go_ret
        exact ⟨ret_i hr.out.symm, hb01⟩
      · by_cases h2 : most < seats
        · have hr : Hid (mayS c k l kind seats most lot = 2) := may_arg HE.out HK.out (.inr (.inl h2))
          go_wp2
          go_ret
          exact ⟨ret_i hr.out.symm, hb01⟩
        · by_cases h3 : 10 < seats
          · have hr : Hid (mayS c k l kind seats most lot = 2) := may_arg HE.out HK.out (.inr (.inr (.inl h3)))
            go_wp2
            go_ret
            exact ⟨ret_i hr.out.symm, hb01⟩
          · have hlot := rlot_any A' n' c' lot c w1 (h'.below hb01)
            cases hL : lotS lot c with
            | false =>
              have hr : Hid (mayS c k l kind seats most lot = 2) := may_arg HE.out HK.out (.inr (.inr (.inr hL)))
              rw [hL] at hlot
              go_wp2_with fail
              refine hlot.mono ?_
              rintro e w' ⟨rfl, rfl⟩
              go_wp2
              go_ret
              exact ⟨ret_i hr.out.symm, hb01⟩
            | true =>
              have hr : Hid (mayS c k l kind seats most lot = 0) := may_ok HE.out HK.out (by simp [h1, h2, h3, hL])
              rw [hL] at hlot
              go_wp2_with fail
              refine hlot.mono ?_
              rintro e w' ⟨rfl, rfl⟩
              go_wp2
              go_ret
              exact ⟨ret_i hr.out.symm, hb01⟩
    · have e2 : (k != kind) = true := by simp [hk]
      have hr : Hid (mayS c k l kind seats most lot = 8) := may_bad (.inr hk)
      clear hE hk
      go_wp2
      go_ret
      exact ⟨ret_i hr.out.symm, hb01⟩
  · have e1 : (checkS c k l != 0) = true := by simp [hE]
    have hr : Hid (mayS c k l kind seats most lot = 8) := may_bad (.inl hE)
    clear hE
    go_wp2
    go_ret
    exact ⟨ret_i hr.out.symm, hb01⟩
set_option maxRecDepth 100000 in
set_option maxHeartbeats 1000000 in
theorem ccheck_any (c k : Int) (A : Option Addr) (n cp : Nat) (l : List Row) (kind seats most : Int) (A' : Option Addr) (n' c' : Nat) (lot : List Int) (w : World) (h : RRows w A n cp l) (h' : RInts w A' n' c' lot) (hn : n' ≤ 1000) :
    Calls Tryz.prog 51 #[.agg #[.int .i64 c, .int .u8 k, .slice A n cp], .int .u8 kind, .int .i64 seats, .int .i64 most, .slice A' n' c'] w fun e w' => e = .returned (.int .i64 (mayS c k l kind seats most lot)) ∧ Below w.heap.size w w' := by
  have hb0 : Below w.heap.size w (w.alloc (.cells #[.int .i64 c, .int .u8 k, .slice A n cp] 27)) := (Below.refl _ _).alloc (Nat.le_refl _) _
  have hH0 := Has.new w 27 #[.int .i64 c, .int .u8 k, .slice A n cp]
  generalize hW : World.alloc w _ = W0 at hb0 hH0
  have s0 := hH0.cell 0
  have s1 := hH0.cell 1
  have s2 := hH0.cell 2
  go_enter Tryz.func51, Tryz.ntmps51
  go_wp2_with fail
  try rw [hW]
  clear hW
  refine (pcheck_any c k A n cp l W0 (h.below hb0)).mono ?_
  rintro e w1 ⟨rfl, hb1⟩
  have hb01 := Below_trans' hb0 hb0.size hb1
  have hH1 := hH0.below hb1 hH0.lt
  have r0 := hH1.cell 0
  have r1 := hH1.cell 1
  have r2 := hH1.cell 2
  clear hH0 s0 s1 s2
  by_cases hE : checkS c k l = 0
  · have e1 : (checkS c k l != 0) = false := by simp [hE]
    by_cases hk : k = kind
    · have e2 : (k != kind) = false := by simp [hk]
      have HE := hide hE
      have HK := hide hk
      clear hE hk
      by_cases h1 : seats < 1
      · have hr : Hid (mayS c k l kind seats most lot = 2) := may_arg HE.out HK.out (.inl h1)
        go_wp2
        go_ret
        exact ⟨ret_i hr.out.symm, hb01⟩
      · by_cases h4 : 10 < most
        · by_cases h3 : 10 < seats
          · have hr : Hid (mayS c k l kind seats most lot = 2) := may_arg HE.out HK.out (.inr (.inr (.inl h3)))
            go_wp2
            go_ret
            exact ⟨ret_i hr.out.symm, hb01⟩
          · have h2 : ¬ most < seats := by omega
            have hcd : 1 ≤ c ∧ c ≤ 10 := ⟨(check_ok HE.out).2.1, (check_ok HE.out).2.2.1⟩
            have hlot := plot_any A' n' c' lot c w1 (h'.below hb01) hn hcd.1 hcd.2
            clear hcd
            cases hL : lotS lot c with
            | false =>
              have hr : Hid (mayS c k l kind seats most lot = 2) := may_arg HE.out HK.out (.inr (.inr (.inr hL)))
              rw [hL] at hlot
              go_wp2_with fail
              refine hlot.mono ?_
              rintro e w2 ⟨rfl, hb2⟩
              replace hb01 := Below_trans' hb01 hb01.size hb2
              go_wp2
              go_ret
              exact ⟨ret_i hr.out.symm, hb01⟩
            | true =>
              have hr : Hid (mayS c k l kind seats most lot = 0) := may_ok HE.out HK.out (by simp [h1, h2, h3, hL])
              rw [hL] at hlot
              go_wp2_with fail
              refine hlot.mono ?_
              rintro e w2 ⟨rfl, hb2⟩
              replace hb01 := Below_trans' hb01 hb01.size hb2
              go_wp2
              go_ret
              exact ⟨ret_i hr.out.symm, hb01⟩
        · by_cases h2 : most < seats
          · have hr : Hid (mayS c k l kind seats most lot = 2) := may_arg HE.out HK.out (.inr (.inl h2))
            go_wp2
            go_ret
            exact ⟨ret_i hr.out.symm, hb01⟩
          · have h3 : ¬ 10 < seats := by omega
            have hcd : 1 ≤ c ∧ c ≤ 10 := ⟨(check_ok HE.out).2.1, (check_ok HE.out).2.2.1⟩
            have hlot := plot_any A' n' c' lot c w1 (h'.below hb01) hn hcd.1 hcd.2
            clear hcd
            cases hL : lotS lot c with
            | false =>
              have hr : Hid (mayS c k l kind seats most lot = 2) := may_arg HE.out HK.out (.inr (.inr (.inr hL)))
              rw [hL] at hlot
              go_wp2_with fail
              refine hlot.mono ?_
              rintro e w2 ⟨rfl, hb2⟩
              replace hb01 := Below_trans' hb01 hb01.size hb2
              go_wp2
              go_ret
              exact ⟨ret_i hr.out.symm, hb01⟩
            | true =>
              have hr : Hid (mayS c k l kind seats most lot = 0) := may_ok HE.out HK.out (by simp [h1, h2, h3, hL])
              rw [hL] at hlot
              go_wp2_with fail
              refine hlot.mono ?_
              rintro e w2 ⟨rfl, hb2⟩
              replace hb01 := Below_trans' hb01 hb01.size hb2
              go_wp2
              go_ret
              exact ⟨ret_i hr.out.symm, hb01⟩
    · have e2 : (k != kind) = true := by simp [hk]
      have hr : Hid (mayS c k l kind seats most lot = 8) := may_bad (.inr hk)
      clear hE hk
      go_wp2
      go_ret
      exact ⟨ret_i hr.out.symm, hb01⟩
  · have e1 : (checkS c k l != 0) = true := by simp [hE]
    have hr : Hid (mayS c k l kind seats most lot = 8) := may_bad (.inl hE)
    clear hE
    go_wp2
    go_ret
    exact ⟨ret_i hr.out.symm, hb01⟩
end Go.Proofs.YtolbceckbnifmaaGreat

namespace Go.Proofs.YtolbceckbnifmaaGreat
open Go.RowKit Go.Proofs Go.Shelf
attribute [local go_sem] cell?_more cell?_alloc_some cell?_setCell_far frozen?_alloc_some frozen?_more
theorem wsame_eq (A A' : Option Addr) (n c n' c' : Nat) (xs : List Int) (w : World) (h : RWrds w A n c xs) (h' : RWrds w A' n' c' xs) :
    Calls Tryz.prog 105 #[.slice A n c, .slice A' n' c'] w fun e w' => e = .returned (.bool true) ∧ Below w.heap.size w w' := by
  have := wsame_any A A' n c n' c' xs xs w h h'
  rwa [beq_self_eq_true] at this
theorem ints_eq (A A' : Option Addr) (n c n' c' : Nat) (xs : List Int) (w : World) (h : RInts w A n c xs) (h' : RInts w A' n' c' xs) :
    Calls Tryz.prog 21 #[.slice A n c, .slice A' n' c'] w fun e w' => e = .returned (.bool true) ∧ Below w.heap.size w w' := by
  have := ints_any A A' n c n' c' xs xs w h h'
  rwa [beq_self_eq_true] at this
theorem below_allocN {w : World} {o : Obj} : Below w.heap.size w (w.alloc o) := (Below.refl _ _).alloc (Nat.le_refl _) _

set_option maxRecDepth 100000 in
theorem rsame4_eq (u : Bool) (A A' B B' : Option Addr) (n c n' c' m d m' d' : Nat) (xs ys : List Int) (w : World) (h1 : RWrds w A n c xs) (h2 : RWrds w A' n' c' ys) (h3 : RWrds w B m d xs) (h4 : RWrds w B' m' d' ys) :
    Calls Tryz.prog 72 #[.agg #[.bool u, .slice A n c, .slice A' n' c'], .agg #[.bool u, .slice B m d, .slice B' m' d']] w fun e w' => e = .returned (.bool true) ∧ Below w.heap.size w w' := by
  have hb0 : Below w.heap.size w (w.alloc (.cells #[.bool u, .slice A n c, .slice A' n' c'] 63)) := below_allocN
  have hX0 := Has.new w 63 #[.bool u, .slice A n c, .slice A' n' c']
  generalize hV : World.alloc w _ = V at hb0 hX0
  have hbv : Below V.heap.size V (V.alloc (.cells #[.bool u, .slice B m d, .slice B' m' d'] 63)) := below_allocN
  have hY0 := Has.new V 63 #[.bool u, .slice B m d, .slice B' m' d']
  have hX1 := hX0.below hbv hX0.lt
  generalize hW : World.alloc V _ = W0 at hbv hY0 hX1
  have hb1 := Below_trans' hb0 hb0.size hbv
  have s0 := hX1.cell 0
  have s1 := hX1.cell 1
  have s2 := hX1.cell 2
  have t0 := hY0.cell 0
  have t1 := hY0.cell 1
  have t2 := hY0.cell 2
  go_enter Tryz.func72, Tryz.ntmps72
  cases u
  all_goals
    go_wp2_with fail
    try simp only [hV, hW]
    clear hV hW
    refine (wsame_eq A B n c m d xs W0 (h1.below hb1) (h3.below hb1)).mono ?_
    rintro e w1 ⟨rfl, hb2⟩
    have hb02 := Below_trans' hb1 hb1.size hb2
    have hX2 := hX1.below hb2 hX1.lt
    have hY2 := hY0.below hb2 hY0.lt
    clear s0 s1 s2 t0 t1 t2
    have s2 := hX2.cell 2
    have t2 := hY2.cell 2
    go_wp2_with fail
    refine (wsame_eq A' B' n' c' m' d' ys w1 (h2.below hb02) (h4.below hb02)).mono ?_
    rintro e w2 ⟨rfl, hb3⟩
    go_wp2
    go_ret
    exact ⟨rfl, Below_trans' hb02 hb02.size hb3⟩

set_option maxRecDepth 100000 in
set_option maxHeartbeats 1000000 in
theorem rall4_eq (A A' : Option Addr) (n c n' c' : Nat) (l : List Rat3) (w : World) (h : RAgg ERat 3 w A n c l) (h' : RAgg ERat 3 w A' n' c' l) :
    Calls Tryz.prog 36 #[.slice A n c, .slice A' n' c'] w fun e w' => e = .returned (.bool true) ∧ Below w.heap.size w w' := by
  have hn := h.le
  have hl := h.len
  have hl' := h'.len
  obtain rfl : n = n' := by omega
  clear hl hl'
  go_enter Tryz.func36, Tryz.ntmps36
  go_wp2
  go_loopw [5] (fun i wr => ∃ k : Nat, k ≤ n ∧ i = .int .i64 k ∧ Below w.heap.size w wr) (fun i _ => n - (intOf i).toNat)
  case atStart => exact ⟨0, Nat.zero_le _, rfl, Below.refl _ _⟩
  case round =>
    obtain ⟨k, hk, rfl, hbw⟩ := hrel
    by_cases hlt : k < n
    · obtain ⟨b, off, vs, x, rfl, _, hc, hE, _, hx⟩ := (h.below below_rat hbw).step hlt
      obtain ⟨b', off', vs', x', rfl, _, hc', hE', _, hx'⟩ := (h'.below below_rat hbw).step hlt
      obtain rfl : x = x' := by have h1 := hx.out; rw [hx'.out] at h1; exact (Option.some.inj h1).symm
      clear hx hx'
      obtain ⟨A1, n1, c1, A2, n2, c2, rfl, h1, h2⟩ := hE
      obtain ⟨B1, m1, d1, B2, m2, d2, rfl, h3, h4⟩ := hE'
      have q0 := hc 0 _ rfl
      have q1 := hc 1 _ rfl
      have q2 := hc 2 _ rfl
      have p0 := hc' 0 _ rfl
      have p1 := hc' 1 _ rfl
      have p2 := hc' 2 _ rfl
      simp only [Nat.add_zero] at q0 p0
      clear hc hc'
      go_wp2
      refine wp_region_more (by kernel_rfl) (by kernel_rfl) ?_
      repeat (go_big_quiet_step (with_reducible exact more_of (rsame4_eq _ _ _ _ _ _ _ _ _ _ _ _ _ _ _ _ (h1.more _) (h2.more _) (h3.more _) (h4.more _))))
      refine wpQuiet_nil ?_
      rintro w2 ⟨qq, hw2⟩
      have hb2 := below_of_eq hw2
      clear hw2 qq
      go_wp2
      go_roundw
      case rel => exact ⟨k + 1, by omega, by go_num, Below_trans' hbw hbw.size hb2⟩
      case measure => simp [intOf] <;> omega
    · go_wp2
      go_ret
      exact ⟨rfl, hbw⟩
set_option maxRecDepth 100000 in
set_option maxHeartbeats 1000000 in
theorem ties_eq (A A' : Option Addr) (n c n' c' : Nat) (l : List Row) (w : World) (h : RAgg ETie 2 w A n c l) (h' : RAgg ETie 2 w A' n' c' l) :
    Calls Tryz.prog 34 #[.slice A n c, .slice A' n' c'] w fun e w' => e = .returned (.bool true) ∧ Below w.heap.size w w' := by
  have hn := h.le
  have hl := h.len
  have hl' := h'.len
  obtain rfl : n = n' := by omega
  clear hl hl'
  go_enter Tryz.func34, Tryz.ntmps34
  go_wp2
  go_loopw [5] (fun i wr => ∃ k : Nat, k ≤ n ∧ i = .int .i64 k ∧ Below w.heap.size w wr) (fun i _ => n - (intOf i).toNat)
  case atStart => exact ⟨0, Nat.zero_le _, rfl, Below.refl _ _⟩
  case round =>
    obtain ⟨k, hk, rfl, hbw⟩ := hrel
    by_cases hlt : k < n
    · obtain ⟨b, off, vs, x, rfl, _, hc, hE, _, hx⟩ := (h.below below_tie hbw).step hlt
      obtain ⟨b', off', vs', x', rfl, _, hc', hE', _, hx'⟩ := (h'.below below_tie hbw).step hlt
      obtain rfl : x = x' := by have h1 := hx.out; rw [hx'.out] at h1; exact (Option.some.inj h1).symm
      clear hx hx'
      obtain ⟨A1, n1, c1, rfl, h1, hi⟩ := hE
      obtain ⟨B1, m1, d1, rfl, h2, _⟩ := hE'
      have q0 := hc 0 _ rfl
      have q1 := hc 1 _ rfl
      have p0 := hc' 0 _ rfl
      have p1 := hc' 1 _ rfl
      simp only [Nat.add_zero] at q0 p0
      clear hc hc'
      obtain ⟨ms, y⟩ := x
      have hyy : (y != y) = false := by simp
      dsimp only at q1 p1 h1 h2 hi
      go_wp2
      refine wp_region_more (by kernel_rfl) (by kernel_rfl) ?_
      repeat (go_big_quiet_step (with_reducible exact more_of (ints_eq _ _ _ _ _ _ _ _ (h1.more _) (h2.more _))))
      refine wpQuiet_nil ?_
      rintro w2 ⟨qq, hw2⟩
      have hb2 := below_of_eq hw2
      clear hw2 qq
      go_wp2
      go_roundw
      case rel => exact ⟨k + 1, by omega, by go_num, Below_trans' hbw hbw.size hb2⟩
      case measure => simp [intOf] <;> omega
    · go_wp2
      go_ret
      exact ⟨rfl, hbw⟩
set_option maxRecDepth 100000 in
set_option maxHeartbeats 1000000 in
theorem rnds_eq (A A' : Option Addr) (n c n' c' : Nat) (l : List Rnd) (w : World) (h : RAgg ERnd 6 w A n c l) (h' : RAgg ERnd 6 w A' n' c' l) :
    Calls Tryz.prog 62 #[.slice A n c, .slice A' n' c'] w fun e w' => e = .returned (.bool true) ∧ Below w.heap.size w w' := by
  have hn := h.le
  have hl := h.len
  have hl' := h'.len
  obtain rfl : n = n' := by omega
  clear hl hl'
  go_enter Tryz.func62, Tryz.ntmps62
  go_wp2
  go_loopw [5] (fun i wr => ∃ k : Nat, k ≤ n ∧ i = .int .i64 k ∧ Below w.heap.size w wr) (fun i _ => n - (intOf i).toNat)
  case atStart => exact ⟨0, Nat.zero_le _, rfl, Below.refl _ _⟩
  case round =>
    obtain ⟨k, hk, rfl, hbw⟩ := hrel
    by_cases hlt : k < n
    · obtain ⟨b, off, vs, x, rfl, _, hc, hE, _, hx⟩ := (h.below below_rnd hbw).step hlt
      obtain ⟨b', off', vs', x', rfl, _, hc', hE', _, hx'⟩ := (h'.below below_rnd hbw).step hlt
      obtain rfl : x = x' := by have h1 := hx.out; rw [hx'.out] at h1; exact (Option.some.inj h1).symm
      clear hx hx'
      obtain ⟨A1, n1, c1, a1, a2, a3, A2, n2, c2, A3, n3, c3, rfl, h5, hL, h7, h9⟩ := hE
      obtain ⟨B1, m1, d1, b1, b2, b3, B2, m2, d2, B3, m3, d3, rfl, h6, hL', h8, h10⟩ := hE'
      obtain ⟨C1, k1, e1, C2, k2, e2, eq1, g1, g2⟩ := hL
      obtain ⟨D1, j1, f1, D2, j2, f2, eq2, g3, g4⟩ := hL'
      cases eq1
      cases eq2
      have q0 := hc 0 _ rfl
      have q1 := hc 1 _ rfl
      have q2 := hc 2 _ rfl
      have q3 := hc 3 _ rfl
      have q4 := hc 4 _ rfl
      have q5 := hc 5 _ rfl
      have p0 := hc' 0 _ rfl
      have p1 := hc' 1 _ rfl
      have p2 := hc' 2 _ rfl
      have p3 := hc' 3 _ rfl
      have p4 := hc' 4 _ rfl
      have p5 := hc' 5 _ rfl
      simp only [Nat.add_zero] at q0 p0
      clear hc hc'
      go_wp2
      refine wp_region_more (by kernel_rfl) (by kernel_rfl) ?_
      try simp only [List.append]
      repeat (go_big_quiet_step (with_reducible first | exact more_of (rall4_eq _ _ _ _ _ _ _ _ (h5.below below_rat (more_below _ _)) (h6.below below_rat (more_below _ _))) | exact more_of (rsame4_eq _ _ _ _ _ _ _ _ _ _ _ _ _ _ _ _ (g1.more _) (g2.more _) (g3.more _) (g4.more _)) | exact more_of (ints_eq _ _ _ _ _ _ _ _ (h7.more _) (h8.more _)) | exact more_of (ints_eq _ _ _ _ _ _ _ _ (h9.more _) (h10.more _))))
      refine wpQuiet_nil ?_
      rintro w2 ⟨qq, hw2⟩
      have hb2 := below_of_eq hw2
      clear hw2 qq
      go_wp2
      go_roundw
      case rel => exact ⟨k + 1, by omega, by go_num, Below_trans' hbw hbw.size hb2⟩
      case measure => simp [intOf] <;> omega
    · go_wp2
      go_ret
      exact ⟨rfl, hbw⟩

set_option maxRecDepth 100000 in
set_option maxHeartbeats 1000000 in
theorem same_eq (Ae : Option Addr) (ne ce : Nat) (Ar : Option Addr) (nr cr : Nat) (Av : Option Addr) (nv cv : Nat) (Be : Option Addr) (me de : Nat) (Br : Option Addr) (mr dr : Nat) (Bv : Option Addr) (mv dv : Nat) (o : Outc) (w : World) (h : ROut w Ae ne ce Ar nr cr Av nv cv o) (h' : ROut w Be me de Br mr dr Bv mv dv o) :
    Calls Tryz.prog 19 #[.agg #[.slice Ae ne ce, .slice Ar nr cr, .slice Av nv cv], .agg #[.slice Be me de, .slice Br mr dr, .slice Bv mv dv]] w fun e w' => e = .returned (.bool true) ∧ Below w.heap.size w w' := by
  have hb0 : Below w.heap.size w (w.alloc (.cells #[.slice Ae ne ce, .slice Ar nr cr, .slice Av nv cv] 39)) := below_allocN
  have hX0 := Has.new w 39 #[.slice Ae ne ce, .slice Ar nr cr, .slice Av nv cv]
  generalize hV : World.alloc w _ = V at hb0 hX0
  have hbv : Below V.heap.size V (V.alloc (.cells #[.slice Be me de, .slice Br mr dr, .slice Bv mv dv] 39)) := below_allocN
  have hY0 := Has.new V 39 #[.slice Be me de, .slice Br mr dr, .slice Bv mv dv]
  have hX1 := hX0.below hbv hX0.lt
  generalize hW : World.alloc V _ = W0 at hbv hY0 hX1
  have hb1 := Below_trans' hb0 hb0.size hbv
  have s0 := hX1.cell 0
  have t0 := hY0.cell 0
  go_enter Tryz.func19, Tryz.ntmps19
  go_wp2_with fail
  try simp only [hV, hW]
  clear hV hW
  refine (ints_eq _ _ _ _ _ _ _ W0 (h.1.below hb1) (h'.1.below hb1)).mono ?_
  rintro e w1 ⟨rfl, hb2⟩
  have hb02 := Below_trans' hb1 hb1.size hb2
  have hX2 := hX1.below hb2 hX1.lt
  have hY2 := hY0.below hb2 hY0.lt
  clear s0 t0
  have s1 := hX2.cell 1
  have t1 := hY2.cell 1
  go_wp2_with fail
  refine (rnds_eq _ _ _ _ _ _ _ w1 (h.2.1.below below_rnd hb02) (h'.2.1.below below_rnd hb02)).mono ?_
  rintro e w2 ⟨rfl, hb3⟩
  have hb03 := Below_trans' hb02 hb02.size hb3
  have hX3 := hX2.below hb3 hX2.lt
  have hY3 := hY2.below hb3 hY2.lt
  clear s1 t1
  have s2 := hX3.cell 2
  have t2 := hY3.cell 2
  go_wp2_with fail
  refine (ties_eq _ _ _ _ _ _ _ w2 (h.2.2.below below_tie hb03) (h'.2.2.below below_tie hb03)).mono ?_
  rintro e w3 ⟨rfl, hb4⟩
  go_wp2
  go_ret
  exact ⟨rfl, Below_trans' hb03 hb03.size hb4⟩
end Go.Proofs.YtolbceckbnifmaaGreat
