/-
  Outcomes that are equal are told equal: Same, rounds, Ties, All.
-/
import Derived.Test.YthkkadmgcicedaaGreatApp2
import Derived.Test.YthkkadmgcicedaaGreatW11d
import Derived.Test.YthkkadmgcicedaaGreatW8a
namespace Go.Proofs.YthkkadmgcicedaaGreat
open Go.RowKit Go.Proofs Go.Shelf
attribute [local go_sem] cell?_more cell?_alloc_some cell?_setCell_far frozen?_alloc_some frozen?_more
theorem wsame_eq (A A' : Option Addr) (n c n' c' : Nat) (xs : List Int) (w : World) (h : RWrds w A n c xs) (h' : RWrds w A' n' c' xs) :
    Calls Tryz.prog 36 #[.slice A n c, .slice A' n' c'] w fun e w' => e = .returned (.bool true) ∧ Below w.heap.size w w' := by
  have := wsame_any A A' n c n' c' xs xs w h h'
  rwa [beq_self_eq_true] at this
theorem ints_eq (A A' : Option Addr) (n c n' c' : Nat) (xs : List Int) (w : World) (h : RInts w A n c xs) (h' : RInts w A' n' c' xs) :
    Calls Tryz.prog 13 #[.slice A n c, .slice A' n' c'] w fun e w' => e = .returned (.bool true) ∧ Below w.heap.size w w' := by
  have := ints_any A A' n c n' c' xs xs w h h'
  rwa [beq_self_eq_true] at this
theorem below_allocN {w : World} {o : Obj} : Below w.heap.size w (w.alloc o) := (Below.refl _ _).alloc (Nat.le_refl _) _

set_option maxRecDepth 100000 in
theorem rsame4_eq (u : Bool) (A A' B B' : Option Addr) (n c n' c' m d m' d' : Nat) (xs ys : List Int) (w : World) (h1 : RWrds w A n c xs) (h2 : RWrds w A' n' c' ys) (h3 : RWrds w B m d xs) (h4 : RWrds w B' m' d' ys) :
    Calls Tryz.prog 11 #[.agg #[.bool u, .slice A n c, .slice A' n' c'], .agg #[.bool u, .slice B m d, .slice B' m' d']] w fun e w' => e = .returned (.bool true) ∧ Below w.heap.size w w' := by
  have hb0 : Below w.heap.size w (w.alloc (.cells #[.bool u, .slice A n c, .slice A' n' c'] 39)) := below_allocN
  have hX0 := Has.new w 39 #[.bool u, .slice A n c, .slice A' n' c']
  generalize hV : World.alloc w _ = V at hb0 hX0
  have hbv : Below V.heap.size V (V.alloc (.cells #[.bool u, .slice B m d, .slice B' m' d'] 39)) := below_allocN
  have hY0 := Has.new V 39 #[.bool u, .slice B m d, .slice B' m' d']
  have hX1 := hX0.below hbv hX0.lt
  generalize hW : World.alloc V _ = W0 at hbv hY0 hX1
  have hb1 := Below_trans' hb0 hb0.size hbv
  have s0 := hX1.cell 0
  have s1 := hX1.cell 1
  have s2 := hX1.cell 2
  have t0 := hY0.cell 0
  have t1 := hY0.cell 1
  have t2 := hY0.cell 2
  go_enter Tryz.func11, Tryz.ntmps11
  cases u
  all_goals
    go_wp2_with fail
    try simp only [hV, hW]
    clear hV hW
    refine (wsame_eq A B n c m d xs W0 (h1.below hb1) (h3.below hb1)).mono ?_
    rintro e w1 ⟨rfl, hb2⟩
    have hb02 := Below_trans' hb1 hb1.size hb2
    have hX2 := hX1.below hb2 hX1.lt
    have hY2 := hY0.below hb2 hY0.lt
    clear s0 s1 s2 t0 t1 t2
    have s2 := hX2.cell 2
    have t2 := hY2.cell 2
    go_wp2_with fail
    refine (wsame_eq A' B' n' c' m' d' ys w1 (h2.below hb02) (h4.below hb02)).mono ?_
    rintro e w2 ⟨rfl, hb3⟩
    go_wp2
    go_ret
    exact ⟨rfl, Below_trans' hb02 hb02.size hb3⟩

set_option maxRecDepth 100000 in
set_option maxHeartbeats 1000000 in
theorem rall4_eq (A A' : Option Addr) (n c n' c' : Nat) (l : List Rat3) (w : World) (h : RAgg ERat 3 w A n c l) (h' : RAgg ERat 3 w A' n' c' l) :
    Calls Tryz.prog 9 #[.slice A n c, .slice A' n' c'] w fun e w' => e = .returned (.bool true) ∧ Below w.heap.size w w' := by
  have hn := h.le
  have hl := h.len
  have hl' := h'.len
  obtain rfl : n = n' := by omega
  clear hl hl'
  go_enter Tryz.func9, Tryz.ntmps9
  go_wp2
  go_loopw [5] (fun i wr => ∃ k : Nat, k ≤ n ∧ i = .int .i64 k ∧ Below w.heap.size w wr) (fun i _ => n - (intOf i).toNat)
  case atStart => exact ⟨0, Nat.zero_le _, rfl, Below.refl _ _⟩
  case round =>
    obtain ⟨k, hk, rfl, hbw⟩ := hrel
    by_cases hlt : k < n
    · obtain ⟨b, off, vs, x, rfl, _, hc, hE, _, hx⟩ := (h.below below_rat hbw).step hlt
      obtain ⟨b', off', vs', x', rfl, _, hc', hE', _, hx'⟩ := (h'.below below_rat hbw).step hlt
      obtain rfl : x = x' := by have h1 := hx.out; rw [hx'.out] at h1; exact (Option.some.inj h1).symm
      clear hx hx'
      obtain ⟨A1, n1, c1, A2, n2, c2, rfl, h1, h2⟩ := hE
      obtain ⟨B1, m1, d1, B2, m2, d2, rfl, h3, h4⟩ := hE'
      have q0 := hc 0 _ rfl
      have q1 := hc 1 _ rfl
      have q2 := hc 2 _ rfl
      have p0 := hc' 0 _ rfl
      have p1 := hc' 1 _ rfl
      have p2 := hc' 2 _ rfl
      simp only [Nat.add_zero] at q0 p0
      clear hc hc'
      go_wp2
      refine wp_region_more (by kernel_rfl) (by kernel_rfl) ?_
      repeat (go_big_quiet_step (with_reducible exact more_of (rsame4_eq _ _ _ _ _ _ _ _ _ _ _ _ _ _ _ _ (h1.more _) (h2.more _) (h3.more _) (h4.more _))))
      refine wpQuiet_nil ?_
      rintro w2 ⟨qq, hw2⟩
      have hb2 := below_of_eq hw2
      clear hw2 qq
      go_wp2
      go_roundw
      case rel => exact ⟨k + 1, by omega, by go_num, Below_trans' hbw hbw.size hb2⟩
      case measure => simp [intOf] <;> omega
    · go_wp2
      go_ret
      exact ⟨rfl, hbw⟩
set_option maxRecDepth 100000 in
set_option maxHeartbeats 1000000 in
theorem ties_eq (A A' : Option Addr) (n c n' c' : Nat) (l : List Row) (w : World) (h : RAgg ETie 2 w A n c l) (h' : RAgg ETie 2 w A' n' c' l) :
    Calls Tryz.prog 15 #[.slice A n c, .slice A' n' c'] w fun e w' => e = .returned (.bool true) ∧ Below w.heap.size w w' := by
  have hn := h.le
  have hl := h.len
  have hl' := h'.len
  obtain rfl : n = n' := by omega
  clear hl hl'
  go_enter Tryz.func15, Tryz.ntmps15
  go_wp2
  go_loopw [5] (fun i wr => ∃ k : Nat, k ≤ n ∧ i = .int .i64 k ∧ Below w.heap.size w wr) (fun i _ => n - (intOf i).toNat)
  case atStart => exact ⟨0, Nat.zero_le _, rfl, Below.refl _ _⟩
  case round =>
    obtain ⟨k, hk, rfl, hbw⟩ := hrel
    by_cases hlt : k < n
    · obtain ⟨b, off, vs, x, rfl, _, hc, hE, _, hx⟩ := (h.below below_tie hbw).step hlt
      obtain ⟨b', off', vs', x', rfl, _, hc', hE', _, hx'⟩ := (h'.below below_tie hbw).step hlt
      obtain rfl : x = x' := by have h1 := hx.out; rw [hx'.out] at h1; exact (Option.some.inj h1).symm
      clear hx hx'
      obtain ⟨A1, n1, c1, rfl, h1, hi⟩ := hE
      obtain ⟨B1, m1, d1, rfl, h2, _⟩ := hE'
      have q0 := hc 0 _ rfl
      have q1 := hc 1 _ rfl
      have p0 := hc' 0 _ rfl
      have p1 := hc' 1 _ rfl
      simp only [Nat.add_zero] at q0 p0
      clear hc hc'
      obtain ⟨ms, y⟩ := x
      have hyy : (y != y) = false := by simp
      dsimp only at q1 p1 h1 h2 hi
      go_wp2
      refine wp_region_more (by kernel_rfl) (by kernel_rfl) ?_
      repeat (go_big_quiet_step (with_reducible exact more_of (ints_eq _ _ _ _ _ _ _ _ (h1.more _) (h2.more _))))
      refine wpQuiet_nil ?_
      rintro w2 ⟨qq, hw2⟩
      have hb2 := below_of_eq hw2
      clear hw2 qq
      go_wp2
      go_roundw
      case rel => exact ⟨k + 1, by omega, by go_num, Below_trans' hbw hbw.size hb2⟩
      case measure => simp [intOf] <;> omega
    · go_wp2
      go_ret
      exact ⟨rfl, hbw⟩
set_option maxRecDepth 100000 in
set_option maxHeartbeats 1000000 in
theorem rnds_eq (A A' : Option Addr) (n c n' c' : Nat) (l : List Rnd) (w : World) (h : RAgg ERnd 6 w A n c l) (h' : RAgg ERnd 6 w A' n' c' l) :
    Calls Tryz.prog 45 #[.slice A n c, .slice A' n' c'] w fun e w' => e = .returned (.bool true) ∧ Below w.heap.size w w' := by
  have hn := h.le
  have hl := h.len
  have hl' := h'.len
  obtain rfl : n = n' := by omega
  clear hl hl'
  go_enter Tryz.func45, Tryz.ntmps45
  go_wp2
  go_loopw [5] (fun i wr => ∃ k : Nat, k ≤ n ∧ i = .int .i64 k ∧ Below w.heap.size w wr) (fun i _ => n - (intOf i).toNat)
  case atStart => exact ⟨0, Nat.zero_le _, rfl, Below.refl _ _⟩
  case round =>
    obtain ⟨k, hk, rfl, hbw⟩ := hrel
    by_cases hlt : k < n
    · obtain ⟨b, off, vs, x, rfl, _, hc, hE, _, hx⟩ := (h.below below_rnd hbw).step hlt
      obtain ⟨b', off', vs', x', rfl, _, hc', hE', _, hx'⟩ := (h'.below below_rnd hbw).step hlt
      obtain rfl : x = x' := by have h1 := hx.out; rw [hx'.out] at h1; exact (Option.some.inj h1).symm
      clear hx hx'
      obtain ⟨A1, n1, c1, a1, a2, a3, A2, n2, c2, A3, n3, c3, rfl, h5, hL, h7, h9⟩ := hE
      obtain ⟨B1, m1, d1, b1, b2, b3, B2, m2, d2, B3, m3, d3, rfl, h6, hL', h8, h10⟩ := hE'
      obtain ⟨C1, k1, e1, C2, k2, e2, eq1, g1, g2⟩ := hL
      obtain ⟨D1, j1, f1, D2, j2, f2, eq2, g3, g4⟩ := hL'
      cases eq1
      cases eq2
      have q0 := hc 0 _ rfl
      have q1 := hc 1 _ rfl
      have q2 := hc 2 _ rfl
      have q3 := hc 3 _ rfl
      have q4 := hc 4 _ rfl
      have q5 := hc 5 _ rfl
      have p0 := hc' 0 _ rfl
      have p1 := hc' 1 _ rfl
      have p2 := hc' 2 _ rfl
      have p3 := hc' 3 _ rfl
      have p4 := hc' 4 _ rfl
      have p5 := hc' 5 _ rfl
      simp only [Nat.add_zero] at q0 p0
      clear hc hc'
      go_wp2
      refine wp_region_more (by kernel_rfl) (by kernel_rfl) ?_
      try simp only [List.append]
      repeat (go_big_quiet_step (with_reducible first | exact more_of (rall4_eq _ _ _ _ _ _ _ _ (h5.below below_rat (more_below _ _)) (h6.below below_rat (more_below _ _))) | exact more_of (rsame4_eq _ _ _ _ _ _ _ _ _ _ _ _ _ _ _ _ (g1.more _) (g2.more _) (g3.more _) (g4.more _)) | exact more_of (ints_eq _ _ _ _ _ _ _ _ (h7.more _) (h8.more _)) | exact more_of (ints_eq _ _ _ _ _ _ _ _ (h9.more _) (h10.more _))))
      refine wpQuiet_nil ?_
      rintro w2 ⟨qq, hw2⟩
      have hb2 := below_of_eq hw2
      clear hw2 qq
      go_wp2
      go_roundw
      case rel => exact ⟨k + 1, by omega, by go_num, Below_trans' hbw hbw.size hb2⟩
      case measure => simp [intOf] <;> omega
    · go_wp2
      go_ret
      exact ⟨rfl, hbw⟩

set_option maxRecDepth 100000 in
set_option maxHeartbeats 1000000 in
theorem same_eq (Ae : Option Addr) (ne ce : Nat) (Ar : Option Addr) (nr cr : Nat) (Av : Option Addr) (nv cv : Nat) (Be : Option Addr) (me de : Nat) (Br : Option Addr) (mr dr : Nat) (Bv : Option Addr) (mv dv : Nat) (o : Outc) (w : World) (h : ROut w Ae ne ce Ar nr cr Av nv cv o) (h' : ROut w Be me de Br mr dr Bv mv dv o) :
    Calls Tryz.prog 24 #[.agg #[.slice Ae ne ce, .slice Ar nr cr, .slice Av nv cv], .agg #[.slice Be me de, .slice Br mr dr, .slice Bv mv dv]] w fun e w' => e = .returned (.bool true) ∧ Below w.heap.size w w' := by
  have hb0 : Below w.heap.size w (w.alloc (.cells #[.slice Ae ne ce, .slice Ar nr cr, .slice Av nv cv] 31)) := below_allocN
  have hX0 := Has.new w 31 #[.slice Ae ne ce, .slice Ar nr cr, .slice Av nv cv]
  generalize hV : World.alloc w _ = V at hb0 hX0
  have hbv : Below V.heap.size V (V.alloc (.cells #[.slice Be me de, .slice Br mr dr, .slice Bv mv dv] 31)) := below_allocN
  have hY0 := Has.new V 31 #[.slice Be me de, .slice Br mr dr, .slice Bv mv dv]
  have hX1 := hX0.below hbv hX0.lt
  generalize hW : World.alloc V _ = W0 at hbv hY0 hX1
  have hb1 := Below_trans' hb0 hb0.size hbv
  have s0 := hX1.cell 0
  have t0 := hY0.cell 0
  go_enter Tryz.func24, Tryz.ntmps24
  go_wp2_with fail
  try simp only [hV, hW]
  clear hV hW
  refine (ints_eq _ _ _ _ _ _ _ W0 (h.1.below hb1) (h'.1.below hb1)).mono ?_
  rintro e w1 ⟨rfl, hb2⟩
  have hb02 := Below_trans' hb1 hb1.size hb2
  have hX2 := hX1.below hb2 hX1.lt
  have hY2 := hY0.below hb2 hY0.lt
  clear s0 t0
  have s1 := hX2.cell 1
  have t1 := hY2.cell 1
  go_wp2_with fail
  refine (rnds_eq _ _ _ _ _ _ _ w1 (h.2.1.below below_rnd hb02) (h'.2.1.below below_rnd hb02)).mono ?_
  rintro e w2 ⟨rfl, hb3⟩
  have hb03 := Below_trans' hb02 hb02.size hb3
  have hX3 := hX2.below hb3 hX2.lt
  have hY3 := hY2.below hb3 hY2.lt
  clear s1 t1
  have s2 := hX3.cell 2
  have t2 := hY3.cell 2
  go_wp2_with fail
  refine (ties_eq _ _ _ _ _ _ _ w2 (h.2.2.below below_tie hb03) (h'.2.2.below below_tie hb03)).mono ?_
  rintro e w3 ⟨rfl, hb4⟩
  go_wp2
  go_ret
  exact ⟨rfl, Below_trans' hb03 hb03.size hb4⟩
end Go.Proofs.YthkkadmgcicedaaGreat
