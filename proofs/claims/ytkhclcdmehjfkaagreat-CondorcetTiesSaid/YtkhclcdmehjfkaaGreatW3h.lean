/-
  The reference of ratios at one-word numbers over one-word numbers: Mul, Check, Add, Cmp.
-/
import Derived.Test.YtkhclcdmehjfkaaGreatW3e
import Derived.Test.YtkhclcdmehjfkaaGreatW3c
namespace Go.Proofs.YtkhclcdmehjfkaaGreat
open Go.RowKit Go.Proofs Go.Shelf
attribute [local go_sem] cell?_more cell?_alloc_some cell?_setCell_far frozen?_alloc_some frozen?_more
set_option maxRecDepth 100000 in
set_option maxHeartbeats 1000000 in
theorem mul_word (A A' : Option Addr) (n c n' c' : Nat) (a b : Int) (w : World) (h : RWrds w A n c (lm a)) (h' : RWrds w A' n' c' (lm b)) (ha : 0 ≤ a) (ha1 : a ≤ 4294967295) (hb0 : 1 ≤ b) (hbb : b ≤ 4294967295) (hab : a * b ≤ 4294967295) :
    Calls Tryz.prog 96 #[.slice A n c, .slice A' n' c'] w (MPost w (lm (a * b))) := by
  have hp0 : 0 ≤ a * b := Int.mul_nonneg ha (by omega)
  obtain ⟨p, hp⟩ : ∃ p, a * b = p := ⟨_, rfl⟩
  rw [hp] at hab hp0 ⊢
  have hmap : Hid ((lm a).map (fun v => v * b) = lm p) := by
    unfold Hid
    by_cases e : a = 0
    · subst e; rw [Int.zero_mul] at hp; subst hp; rfl
    · rw [lm_pos e, lm_pos (by rw [← hp]; exact Int.mul_ne_zero e (by omega))]
      simp [hp]
  rw [lm_pos (show b ≠ 0 by omega)] at h'
  have cb := wboth_ok A n c (lm a) A' n' c' [b] w h h' (lm_ok a) (by have := lm_ok b; rwa [lm_pos (show b ≠ 0 by omega)] at this)
  have hl := hide h.len
  have hn1 : n ≤ 1 := by have h1 := h.len; have h2 := lm_len a; omega
  obtain rfl : n' = 1 := h'.len.symm
  obtain ⟨b1, o1, v1, rfl, hc1, _, hat1, _⟩ := h'.step (show 0 < 1 by omega)
  obtain rfl : b = v1 := by simpa using hat1.out
  simp only [Nat.add_zero] at hc1
  clear hat1
  go_enter Tryz.func96, Tryz.ntmps96
  go_wp2_with fail
  refine cb.mono ?_
  rintro e w' ⟨rfl, rfl⟩
  have hmk : ∀ w, (Instr.makeSlice 49 (.int .i64 0) (.int .i64 0)).run Tryz.prog w = .ok (.slice (some ⟨w.heap.size, 0, none⟩) 0 0) (w.alloc (.cells #[] 133)) := fun _ => by kernel_rfl
  go_wp2
  go_loopw [7, 8] (fun o i wr => Below w.heap.size w wr ∧ ((o = .slice none 0 0 ∧ i = .int .i64 0) ∨ (i = .int .i64 1 ∧ ∃ A n c, o = .slice A n c ∧ RWrds wr A n c (lm p) ∧ Hid (∀ b, fpS A n b → w.heap.size ≤ b)))) (fun _ i _ => (1 - intOf i).toNat)
  case atStart => exact ⟨Below.refl _ _, .inl ⟨rfl, rfl⟩⟩
  case round =>
    obtain ⟨hb, hc⟩ := hrel
    have hz := hb.size
    rcases hc with ⟨rfl, rfl⟩ | ⟨rfl, A5, n5, c5, rfl, h5, hf5⟩
    · have hc1b := keep_cell hb hc1
      have hOz : OwnW (wr.alloc (.cells #[] 133)) w.heap.size (.slice (some ⟨wr.heap.size, 0, none⟩) 0 0) [] := World.ownsRow_made wr #[] 0 hz (by unfold maxLen; omega) rfl
      have hb2 : Below w.heap.size w (wr.alloc (.cells #[] 133)) := hb.alloc hz _
      go_wp2
      clear hmk
      generalize World.alloc wr _ = wa at hOz hb2 ⊢
      go_loopw [9, 10, 11] (fun r cy k wr => ∃ j : Nat, j ≤ n ∧ k = .int .i64 j ∧ cy = .int .u64 0 ∧ OwnW wr w.heap.size r (((lm a).map fun v => v * b).take j) ∧ Below w.heap.size w wr) (fun _ _ k _ => n - (intOf k).toNat)
      case atStart => exact ⟨0, Nat.zero_le _, rfl, rfl, hOz, hb2⟩
      case round =>
        clear hOz hb2 hc1b
        obtain ⟨j, hj, rfl, rfl, hO, hbj⟩ := hrel
        have hzj := hbj.size
        by_cases hjn : j < n
        · obtain ⟨bq, off, v, rfl, hcv, _, hat, hv0, hv1⟩ := (h.below hbj).step hjn
          have hc1j := keep_cell hbj hc1
          obtain rfl : a = v := by have := List.mem_of_getElem? hat.out; unfold lm at this; split at this <;> simp_all
          have e1 : Int.tmod p 4294967296 = p := Int.tmod_eq_of_lt (by omega) (by omega)
          have e2 : Int.tdiv p 4294967296 = 0 := Int.tdiv_eq_zero_of_lt (by omega) (by omega)
          have hs : Hid (((lm a).map fun v => v * b).take (j + 1) = ((lm a).map fun v => v * b).take j ++ [p]) := by unfold Hid; rw [List.take_add_one, List.getElem?_map, hat.out, ← hp]; rfl
          have hlen : (((lm a).map fun v => v * b).take j).length ≤ 1 := Nat.le_trans (by rw [List.length_take]; exact Nat.min_le_right _ _) (by rw [List.length_map]; exact lm_len a)
          generalize ((lm a).map fun v => v * b).take j = ys at hO hs hlen ⊢
          clear hat
          go_upto_region 13 with fail
          refine wp_region_more (by kernel_rfl) (by kernel_rfl) ?_
          repeat (go_big_quiet_step (fail))
          refine wpQuiet_nil ?_
          rintro w7 ⟨qw7, hww7⟩
          have hbw7 := below_of_eq hww7
          clear hww7 qw7
          have hO7 := hO.below hbw7
          have hb7 := Below_trans' hbj hbj.size hbw7
          have hz7 := hb7.size
          clear hO
          go_wp2_with (at_builtin; refine appWrd rfl rfl rfl (hO7.below ((Below.refl _ _).alloc (Nat.le_refl _) _)) rfl ((Has.new _ _ _).cell 0) (by omega) (by simp; omega) ?_)
          intro v' w' hO' hg
          go_wp2
          go_roundw
          case rel => exact ⟨j + 1, by omega, by go_num, rfl, by rw [hs.out]; exact hO', (hb7.alloc hz7 _).grown hg (by simp; omega) (fun k hk => (hO7.lt k hk).1)⟩
          case measure => simp [intOf] <;> omega
        · have e : ((lm a).map fun v => v * b).take j = lm p := by rw [List.take_of_length_le (by rw [List.length_map, hl.out]; omega)]; exact hmap.out
          rw [e] at hO
          have hlen := lm_len p
          clear e
          go_wp2_with (at_builtin; refine appWrd rfl rfl rfl (hO.below ((Below.refl _ _).alloc (Nat.le_refl _) _)) rfl ((Has.new _ _ _).cell 0) (by omega) (by simp; omega) ?_)
          intro v' w' hO' hg
          have hb' : Below w.heap.size w w' := (hbj.alloc hzj _).grown hg (by simp; omega) (fun k hk => (hO.lt k hk).1)
          obtain ⟨Av, cv, rfl⟩ := hO'.slice
          have hR := hO'.wrds (fun x hx => by rcases List.mem_append.1 hx with hx | hx; exact lm_bd hp0 hab x hx; simp at hx; omega)
          have hp := plus_nil Av _ cv (lm p ++ [0]) w' hR (by simp; omega)
          rw [trimS_lm] at hp
          generalize (lm p ++ [0]).length = nn at hp ⊢
          clear hR hO' hg
          go_wp2_with fail
          refine hp.mono ?_
          rintro e w8 ⟨A5, n5, c5, rfl, h5, hb5, hf5⟩
          have hf5' : Hid (∀ b, fpS A5 n5 b → w.heap.size ≤ b) := fun b hb => Nat.le_trans hb'.size (hf5 b hb)
          clear hf5
          go_wp2
          go_roundw
          case rel => exact ⟨Below_trans' hb' hb'.size hb5, .inr ⟨by go_num, A5, n5, c5, rfl, h5, hf5'⟩⟩
          case measure => simp [intOf]
    · have hlen5 := h5.len
      have hn5 : n5 ≤ 1 := by have := lm_len p; omega
      have f1 : ¬ (96 : Int) < (n5 : Int) := by omega
      clear hlen5
      go_wp2
      go_ret2
      exact ⟨A5, n5, c5, rfl, h5, hb, hf5.out⟩
set_option maxRecDepth 100000 in
set_option maxHeartbeats 1000000 in
theorem check4_q (A A' : Option Addr) (n c n' c' : Nat) (a q : Nat) (w : World) (h : RWrds w A n c (lm a)) (h' : RWrds w A' n' c' (lm q)) (ha : a ≤ 4294967295) (hq : 0 < q) (hq1 : q ≤ 4294967295) (hg : Nat.gcd a q = 1) :
    Calls Tryz.prog 133 #[.agg #[.bool false, .slice A n c, .slice A' n' c']] w fun e w' => e = .returned (.int .i64 0) ∧ Below w.heap.size w w' := by
  have hb0 : Below w.heap.size w (w.alloc (.cells #[.bool false, .slice A n c, .slice A' n' c'] 51)) := (Below.refl _ _).alloc (Nat.le_refl _) _
  have hX0 := Has.new w 51 #[.bool false, .slice A n c, .slice A' n' c']
  generalize hV : World.alloc w _ = V at hb0 hX0
  obtain rfl : n' = 1 := (words_one h' hq).1
  have cb := wboth_ok A n c (lm a) A' 1 c' (lm q) V (h.below hb0) (h'.below hb0) (lm_ok a) (lm_ok q)
  have cg := gcd_any A A' n c 1 c' a q V (h.below hb0) (h'.below hb0) ha hq1 hq
  rw [hg] at cg
  clear hg
  have s0 := hX0.cell 0
  have s1 := hX0.cell 1
  have s2 := hX0.cell 2
  go_enter Tryz.func133, Tryz.ntmps133
  by_cases hn : n = 0
  · have f1 : ((n : Int) == 0) = true := by simp [hn]
    clear hn
    go_wp2_with fail
    try simp only [hV]
    clear hV
    refine cb.mono ?_
    rintro e w' ⟨rfl, rfl⟩
    go_wp2_with fail
    refine cg.mono ?_
    rintro e w1 ⟨A5, n5, c5, rfl, h5, hb1⟩
    have hb01 := Below_trans' hb0 hb0.size hb1
    have hb2 : Below w1.heap.size w1 (w1.alloc (.cells #[.int .u32 1] 133)) := (Below.refl _ _).alloc (Nat.le_refl _) _
    have hN := wrds_has1 (Has.new w1 133 #[.int .u32 1]) (by decide) (by decide)
    have hs := wsame_any A5 (some ⟨w1.heap.size, 0, none⟩) n5 c5 1 1 [1] [1] (w1.alloc (.cells #[.int .u32 1] 133)) (h5.below hb2) hN
    rw [beq_self_eq_true] at hs
    clear s0 s1 s2 cb cg
    go_wp2_with fail
    refine hs.mono ?_
    rintro e w2 ⟨rfl, hb3⟩
    go_wp2
    go_ret
    exact ⟨rfl, Below_trans' (Below_trans' hb01 hb01.size hb2) (Below_trans' hb01 hb01.size hb2).size hb3⟩
  · have f1 : ((n : Int) == 0) = false := by simpa using hn
    clear hn
    go_wp2_with fail
    try simp only [hV]
    clear hV
    refine cb.mono ?_
    rintro e w' ⟨rfl, rfl⟩
    go_wp2_with fail
    refine cg.mono ?_
    rintro e w1 ⟨A5, n5, c5, rfl, h5, hb1⟩
    have hb01 := Below_trans' hb0 hb0.size hb1
    have hb2 : Below w1.heap.size w1 (w1.alloc (.cells #[.int .u32 1] 133)) := (Below.refl _ _).alloc (Nat.le_refl _) _
    have hN := wrds_has1 (Has.new w1 133 #[.int .u32 1]) (by decide) (by decide)
    have hs := wsame_any A5 (some ⟨w1.heap.size, 0, none⟩) n5 c5 1 1 [1] [1] (w1.alloc (.cells #[.int .u32 1] 133)) (h5.below hb2) hN
    rw [beq_self_eq_true] at hs
    clear s0 s1 s2 cb cg
    go_wp2_with fail
    refine hs.mono ?_
    rintro e w2 ⟨rfl, hb3⟩
    go_wp2
    go_ret
    exact ⟨rfl, Below_trans' (Below_trans' hb01 hb01.size hb2) (Below_trans' hb01 hb01.size hb2).size hb3⟩

set_option maxRecDepth 100000 in
theorem both4_q (A A' B B' : Option Addr) (n c n' c' m d m' d' : Nat) (a b q1 q2 : Nat) (w : World) (h1 : RWrds w A n c (lm a)) (h2 : RWrds w A' n' c' (lm q1)) (h3 : RWrds w B m d (lm b)) (h4 : RWrds w B' m' d' (lm q2)) (hab : a ≤ 1000000000) (hbb : b ≤ 1000000000) (hq1 : 0 < q1 ∧ q1 ≤ 2) (hq2 : 0 < q2 ∧ q2 ≤ 2) (hg1 : Nat.gcd a q1 = 1) (hg2 : Nat.gcd b q2 = 1) :
    Calls Tryz.prog 94 #[.agg #[.bool false, .slice A n c, .slice A' n' c'], .agg #[.bool false, .slice B m d, .slice B' m' d']] w fun e w' => e = .returned (.bool true) ∧ Below w.heap.size w w' := by
  have hb0 : Below w.heap.size w (w.alloc (.cells #[.bool false, .slice A n c, .slice A' n' c'] 51)) := (Below.refl _ _).alloc (Nat.le_refl _) _
  have hX0 := Has.new w 51 #[.bool false, .slice A n c, .slice A' n' c']
  generalize hV : World.alloc w _ = V at hb0 hX0
  have hbv : Below V.heap.size V (V.alloc (.cells #[.bool false, .slice B m d, .slice B' m' d'] 51)) := (Below.refl _ _).alloc (Nat.le_refl _) _
  have hY0 := Has.new V 51 #[.bool false, .slice B m d, .slice B' m' d']
  have hX1 := hX0.below hbv hX0.lt
  generalize hW : World.alloc V _ = W0 at hbv hY0 hX1
  have hb1 := Below_trans' hb0 hb0.size hbv
  have s0 := hX1.cell 0
  have s1 := hX1.cell 1
  have s2 := hX1.cell 2
  have t0 := hY0.cell 0
  have t1 := hY0.cell 1
  have t2 := hY0.cell 2
  go_enter Tryz.func94, Tryz.ntmps94
  go_wp2_with fail
  try simp only [hV, hW]
  clear hV hW
  refine (check4_q A A' n c n' c' a q1 W0 (h1.below hb1) (h2.below hb1) (by omega) hq1.1 (by omega) hg1).mono ?_
  rintro e w1 ⟨rfl, hb2⟩
  have hb02 := Below_trans' hb1 hb1.size hb2
  have hY2 := hY0.below hb2 hY0.lt
  clear s0 s1 s2 t0 t1 t2
  have t0 := hY2.cell 0
  have t1 := hY2.cell 1
  have t2 := hY2.cell 2
  go_wp2_with fail
  refine (check4_q B B' m d m' d' b q2 w1 (h3.below hb02) (h4.below hb02) (by omega) hq2.1 (by omega) hg2).mono ?_
  rintro e w2 ⟨rfl, hb3⟩
  go_wp2
  go_ret
  exact ⟨rfl, Below_trans' hb02 hb02.size hb3⟩
/-- A sum of ratios. -/
def AddQ (w : World) (x : List Int × List Int) (e : Ending) (w' : World) : Prop := ∃ A n c A' n' c', e = .returned (.tuple #[.agg #[.bool false, .slice A n c, .slice A' n' c'], .int .i64 0]) ∧ RWrds w' A n c x.1 ∧ RWrds w' A' n' c' x.2 ∧ Below w.heap.size w w' ∧ ∀ b, fpS A n b ∨ fpS A' n' b → w.heap.size ≤ b
set_option maxRecDepth 100000 in
set_option maxHeartbeats 1000000 in
theorem radd4_q (A A' B B' : Option Addr) (n c n' c' m d m' d' : Nat) (a b q1 q2 : Nat) (w : World) (h1 : RWrds w A n c (lm a)) (h2 : RWrds w A' n' c' (lm q1)) (h3 : RWrds w B m d (lm b)) (h4 : RWrds w B' m' d' (lm q2)) (hab : a ≤ 1000000000) (hbb : b ≤ 1000000000) (hq1 : 0 < q1 ∧ q1 ≤ 2) (hq2 : 0 < q2 ∧ q2 ≤ 2) (hg1 : Nat.gcd a q1 = 1) (hg2 : Nat.gcd b q2 = 1) :
    Calls Tryz.prog 51 #[.agg #[.bool false, .slice A n c, .slice A' n' c'], .agg #[.bool false, .slice B m d, .slice B' m' d']] w (AddQ w (lowS (a * q2 + b * q1) (q1 * q2))) := by
  have ha2 : a * q2 ≤ 2000000000 := Nat.le_trans (Nat.mul_le_mul hab hq2.2) (by omega)
  have hb2' : b * q1 ≤ 2000000000 := Nat.le_trans (Nat.mul_le_mul hbb hq1.2) (by omega)
  have hqq : q1 * q2 ≤ 4 := Nat.mul_le_mul hq1.2 hq2.2
  have hqp : 0 < q1 * q2 := Nat.mul_pos hq1.1 hq2.1
  have c1 : Hid ((a : Int) * (q2 : Int) = ((a * q2 : Nat) : Int)) := (Int.natCast_mul a q2).symm
  have c2 : Hid ((b : Int) * (q1 : Int) = ((b * q1 : Nat) : Int)) := (Int.natCast_mul b q1).symm
  have c3 : Hid ((q1 : Int) * (q2 : Int) = ((q1 * q2 : Nat) : Int)) := (Int.natCast_mul q1 q2).symm
  have hb0 : Below w.heap.size w (w.alloc (.cells #[.bool false, .slice A n c, .slice A' n' c'] 51)) := (Below.refl _ _).alloc (Nat.le_refl _) _
  have hX0 := Has.new w 51 #[.bool false, .slice A n c, .slice A' n' c']
  generalize hV : World.alloc w _ = V at hb0 hX0
  have hbv : Below V.heap.size V (V.alloc (.cells #[.bool false, .slice B m d, .slice B' m' d'] 51)) := (Below.refl _ _).alloc (Nat.le_refl _) _
  have hY0 := Has.new V 51 #[.bool false, .slice B m d, .slice B' m' d']
  have hX1 := hX0.below hbv hX0.lt
  generalize hW : World.alloc V _ = W0 at hbv hY0 hX1
  have hb1 := Below_trans' hb0 hb0.size hbv
  have s0 := hX1.cell 0
  have s1 := hX1.cell 1
  have s2 := hX1.cell 2
  have t0 := hY0.cell 0
  have t1 := hY0.cell 1
  have t2 := hY0.cell 2
  have hbr : Below W0.heap.size W0 (W0.alloc (.cells #[.bool false, .slice none 0 0, .slice none 0 0] 51)) := (Below.refl _ _).alloc (Nat.le_refl _) _
  have hR0 := Has.new W0 51 #[.bool false, .slice none 0 0, .slice none 0 0]
  generalize hU : World.alloc W0 _ = z0 at hbr hR0
  have hbz := Below_trans' hb1 hb1.size hbr
  have hX := hX1.below hbr hX1.lt
  have hY := hY0.below hbr hY0.lt
  have hgr : w.heap.size < W0.heap.size := hX1.lt
  clear s0 s1 s2 t0 t1 t2
  have s0 := hX.cell 0
  have s1 := hX.cell 1
  have s2 := hX.cell 2
  have t0 := hY.cell 0
  have t1 := hY.cell 1
  have t2 := hY.cell 2
  go_enter Tryz.func51, Tryz.ntmps51
  go_wp2_with fail
  try simp only [hV, hW, hU]
  clear hV hW hU
  refine (both4_q A A' B B' n c n' c' m d m' d' a b q1 q2 z0 (h1.below hbz) (h2.below hbz) (h3.below hbz) (h4.below hbz) hab hbb hq1 hq2 hg1 hg2).mono ?_
  rintro e z1 ⟨rfl, hb2⟩
  have hbz1 := Below_trans' hbz (hbz).size hb2
  have hX1' := hX.below hb2 hX.lt
  have hY1' := hY.below hb2 hY.lt
  clear s0 s1 s2 t0 t1 t2
  have s0 := hX1'.cell 0
  have s1 := hX1'.cell 1
  have s2 := hX1'.cell 2
  have t0 := hY1'.cell 0
  have t1 := hY1'.cell 1
  have t2 := hY1'.cell 2
  go_wp2_with fail
  refine (mul_word A B' n c m' d' a q2 z1 (h1.below hbz1) (h4.below hbz1) (by omega) (by omega) (by omega) (by omega) (by rw [c1.out]; omega)).mono ?_
  rintro e z2 ⟨A6, n6, c6, rfl, h6, hb3, _⟩
  rw [c1.out] at h6
  have hbz2 := Below_trans' hbz1 (hbz1).size hb3
  have hX2' := hX1'.below hb3 hX1'.lt
  have hY2' := hY1'.below hb3 hY1'.lt
  clear s0 s1 s2 t0 t1 t2
  have s0 := hX2'.cell 0
  have s1 := hX2'.cell 1
  have s2 := hX2'.cell 2
  have t0 := hY2'.cell 0
  have t1 := hY2'.cell 1
  have t2 := hY2'.cell 2
  go_wp2_with fail
  refine (mul_word B A' m d n' c' b q1 z2 (h3.below hbz2) (h2.below hbz2) (by omega) (by omega) (by omega) (by omega) (by rw [c2.out]; omega)).mono ?_
  rintro e z3 ⟨A7, n7, c7, rfl, h7, hb4, _⟩
  rw [c2.out] at h7
  have hbz3 := Below_trans' hbz2 (hbz2).size hb4
  have hX3' := hX2'.below hb4 hX2'.lt
  have hY3' := hY2'.below hb4 hY2'.lt
  clear s0 s1 s2 t0 t1 t2
  have s0 := hX3'.cell 0
  have s1 := hX3'.cell 1
  have s2 := hX3'.cell 2
  have t0 := hY3'.cell 0
  have t1 := hY3'.cell 1
  have t2 := hY3'.cell 2
  go_wp2_with fail
  refine (mul_word A' B' n' c' m' d' q1 q2 z3 (h2.below hbz3) (h4.below hbz3) (by omega) (by omega) (by omega) (by omega) (by rw [c3.out]; omega)).mono ?_
  rintro e z4 ⟨A8, n8, c8, rfl, h8, hb5, _⟩
  rw [c3.out] at h8
  have hbz4 := Below_trans' hbz3 (hbz3).size hb5
  have hX4' := hX3'.below hb5 hX3'.lt
  have hY4' := hY3'.below hb5 hY3'.lt
  clear s0 s1 s2 t0 t1 t2
  have s0 := hX4'.cell 0
  have s1 := hX4'.cell 1
  have s2 := hX4'.cell 2
  have t0 := hY4'.cell 0
  have t1 := hY4'.cell 1
  have t2 := hY4'.cell 2
  go_wp2_with fail
  refine (add3_small A6 A7 n6 c6 n7 c7 (a * q2 : Nat) (b * q1 : Nat) z4 ((h6.below hb4).below hb5) (h7.below hb5) (by omega) (by omega) (by omega)).mono ?_
  rintro e z5 ⟨A9, n9, c9, rfl, h9, hb6⟩
  rw [← Int.natCast_add] at h9
  have hbz5 := Below_trans' hbz4 (hbz4).size hb6
  have hX5' := hX4'.below hb6 hX4'.lt
  have hY5' := hY4'.below hb6 hY4'.lt
  clear s0 s1 s2 t0 t1 t2
  have s0 := hX5'.cell 0
  have s1 := hX5'.cell 1
  have s2 := hX5'.cell 2
  have t0 := hY5'.cell 0
  have t1 := hY5'.cell 1
  have t2 := hY5'.cell 2
  go_wp2_with fail
  refine (lowest_any A9 A8 n9 c9 n8 c8 (a * q2 + b * q1) (q1 * q2) z5 h9 (h8.below hb6) (by omega) hqp (by omega)).mono ?_
  rintro e z6 ⟨Ax, nx, cx, Ay, ny, cy, rfl, hx, hy, hb7, hfx⟩
  have hbz6 := Below_trans' hbz5 hbz5.size hb7
  have hR6 := hR0.below (Below_trans' hb2 hb2.size (Below_trans' hb3 hb3.size (Below_trans' hb4 hb4.size (Below_trans' hb5 hb5.size (Below_trans' hb6 hb6.size hb7))))) hR0.lt
  have Hfx := hide hfx
  have hg5 : W0.heap.size < z5.heap.size := (hR0.below (Below_trans' hb2 hb2.size (Below_trans' hb3 hb3.size (Below_trans' hb4 hb4.size (Below_trans' hb5 hb5.size hb6)))) hR0.lt).lt
  clear s0 s1 s2 t0 t1 t2 hfx
  have r0 := hR6.cell 0
  have r1 := hR6.cell 1
  have r2 := hR6.cell 2
  have f0 := hR6.free 0
  have f1 := hR6.free 1
  have f2 := hR6.free 2
  go_wp2
  have k := frame3 z6 W0.heap.size (.bool false) (.slice Ax nx cx) (.slice Ay ny cy)
  exact retRat2 rfl rfl rfl (put3 hR6) rfl rfl ⟨Ax, nx, cx, Ay, ny, cy, rfl, hx.frame k (fun b hb e => by have := Hfx.out b (.inl hb); omega), hy.frame k (fun b hb e => by have := Hfx.out b (.inr hb); omega), below3 hbz6 (by omega) _ _ _, fun b hb => by have := Hfx.out b hb; omega⟩
set_option maxRecDepth 100000 in
set_option maxHeartbeats 2000000 in
theorem rcmp4_q (A A' B B' : Option Addr) (n c n' c' m d m' d' : Nat) (a b q1 q2 : Nat) (w : World) (h1 : RWrds w A n c (lm a)) (h2 : RWrds w A' n' c' (lm q1)) (h3 : RWrds w B m d (lm b)) (h4 : RWrds w B' m' d' (lm q2)) (hab : a ≤ 1000000000) (hbb : b ≤ 1000000000) (hq1 : 0 < q1 ∧ q1 ≤ 2) (hq2 : 0 < q2 ∧ q2 ≤ 2) (hg1 : Nat.gcd a q1 = 1) (hg2 : Nat.gcd b q2 = 1) :
    Calls Tryz.prog 50 #[.agg #[.bool false, .slice A n c, .slice A' n' c'], .agg #[.bool false, .slice B m d, .slice B' m' d']] w fun e w' => e = .returned (.tuple #[.int .i64 (cmpS (a * q2 : Nat) (b * q1 : Nat)), .int .i64 0]) ∧ Below w.heap.size w w' := by
  have ha2 : a * q2 ≤ 2000000000 := Nat.le_trans (Nat.mul_le_mul hab hq2.2) (by omega)
  have hb2' : b * q1 ≤ 2000000000 := Nat.le_trans (Nat.mul_le_mul hbb hq1.2) (by omega)
  have hqq : q1 * q2 ≤ 4 := Nat.mul_le_mul hq1.2 hq2.2
  have hqp : 0 < q1 * q2 := Nat.mul_pos hq1.1 hq2.1
  have c1 : Hid ((a : Int) * (q2 : Int) = ((a * q2 : Nat) : Int)) := (Int.natCast_mul a q2).symm
  have c2 : Hid ((b : Int) * (q1 : Int) = ((b * q1 : Nat) : Int)) := (Int.natCast_mul b q1).symm
  have c3 : Hid ((q1 : Int) * (q2 : Int) = ((q1 * q2 : Nat) : Int)) := (Int.natCast_mul q1 q2).symm
  have z1' : a = 0 → a * q2 = 0 := fun e => by rw [e, Nat.zero_mul]
  have z2' : b = 0 → b * q1 = 0 := fun e => by rw [e, Nat.zero_mul]
  have z3' : a ≠ 0 → 0 < a * q2 := fun e => Nat.mul_pos (by omega) hq2.1
  have z4' : b ≠ 0 → 0 < b * q1 := fun e => Nat.mul_pos (by omega) hq1.1
  have hb0 : Below w.heap.size w (w.alloc (.cells #[.bool false, .slice A n c, .slice A' n' c'] 51)) := (Below.refl _ _).alloc (Nat.le_refl _) _
  have hX0 := Has.new w 51 #[.bool false, .slice A n c, .slice A' n' c']
  generalize hV : World.alloc w _ = V at hb0 hX0
  have hbv : Below V.heap.size V (V.alloc (.cells #[.bool false, .slice B m d, .slice B' m' d'] 51)) := (Below.refl _ _).alloc (Nat.le_refl _) _
  have hY0 := Has.new V 51 #[.bool false, .slice B m d, .slice B' m' d']
  have hX1 := hX0.below hbv hX0.lt
  generalize hW : World.alloc V _ = W0 at hbv hY0 hX1
  have hb1 := Below_trans' hb0 hb0.size hbv
  have s0 := hX1.cell 0
  have s1 := hX1.cell 1
  have s2 := hX1.cell 2
  have t0 := hY0.cell 0
  have t1 := hY0.cell 1
  have t2 := hY0.cell 2
  go_enter Tryz.func50, Tryz.ntmps50
  go_wp2_with fail
  try simp only [hV, hW]
  clear hV hW
  refine (both4_q A A' B B' n c n' c' m d m' d' a b q1 q2 W0 (h1.below hb1) (h2.below hb1) (h3.below hb1) (h4.below hb1) hab hbb hq1 hq2 hg1 hg2).mono ?_
  rintro e z1 ⟨rfl, hb2⟩
  have hbz1 := Below_trans' hb1 (hb1).size hb2
  have hX1' := hX1.below hb2 hX1.lt
  have hY1' := hY0.below hb2 hY0.lt
  clear s0 s1 s2 t0 t1 t2
  have s0 := hX1'.cell 0
  have s1 := hX1'.cell 1
  have s2 := hX1'.cell 2
  have t0 := hY1'.cell 0
  have t1 := hY1'.cell 1
  have t2 := hY1'.cell 2
  have cx : ∀ W, Below z1.heap.size z1 W → Calls Tryz.prog 95 #[.agg #[.bool false, .slice A n c, .slice A' n' c']] W fun e w' => e = .returned (.int .i64 (sideS (a : Int))) ∧ Below W.heap.size W w' := fun W hW => side4 A A' n c n' c' a W ((h1.below hbz1).below hW)
  have cy : ∀ W, Below z1.heap.size z1 W → Calls Tryz.prog 95 #[.agg #[.bool false, .slice B m d, .slice B' m' d']] W fun e w' => e = .returned (.int .i64 (sideS (b : Int))) ∧ Below W.heap.size W w' := fun W hW => side4 B B' m d m' d' b W ((h3.below hbz1).below hW)
  have hbk0 : Below z1.heap.size z1 z1 := Below.refl _ _
  by_cases a0' : a = 0
  · have a0 : (a : Int) = 0 := by omega
    have za := z1' a0'
    have ex : sideS (a : Int) = 0 := if_pos a0
    rw [ex] at cx
    by_cases b0' : b = 0
    · have b0 : (b : Int) = 0 := by omega
      have zb := z2' b0'
      have ey : sideS (b : Int) = 0 := if_pos b0
      rw [ey] at cy
      have hr : Hid (0 = cmpS (a * q2 : Nat) (b * q1 : Nat)) := by unfold Hid cmpS; rw [if_neg (by omega), if_neg (by omega)]
      clear ex ey a0 b0 a0' b0' za zb z1' z2' z3' z4'
      have cxq : ∀ q, Calls Tryz.prog 95 #[.agg #[.bool false, .slice A n c, .slice A' n' c']] (More z1 q) fun e w'' => e = .returned (.int .i64 0) ∧ ∃ q', w'' = More z1 q' := fun q => more_of (cx _ (Below_trans' hbk0 (hbk0).size (more_below _ _)))
      have cyq : ∀ q, Calls Tryz.prog 95 #[.agg #[.bool false, .slice B m d, .slice B' m' d']] (More z1 q) fun e w'' => e = .returned (.int .i64 0) ∧ ∃ q', w'' = More z1 q' := fun q => more_of (cy _ (Below_trans' hbk0 (hbk0).size (more_below _ _)))
      go_upto_region 3 with fail
      refine wp_region_more (by kernel_rfl) (by kernel_rfl) ?_
      repeat (go_big_quiet_step (with_reducible first | exact cxq _ | exact cyq _))
      refine wpQuiet_nil ?_
      rintro z2 ⟨qz2, hwz2⟩
      have hbz2 := below_of_eq hwz2
      clear hwz2 qz2
      clear cxq cyq
      have hbk1 := hbz2
      clear s0 s1 s2 t0 t1 t2
      have s0 := (hX1'.below hbk1 hX1'.lt).cell 0
      have s1 := (hX1'.below hbk1 hX1'.lt).cell 1
      have s2 := (hX1'.below hbk1 hX1'.lt).cell 2
      have t0 := (hY1'.below hbk1 hY1'.lt).cell 0
      have t1 := (hY1'.below hbk1 hY1'.lt).cell 1
      have t2 := (hY1'.below hbk1 hY1'.lt).cell 2
      have cxq : ∀ q, Calls Tryz.prog 95 #[.agg #[.bool false, .slice A n c, .slice A' n' c']] (More z2 q) fun e w'' => e = .returned (.int .i64 0) ∧ ∃ q', w'' = More z2 q' := fun q => more_of (cx _ (Below_trans' hbk1 (hbk1).size (more_below _ _)))
      have cyq : ∀ q, Calls Tryz.prog 95 #[.agg #[.bool false, .slice B m d, .slice B' m' d']] (More z2 q) fun e w'' => e = .returned (.int .i64 0) ∧ ∃ q', w'' = More z2 q' := fun q => more_of (cy _ (Below_trans' hbk1 (hbk1).size (more_below _ _)))
      go_upto_region 5 with fail
      refine wp_region_more (by kernel_rfl) (by kernel_rfl) ?_
      repeat (go_big_quiet_step (with_reducible first | exact cxq _ | exact cyq _))
      refine wpQuiet_nil ?_
      rintro z3 ⟨qz3, hwz3⟩
      have hbz3 := below_of_eq hwz3
      clear hwz3 qz3
      clear cxq cyq
      have hbk2 := Below_trans' hbk1 hbk1.size hbz3
      clear s0 s1 s2 t0 t1 t2
      have s0 := (hX1'.below hbk2 hX1'.lt).cell 0
      have s1 := (hX1'.below hbk2 hX1'.lt).cell 1
      have s2 := (hX1'.below hbk2 hX1'.lt).cell 2
      have t0 := (hY1'.below hbk2 hY1'.lt).cell 0
      have t1 := (hY1'.below hbk2 hY1'.lt).cell 1
      have t2 := (hY1'.below hbk2 hY1'.lt).cell 2
      go_wp2_with fail
      refine (cx z3 hbk2).mono ?_
      rintro e z4 ⟨rfl, hb4⟩
      go_wp2
      go_ret2
      exact ⟨ret_ii3 hr.out, Below_trans' hbz1 hbz1.size (Below_trans' hbk2 hbk2.size hb4)⟩
    · have b0 : (b : Int) ≠ 0 := by omega
      have zb := z4' b0'
      have ey : sideS (b : Int) = 1 := if_neg b0
      rw [ey] at cy
      have hr : Hid (-1 = cmpS (a * q2 : Nat) (b * q1 : Nat)) := by unfold Hid cmpS; rw [if_pos (by omega)]
      clear ex ey a0 b0 a0' b0' za zb z1' z2' z3' z4'
      have cxq : ∀ q, Calls Tryz.prog 95 #[.agg #[.bool false, .slice A n c, .slice A' n' c']] (More z1 q) fun e w'' => e = .returned (.int .i64 0) ∧ ∃ q', w'' = More z1 q' := fun q => more_of (cx _ (Below_trans' hbk0 (hbk0).size (more_below _ _)))
      have cyq : ∀ q, Calls Tryz.prog 95 #[.agg #[.bool false, .slice B m d, .slice B' m' d']] (More z1 q) fun e w'' => e = .returned (.int .i64 1) ∧ ∃ q', w'' = More z1 q' := fun q => more_of (cy _ (Below_trans' hbk0 (hbk0).size (more_below _ _)))
      go_upto_region 3 with fail
      refine wp_region_more (by kernel_rfl) (by kernel_rfl) ?_
      repeat (go_big_quiet_step (with_reducible first | exact cxq _ | exact cyq _))
      refine wpQuiet_nil ?_
      rintro z2 ⟨qz2, hwz2⟩
      have hbz2 := below_of_eq hwz2
      clear hwz2 qz2
      clear cxq cyq
      go_wp2
      go_ret2
      exact ⟨ret_ii3 hr.out, Below_trans' hbz1 hbz1.size hbz2⟩
  · have a0 : (a : Int) ≠ 0 := by omega
    have za := z3' a0'
    have ex : sideS (a : Int) = 1 := if_neg a0
    rw [ex] at cx
    by_cases b0' : b = 0
    · have b0 : (b : Int) = 0 := by omega
      have zb := z2' b0'
      have ey : sideS (b : Int) = 0 := if_pos b0
      rw [ey] at cy
      have hr : Hid (1 = cmpS (a * q2 : Nat) (b * q1 : Nat)) := by unfold Hid cmpS; rw [if_neg (by omega), if_pos (by omega)]
      clear ex ey a0 b0 a0' b0' za zb z1' z2' z3' z4'
      have cxq : ∀ q, Calls Tryz.prog 95 #[.agg #[.bool false, .slice A n c, .slice A' n' c']] (More z1 q) fun e w'' => e = .returned (.int .i64 1) ∧ ∃ q', w'' = More z1 q' := fun q => more_of (cx _ (Below_trans' hbk0 (hbk0).size (more_below _ _)))
      have cyq : ∀ q, Calls Tryz.prog 95 #[.agg #[.bool false, .slice B m d, .slice B' m' d']] (More z1 q) fun e w'' => e = .returned (.int .i64 0) ∧ ∃ q', w'' = More z1 q' := fun q => more_of (cy _ (Below_trans' hbk0 (hbk0).size (more_below _ _)))
      go_upto_region 3 with fail
      refine wp_region_more (by kernel_rfl) (by kernel_rfl) ?_
      repeat (go_big_quiet_step (with_reducible first | exact cxq _ | exact cyq _))
      refine wpQuiet_nil ?_
      rintro z2 ⟨qz2, hwz2⟩
      have hbz2 := below_of_eq hwz2
      clear hwz2 qz2
      clear cxq cyq
      have hbk1 := hbz2
      clear s0 s1 s2 t0 t1 t2
      have s0 := (hX1'.below hbk1 hX1'.lt).cell 0
      have s1 := (hX1'.below hbk1 hX1'.lt).cell 1
      have s2 := (hX1'.below hbk1 hX1'.lt).cell 2
      have t0 := (hY1'.below hbk1 hY1'.lt).cell 0
      have t1 := (hY1'.below hbk1 hY1'.lt).cell 1
      have t2 := (hY1'.below hbk1 hY1'.lt).cell 2
      have cxq : ∀ q, Calls Tryz.prog 95 #[.agg #[.bool false, .slice A n c, .slice A' n' c']] (More z2 q) fun e w'' => e = .returned (.int .i64 1) ∧ ∃ q', w'' = More z2 q' := fun q => more_of (cx _ (Below_trans' hbk1 (hbk1).size (more_below _ _)))
      have cyq : ∀ q, Calls Tryz.prog 95 #[.agg #[.bool false, .slice B m d, .slice B' m' d']] (More z2 q) fun e w'' => e = .returned (.int .i64 0) ∧ ∃ q', w'' = More z2 q' := fun q => more_of (cy _ (Below_trans' hbk1 (hbk1).size (more_below _ _)))
      go_upto_region 5 with fail
      refine wp_region_more (by kernel_rfl) (by kernel_rfl) ?_
      repeat (go_big_quiet_step (with_reducible first | exact cxq _ | exact cyq _))
      refine wpQuiet_nil ?_
      rintro z3 ⟨qz3, hwz3⟩
      have hbz3 := below_of_eq hwz3
      clear hwz3 qz3
      clear cxq cyq
      go_wp2
      go_ret2
      exact ⟨ret_ii3 hr.out, Below_trans' hbz1 hbz1.size (Below_trans' hbk1 hbk1.size hbz3)⟩
    · have b0 : (b : Int) ≠ 0 := by omega
      have zb := z4' b0'
      have ey : sideS (b : Int) = 1 := if_neg b0
      rw [ey] at cy
      clear ex ey a0 b0 a0' b0' za zb z1' z2' z3' z4'
      have cxq : ∀ q, Calls Tryz.prog 95 #[.agg #[.bool false, .slice A n c, .slice A' n' c']] (More z1 q) fun e w'' => e = .returned (.int .i64 1) ∧ ∃ q', w'' = More z1 q' := fun q => more_of (cx _ (Below_trans' hbk0 (hbk0).size (more_below _ _)))
      have cyq : ∀ q, Calls Tryz.prog 95 #[.agg #[.bool false, .slice B m d, .slice B' m' d']] (More z1 q) fun e w'' => e = .returned (.int .i64 1) ∧ ∃ q', w'' = More z1 q' := fun q => more_of (cy _ (Below_trans' hbk0 (hbk0).size (more_below _ _)))
      go_upto_region 3 with fail
      refine wp_region_more (by kernel_rfl) (by kernel_rfl) ?_
      repeat (go_big_quiet_step (with_reducible first | exact cxq _ | exact cyq _))
      refine wpQuiet_nil ?_
      rintro z2 ⟨qz2, hwz2⟩
      have hbz2 := below_of_eq hwz2
      clear hwz2 qz2
      clear cxq cyq
      have hbk1 := hbz2
      clear s0 s1 s2 t0 t1 t2
      have s0 := (hX1'.below hbk1 hX1'.lt).cell 0
      have s1 := (hX1'.below hbk1 hX1'.lt).cell 1
      have s2 := (hX1'.below hbk1 hX1'.lt).cell 2
      have t0 := (hY1'.below hbk1 hY1'.lt).cell 0
      have t1 := (hY1'.below hbk1 hY1'.lt).cell 1
      have t2 := (hY1'.below hbk1 hY1'.lt).cell 2
      have cxq : ∀ q, Calls Tryz.prog 95 #[.agg #[.bool false, .slice A n c, .slice A' n' c']] (More z2 q) fun e w'' => e = .returned (.int .i64 1) ∧ ∃ q', w'' = More z2 q' := fun q => more_of (cx _ (Below_trans' hbk1 (hbk1).size (more_below _ _)))
      have cyq : ∀ q, Calls Tryz.prog 95 #[.agg #[.bool false, .slice B m d, .slice B' m' d']] (More z2 q) fun e w'' => e = .returned (.int .i64 1) ∧ ∃ q', w'' = More z2 q' := fun q => more_of (cy _ (Below_trans' hbk1 (hbk1).size (more_below _ _)))
      go_upto_region 5 with fail
      refine wp_region_more (by kernel_rfl) (by kernel_rfl) ?_
      repeat (go_big_quiet_step (with_reducible first | exact cxq _ | exact cyq _))
      refine wpQuiet_nil ?_
      rintro z3 ⟨qz3, hwz3⟩
      have hbz3 := below_of_eq hwz3
      clear hwz3 qz3
      clear cxq cyq
      have hbk2 := Below_trans' hbk1 hbk1.size hbz3
      clear s0 s1 s2 t0 t1 t2
      have s0 := (hX1'.below hbk2 hX1'.lt).cell 0
      have s1 := (hX1'.below hbk2 hX1'.lt).cell 1
      have s2 := (hX1'.below hbk2 hX1'.lt).cell 2
      have t0 := (hY1'.below hbk2 hY1'.lt).cell 0
      have t1 := (hY1'.below hbk2 hY1'.lt).cell 1
      have t2 := (hY1'.below hbk2 hY1'.lt).cell 2
      go_wp2_with fail
      refine (cx z3 hbk2).mono ?_
      rintro e z4 ⟨rfl, hb4⟩
      have hbk3 := Below_trans' hbk2 hbk2.size hb4
      have hbz4 := Below_trans' hbz1 hbz1.size hbk3
      clear s0 s1 s2 t0 t1 t2
      have s0 := (hX1'.below hbk3 hX1'.lt).cell 0
      have s1 := (hX1'.below hbk3 hX1'.lt).cell 1
      have s2 := (hX1'.below hbk3 hX1'.lt).cell 2
      have t0 := (hY1'.below hbk3 hY1'.lt).cell 0
      have t1 := (hY1'.below hbk3 hY1'.lt).cell 1
      have t2 := (hY1'.below hbk3 hY1'.lt).cell 2
      go_wp2_with fail
      refine (mul_word A B' n c m' d' a q2 z4 (h1.below hbz4) (h4.below hbz4) (by omega) (by omega) (by omega) (by omega) (by rw [c1.out]; omega)).mono ?_
      rintro e z5 ⟨A6, n6, c6, rfl, h6, hb5, _⟩
      rw [c1.out] at h6
      have hbk4 := Below_trans' hbk3 hbk3.size hb5
      have hbz5 := Below_trans' hbz1 hbz1.size hbk4
      clear s0 s1 s2 t0 t1 t2
      have s0 := (hX1'.below hbk4 hX1'.lt).cell 0
      have s1 := (hX1'.below hbk4 hX1'.lt).cell 1
      have s2 := (hX1'.below hbk4 hX1'.lt).cell 2
      have t0 := (hY1'.below hbk4 hY1'.lt).cell 0
      have t1 := (hY1'.below hbk4 hY1'.lt).cell 1
      have t2 := (hY1'.below hbk4 hY1'.lt).cell 2
      go_wp2_with fail
      refine (mul_word B A' m d n' c' b q1 z5 (h3.below hbz5) (h2.below hbz5) (by omega) (by omega) (by omega) (by omega) (by rw [c2.out]; omega)).mono ?_
      rintro e z6 ⟨A7, n7, c7, rfl, h7, hb6, _⟩
      rw [c2.out] at h7
      have hbk5 := Below_trans' hbk4 hbk4.size hb6
      clear s0 s1 s2 t0 t1 t2
      have s0 := (hX1'.below hbk5 hX1'.lt).cell 0
      have s1 := (hX1'.below hbk5 hX1'.lt).cell 1
      have s2 := (hX1'.below hbk5 hX1'.lt).cell 2
      have t0 := (hY1'.below hbk5 hY1'.lt).cell 0
      have t1 := (hY1'.below hbk5 hY1'.lt).cell 1
      have t2 := (hY1'.below hbk5 hY1'.lt).cell 2
      go_wp2_with fail
      refine (cmp3_small A6 A7 n6 c6 n7 c7 (a * q2 : Nat) (b * q1 : Nat) z6 (h6.below hb6) h7 (by omega) (by omega)).mono ?_
      rintro e z7 ⟨rfl, hb7⟩
      obtain ⟨cv, hcv⟩ : ∃ cv, cv = cmpS (a * q2 : Nat) (b * q1 : Nat) := ⟨_, rfl⟩
      rw [← hcv]
      have hcb : -1 ≤ cv ∧ cv ≤ 1 := by rw [hcv]; unfold cmpS; split <;> (try split) <;> omega
      have Hcv := hide hcv
      clear hcv
      have hbk6 := Below_trans' hbk5 hbk5.size hb7
      clear s0 s1 s2 t0 t1 t2
      have s0 := (hX1'.below hbk6 hX1'.lt).cell 0
      have s1 := (hX1'.below hbk6 hX1'.lt).cell 1
      have s2 := (hX1'.below hbk6 hX1'.lt).cell 2
      have t0 := (hY1'.below hbk6 hY1'.lt).cell 0
      have t1 := (hY1'.below hbk6 hY1'.lt).cell 1
      have t2 := (hY1'.below hbk6 hY1'.lt).cell 2
      go_wp2_with fail
      refine (cx z7 hbk6).mono ?_
      rintro e z8 ⟨rfl, hb8⟩
      go_wp2
      go_ret2
      exact ⟨ret_ii3 Hcv.out, Below_trans' hbz1 hbz1.size (Below_trans' hbk6 hbk6.size hb8)⟩
end Go.Proofs.YtkhclcdmehjfkaaGreat
