/-
  Words: Trim of any list; a sum with nothing; a product with one. Whole numbers as ratios: their sum, their order.
-/
import Derived.Test.YtiebfalodelclaaGreatW3b
namespace Go.Proofs.YtiebfalodelclaaGreat
open Go.RowKit Go.Proofs
attribute [local go_sem] cell?_more cell?_alloc_some cell?_setCell_far frozen?_alloc_some frozen?_more
/-- Without the zeros at the end. -/
def trimS (xs : List Int) : List Int := (xs.reverse.dropWhile fun x => decide (x = 0)).reverse
theorem trimS_nil : trimS [] = [] := rfl
theorem trimS_zero (xs : List Int) : trimS (xs ++ [0]) = trimS xs := by unfold trimS; simp
theorem trimS_last {xs : List Int} {v : Int} (h : v ≠ 0) : trimS (xs ++ [v]) = xs ++ [v] := by unfold trimS; simp [h]
theorem trimS_lm {a : Int} : trimS (lm a ++ [0]) = lm a := by
  rw [trimS_zero]
  unfold lm
  split
  · rfl
  · rename_i h; exact trimS_last (xs := []) h
theorem trimS_word {a : Int} : trimS [a] = lm a := by
  unfold lm
  split
  · rename_i h; subst h; rfl
  · rename_i h; exact trimS_last (xs := []) h

set_option maxRecDepth 100000 in
set_option maxHeartbeats 1000000 in
theorem trim_any (A : Option Addr) (n c : Nat) (xs : List Int) (w : World) (h : RWrds w A n c xs) (hn : n ≤ 1000) :
    Calls Tryz.prog 109 #[.slice A n c] w (WPostF w (trimS xs)) := by
  have hl := h.len
  have hbz : Below w.heap.size w (w.alloc (.cells #[] 103)) := (Below.refl _ _).alloc (Nat.le_refl _) _
  have hOz : OwnW (w.alloc (.cells #[] 103)) w.heap.size (.slice (some ⟨w.heap.size, 0, none⟩) 0 0) [] := World.ownsRow_made w #[] 0 (Nat.le_refl _) (by unfold maxLen; omega) rfl
  obtain ⟨v4, w4, h41, h42, h43, _⟩ := run_appWrds _ 43 hOz (h.below hbz) (by simp; omega) (by simp)
  rw [List.nil_append] at h42
  have hb4 : Below w.heap.size w w4 := hbz.grown h43 (by simp) (fun k hk => by cases hk; exact Nat.le_refl _)
  obtain ⟨A4, c4, rfl⟩ := h42.slice
  have hr4 := h42.wrds (fun x hx => h.bd hx)
  have hf4 := hide h42.new
  rw [hl] at hr4 h41 hf4
  have Hl := hide hl
  have hc4 : n ≤ c4 := hr4.2.1
  have hcm : c4 ≤ 9223372036854775807 := hr4.2.2.1
  clear h42 h43 hOz hbz hl
  go_enter Tryz.func109, Tryz.ntmps109
  go_wp2_with (at_builtin; refine list_app rfl rfl rfl rfl h41 ?_)
  clear h41
  go_loopw [3] (fun o wr => ∃ k : Nat, k ≤ n ∧ o = .slice A4 k c4 ∧ Hid (trimS (xs.take k) = trimS xs) ∧ wr = w4) (fun o _ => match o with | .slice _ k _ => k | _ => 0)
  case atStart => exact ⟨n, Nat.le_refl _, rfl, by unfold Hid; rw [List.take_of_length_le (by rw [Hl.out]; exact Nat.le_refl _)], rfl⟩
  case round =>
    obtain ⟨k, hk, rfl, ht, rfl⟩ := hrel
    by_cases h0 : 0 < k
    · obtain ⟨j, rfl⟩ : ∃ j, k = j + 1 := ⟨k - 1, by omega⟩
      obtain ⟨b, off, v, rfl, hc, _, hat, _⟩ := hr4.step (show j < n by omega)
      have htk : xs.take (j + 1) = xs.take j ++ [v] := by rw [List.take_add_one, hat.out]; rfl
      have g0 : (0 : Int) < ((j + 1 : Nat) : Int) := by omega
      clear hat
      by_cases hv : v = 0
      · subst hv
        have ht2 : Hid (trimS (xs.take j) = trimS xs) := by unfold Hid; rw [← ht.out, htk, trimS_zero]
        clear htk
        go_wp2
        go_roundw
        case rel => exact ⟨j, by omega, rfl, ht2, trivial⟩
        case measure => simp
      · have e1 : (v == 0) = false := by simpa using hv
        have ht2 : Hid (xs.take (j + 1) = trimS xs) := by unfold Hid; rw [← ht.out, htk, trimS_last hv]
        clear htk hv
        go_wp2
        go_ret
        exact ⟨_, j + 1, c4, rfl, by rw [← ht2.out]; exact hr4.take hk, hb4, fun b hb => hf4.out b ⟨by have := hb.1; omega, hb.2⟩⟩
    · obtain rfl : k = 0 := by omega
      have ht2 : Hid ([] = trimS xs) := by unfold Hid; rw [← ht.out]; rfl
      go_wp2
      go_ret
      exact ⟨A4, 0, c4, rfl, by rw [← ht2.out]; exact ⟨rfl, Nat.zero_le _, hcm, by simp, fun h => absurd h (by omega)⟩, hb4, fun b hb => absurd hb.1 (by omega)⟩

set_option maxRecDepth 100000 in
set_option maxHeartbeats 1000000 in
theorem plus_nil (A' : Option Addr) (n' c' : Nat) (ys : List Int) (w : World) (h' : RWrds w A' n' c' ys) (hn' : n' ≤ 1000) :
    Calls Tryz.prog 70 #[.slice none 0 0, .slice A' n' c'] w (WPostF w (trimS ys)) := by
  have hl' := hide h'.len
  have hle := h'.le
  go_enter Tryz.func70, Tryz.ntmps70
  go_wp2
  go_loopw [5, 6, 7] (fun v cy i wr => ∃ t : Nat, t ≤ n' ∧ i = .int .i64 t ∧ cy = .int .u64 0 ∧ OwnW wr w.heap.size v (ys.take t) ∧ Below w.heap.size w wr) (fun _ _ i _ => (n' - (intOf i).toNat))
  case atStart => exact ⟨0, Nat.zero_le _, rfl, rfl, OwnW.nil_ _ _, Below.refl _ _⟩
  case round =>
    obtain ⟨t, ht, rfl, rfl, hO, hb⟩ := hrel
    have hz := hb.size
    by_cases hlt : t < n'
    · obtain ⟨b, off, v, rfl, hc, _, hat, hv0, hv1⟩ := (h'.below hb).step hlt
      have c1 := at_val none 0 0 [] t wr (RWrds.nil_ _) (v := 0) (by simp)
      have c2 := at_val (some ⟨b, off, none⟩) n' c' ys t wr (h'.below hb) (v := v) (by simp [List.getD, hat.out])
      have e1 : Int.tmod v 4294967296 = v := Int.tmod_eq_of_lt (by omega) (by omega)
      have e2 : Int.tdiv v 4294967296 = 0 := Int.tdiv_eq_zero_of_lt (by omega) (by omega)
      have f1 : ¬ (t : Int) < 0 := by omega
      have f2 : (t : Int) < (n' : Int) := by omega
      have hs : Hid (ys.take (t + 1) = ys.take t ++ [v]) := by unfold Hid; rw [List.take_add_one, hat.out]; rfl
      have hlen : (ys.take t).length ≤ 1000 := by rw [List.length_take]; omega
      clear hat
      go_wp2_with fail
      refine c1.mono ?_
      rintro e w' ⟨rfl, rfl⟩
      go_wp2_with fail
      refine c2.mono ?_
      rintro e w' ⟨rfl, rfl⟩
      go_wp2_with (at_builtin; refine appWrd rfl rfl rfl (hO.below ((Below.refl _ _).alloc (Nat.le_refl _) _)) rfl ((Has.new _ _ _).cell 0) (by omega) (by simp; omega) ?_)
      intro v' w' hO' hg
      go_wp2
      go_roundw
      case rel => exact ⟨t + 1, by omega, by go_num, rfl, by rw [hs.out]; exact hO', (hb.alloc hz _).grown hg (by simp; omega) (fun k hk => (hO.lt k hk).1)⟩
      case measure => simp [intOf] <;> omega
    · have f1 : ¬ (t : Int) < 0 := by omega
      have f2 : ¬ (t : Int) < (n' : Int) := by omega
      have e : ys.take t = ys := List.take_of_length_le (by rw [hl'.out]; omega)
      rw [e] at hO
      obtain ⟨Av, cv, rfl⟩ := hO.slice
      have hR := hO.wrds (fun x hx => h'.bd hx)
      rw [hl'.out] at hR ⊢
      have ht := trim_any Av n' cv ys wr hR hn'
      clear e hO hR
      go_wp2_with fail
      refine ht.mono ?_
      rintro e w' ⟨A5, n5, c5, rfl, h5, hb5, hf5⟩
      go_wp2
      go_ret
      exact ⟨A5, n5, c5, rfl, h5, Below_trans' hb hb.size hb5, fun b hb' => Nat.le_trans hz (hf5 b hb')⟩

/-- A product with one. -/
def MPost (w : World) (xs : List Int) (e : Ending) (w' : World) : Prop := ∃ A n c, e = .returned (.tuple #[.slice A n c, .int .i64 0]) ∧ RWrds w' A n c xs ∧ Below w.heap.size w w' ∧ ∀ b, fpS A n b → w.heap.size ≤ b
set_option maxRecDepth 100000 in
set_option maxHeartbeats 1000000 in
theorem mul_one (A A' : Option Addr) (n c n' c' : Nat) (a : Int) (w : World) (h : RWrds w A n c (lm a)) (h' : RWrds w A' n' c' [1]) (_ha : 0 ≤ a) (_hab : a ≤ 4294967295) :
    Calls Tryz.prog 42 #[.slice A n c, .slice A' n' c'] w (MPost w (lm a)) := by
  have cb := wboth_ok A n c (lm a) A' n' c' [1] w h h' (lm_ok a) one_ok
  have hl := hide h.len
  have hn1 : n ≤ 1 := by have h1 := h.len; have h2 := lm_len a; omega
  obtain rfl : n' = 1 := h'.len.symm
  obtain ⟨b1, o1, v1, rfl, hc1, _, hat1, _⟩ := h'.step (show 0 < 1 by omega)
  obtain rfl : (1 : Int) = v1 := by simpa using hat1.out
  simp only [Nat.add_zero] at hc1
  clear hat1
  go_enter Tryz.func42, Tryz.ntmps42
  go_wp2_with fail
  refine cb.mono ?_
  rintro e w' ⟨rfl, rfl⟩
  have hmk : ∀ w, (Instr.makeSlice 43 (.int .i64 0) (.int .i64 0)).run Tryz.prog w = .ok (.slice (some ⟨w.heap.size, 0, none⟩) 0 0) (w.alloc (.cells #[] 103)) := fun _ => by kernel_rfl
  go_wp2
  go_loopw [7, 8] (fun o i wr => Below w.heap.size w wr ∧ ((o = .slice none 0 0 ∧ i = .int .i64 0) ∨ (i = .int .i64 1 ∧ ∃ A n c, o = .slice A n c ∧ RWrds wr A n c (lm a) ∧ Hid (∀ b, fpS A n b → w.heap.size ≤ b)))) (fun _ i _ => (1 - intOf i).toNat)
  case atStart => exact ⟨Below.refl _ _, .inl ⟨rfl, rfl⟩⟩
  case round =>
    obtain ⟨hb, hc⟩ := hrel
    have hz := hb.size
    rcases hc with ⟨rfl, rfl⟩ | ⟨rfl, A5, n5, c5, rfl, h5, hf5⟩
    · have hc1b := keep_cell hb hc1
      have hOz : OwnW (wr.alloc (.cells #[] 103)) w.heap.size (.slice (some ⟨wr.heap.size, 0, none⟩) 0 0) [] := World.ownsRow_made wr #[] 0 hz (by unfold maxLen; omega) rfl
      have hb2 : Below w.heap.size w (wr.alloc (.cells #[] 103)) := hb.alloc hz _
      go_wp2
      clear hmk
      generalize World.alloc wr _ = wa at hOz hb2 ⊢
      go_loopw [9, 10, 11] (fun r cy k wr => ∃ j : Nat, j ≤ n ∧ k = .int .i64 j ∧ cy = .int .u64 0 ∧ OwnW wr w.heap.size r ((lm a).take j) ∧ Below w.heap.size w wr) (fun _ _ k _ => n - (intOf k).toNat)
      case atStart => exact ⟨0, Nat.zero_le _, rfl, rfl, hOz, hb2⟩
      case round =>
        clear hOz hb2 hc1b
        obtain ⟨j, hj, rfl, rfl, hO, hbj⟩ := hrel
        have hzj := hbj.size
        by_cases hjn : j < n
        · obtain ⟨b, off, v, rfl, hcv, _, hat, hv0, hv1⟩ := (h.below hbj).step hjn
          have hc1j := keep_cell hbj hc1
          have e1 : Int.tmod v 4294967296 = v := Int.tmod_eq_of_lt (by omega) (by omega)
          have e2 : Int.tdiv v 4294967296 = 0 := Int.tdiv_eq_zero_of_lt (by omega) (by omega)
          have hs : Hid ((lm a).take (j + 1) = (lm a).take j ++ [v]) := by unfold Hid; rw [List.take_add_one, hat.out]; rfl
          have hlen : ((lm a).take j).length ≤ 1 := Nat.le_trans (by rw [List.length_take]; exact Nat.min_le_right _ _) (lm_len a)
          clear hat
          go_upto_region 13 with fail
          refine wp_region_more (by kernel_rfl) (by kernel_rfl) ?_
          repeat (go_big_quiet_step (fail))
          refine wpQuiet_nil ?_
          rintro w7 ⟨qw7, hww7⟩
          have hbw7 := below_of_eq hww7
          clear hww7 qw7
          have hO7 := hO.below hbw7
          have hb7 := Below_trans' hbj hbj.size hbw7
          have hz7 := hb7.size
          clear hO
          go_wp2_with (at_builtin; refine appWrd rfl rfl rfl (hO7.below ((Below.refl _ _).alloc (Nat.le_refl _) _)) rfl ((Has.new _ _ _).cell 0) (by omega) (by simp; omega) ?_)
          intro v' w' hO' hg
          go_wp2
          go_roundw
          case rel => exact ⟨j + 1, by omega, by go_num, rfl, by rw [hs.out]; exact hO', (hb7.alloc hz7 _).grown hg (by simp; omega) (fun k hk => (hO7.lt k hk).1)⟩
          case measure => simp [intOf] <;> omega
        · have e : (lm a).take j = lm a := List.take_of_length_le (by rw [hl.out]; omega)
          rw [e] at hO
          have hlen := lm_len a
          clear e
          go_wp2_with (at_builtin; refine appWrd rfl rfl rfl (hO.below ((Below.refl _ _).alloc (Nat.le_refl _) _)) rfl ((Has.new _ _ _).cell 0) (by omega) (by simp; omega) ?_)
          intro v' w' hO' hg
          have hb' : Below w.heap.size w w' := (hbj.alloc hzj _).grown hg (by simp; omega) (fun k hk => (hO.lt k hk).1)
          obtain ⟨Av, cv, rfl⟩ := hO'.slice
          have hR := hO'.wrds (fun x hx => by rcases List.mem_append.1 hx with hx | hx; exact h.bd hx; simp at hx; omega)
          have hp := plus_nil Av _ cv (lm a ++ [0]) w' hR (by simp; omega)
          rw [trimS_lm] at hp
          generalize (lm a ++ [0]).length = nn at hp ⊢
          clear hR hO' hg
          go_wp2_with fail
          refine hp.mono ?_
          rintro e w8 ⟨A5, n5, c5, rfl, h5, hb5, hf5⟩
          have hf5' : Hid (∀ b, fpS A5 n5 b → w.heap.size ≤ b) := fun b hb => Nat.le_trans hb'.size (hf5 b hb)
          clear hf5
          go_wp2
          go_roundw
          case rel => exact ⟨Below_trans' hb' hb'.size hb5, .inr ⟨by go_num, A5, n5, c5, rfl, h5, hf5'⟩⟩
          case measure => simp [intOf]
    · have hlen5 := h5.len
      have hn5 : n5 ≤ 1 := by have := lm_len a; omega
      have f1 : ¬ (96 : Int) < (n5 : Int) := by omega
      clear hlen5
      go_wp2
      go_ret2
      exact ⟨A5, n5, c5, rfl, h5, hb, hf5.out⟩

theorem lm_one : lm 1 = [1] := rfl
set_option maxRecDepth 100000 in
set_option maxHeartbeats 1000000 in
theorem add3_small (A A' : Option Addr) (n c n' c' : Nat) (a b : Int) (w : World) (h : RWrds w A n c (lm a)) (h' : RWrds w A' n' c' (lm b)) (ha : 0 ≤ a) (hb : 0 ≤ b) (hab : a + b ≤ 4294967295) :
    Calls Tryz.prog 43 #[.slice A n c, .slice A' n' c'] w fun e w' => ∃ A5 n5 c5, e = .returned (.tuple #[.slice A5 n5 c5, .int .i64 0]) ∧ RWrds w' A5 n5 c5 (lm (a + b)) ∧ Below w.heap.size w w' := by
  have cb := wboth_ok A n c (lm a) A' n' c' (lm b) w h h' (lm_ok a) (lm_ok b)
  have cp := plus_small A A' n c n' c' a b w h h' ha hb hab
  go_enter Tryz.func43, Tryz.ntmps43
  go_wp2_with fail
  refine cb.mono ?_
  rintro e w' ⟨rfl, rfl⟩
  go_wp2_with fail
  refine cp.mono ?_
  rintro e w1 ⟨A5, n5, c5, rfl, h5, hb5⟩
  have hlen5 := h5.len
  have f1 : ¬ (96 : Int) < (n5 : Int) := by have := lm_len (a + b); omega
  clear hlen5 cp cb
  go_wp2
  go_ret2
  exact ⟨A5, n5, c5, rfl, h5, hb5⟩

set_option maxRecDepth 100000 in
set_option maxHeartbeats 1000000 in
theorem check4_one (A A' : Option Addr) (n c n' c' : Nat) (a : Int) (w : World) (h : RWrds w A n c (lm a)) (h' : RWrds w A' n' c' [1]) (ha : 0 ≤ a) (hab : a ≤ 4294967295) :
    Calls Tryz.prog 68 #[.agg #[.bool false, .slice A n c, .slice A' n' c']] w fun e w' => e = .returned (.int .i64 0) ∧ Below w.heap.size w w' := by
  have hb0 : Below w.heap.size w (w.alloc (.cells #[.bool false, .slice A n c, .slice A' n' c'] 45)) := (Below.refl _ _).alloc (Nat.le_refl _) _
  have hX0 := Has.new w 45 #[.bool false, .slice A n c, .slice A' n' c']
  generalize hV : World.alloc w _ = V at hb0 hX0
  obtain rfl : n' = 1 := h'.len.symm
  have cb := wboth_ok A n c (lm a) A' 1 c' [1] V (h.below hb0) (h'.below hb0) (lm_ok a) one_ok
  have cg := gcd_one A A' n c 1 c' a V (h.below hb0) (h'.below hb0) ha hab
  have s0 := hX0.cell 0
  have s1 := hX0.cell 1
  have s2 := hX0.cell 2
  go_enter Tryz.func68, Tryz.ntmps68
  by_cases hn : n = 0
  · have f1 : ((n : Int) == 0) = true := by simp [hn]
    clear hn
    go_wp2_with fail
    try simp only [hV]
    clear hV
    refine cb.mono ?_
    rintro e w' ⟨rfl, rfl⟩
    go_wp2_with fail
    refine cg.mono ?_
    rintro e w1 ⟨A5, n5, c5, rfl, h5, hb1⟩
    have hb01 := Below_trans' hb0 hb0.size hb1
    have hb2 : Below w1.heap.size w1 (w1.alloc (.cells #[.int .u32 1] 103)) := (Below.refl _ _).alloc (Nat.le_refl _) _
    have hN := wrds_has1 (Has.new w1 103 #[.int .u32 1]) (by decide) (by decide)
    have hs := wsame_any A5 (some ⟨w1.heap.size, 0, none⟩) n5 c5 1 1 [1] [1] (w1.alloc (.cells #[.int .u32 1] 103)) (h5.below hb2) hN
    rw [beq_self_eq_true] at hs
    clear s0 s1 s2 cb cg
    go_wp2_with fail
    refine hs.mono ?_
    rintro e w2 ⟨rfl, hb3⟩
    go_wp2
    go_ret
    exact ⟨rfl, Below_trans' (Below_trans' hb01 hb01.size hb2) (Below_trans' hb01 hb01.size hb2).size hb3⟩
  · have f1 : ((n : Int) == 0) = false := by simpa using hn
    clear hn
    go_wp2_with fail
    try simp only [hV]
    clear hV
    refine cb.mono ?_
    rintro e w' ⟨rfl, rfl⟩
    go_wp2_with fail
    refine cg.mono ?_
    rintro e w1 ⟨A5, n5, c5, rfl, h5, hb1⟩
    have hb01 := Below_trans' hb0 hb0.size hb1
    have hb2 : Below w1.heap.size w1 (w1.alloc (.cells #[.int .u32 1] 103)) := (Below.refl _ _).alloc (Nat.le_refl _) _
    have hN := wrds_has1 (Has.new w1 103 #[.int .u32 1]) (by decide) (by decide)
    have hs := wsame_any A5 (some ⟨w1.heap.size, 0, none⟩) n5 c5 1 1 [1] [1] (w1.alloc (.cells #[.int .u32 1] 103)) (h5.below hb2) hN
    rw [beq_self_eq_true] at hs
    clear s0 s1 s2 cb cg
    go_wp2_with fail
    refine hs.mono ?_
    rintro e w2 ⟨rfl, hb3⟩
    go_wp2
    go_ret
    exact ⟨rfl, Below_trans' (Below_trans' hb01 hb01.size hb2) (Below_trans' hb01 hb01.size hb2).size hb3⟩

set_option maxRecDepth 100000 in
theorem both4_one (A A' B B' : Option Addr) (n c n' c' m d m' d' : Nat) (a b : Int) (w : World) (h1 : RWrds w A n c (lm a)) (h2 : RWrds w A' n' c' [1]) (h3 : RWrds w B m d (lm b)) (h4 : RWrds w B' m' d' [1]) (ha : 0 ≤ a) (hab : a ≤ 4294967295) (hb : 0 ≤ b) (hbb : b ≤ 4294967295) :
    Calls Tryz.prog 41 #[.agg #[.bool false, .slice A n c, .slice A' n' c'], .agg #[.bool false, .slice B m d, .slice B' m' d']] w fun e w' => e = .returned (.bool true) ∧ Below w.heap.size w w' := by
  have hb0 : Below w.heap.size w (w.alloc (.cells #[.bool false, .slice A n c, .slice A' n' c'] 45)) := (Below.refl _ _).alloc (Nat.le_refl _) _
  have hX0 := Has.new w 45 #[.bool false, .slice A n c, .slice A' n' c']
  generalize hV : World.alloc w _ = V at hb0 hX0
  have hbv : Below V.heap.size V (V.alloc (.cells #[.bool false, .slice B m d, .slice B' m' d'] 45)) := (Below.refl _ _).alloc (Nat.le_refl _) _
  have hY0 := Has.new V 45 #[.bool false, .slice B m d, .slice B' m' d']
  have hX1 := hX0.below hbv hX0.lt
  generalize hW : World.alloc V _ = W0 at hbv hY0 hX1
  have hb1 := Below_trans' hb0 hb0.size hbv
  have s0 := hX1.cell 0
  have s1 := hX1.cell 1
  have s2 := hX1.cell 2
  have t0 := hY0.cell 0
  have t1 := hY0.cell 1
  have t2 := hY0.cell 2
  go_enter Tryz.func41, Tryz.ntmps41
  go_wp2_with fail
  try simp only [hV, hW]
  clear hV hW
  refine (check4_one A A' n c n' c' a W0 (h1.below hb1) (h2.below hb1) ha hab).mono ?_
  rintro e w1 ⟨rfl, hb2⟩
  have hb02 := Below_trans' hb1 hb1.size hb2
  have hY2 := hY0.below hb2 hY0.lt
  clear s0 s1 s2 t0 t1 t2
  have t0 := hY2.cell 0
  have t1 := hY2.cell 1
  have t2 := hY2.cell 2
  go_wp2_with fail
  refine (check4_one B B' m d m' d' b w1 (h3.below hb02) (h4.below hb02) hb hbb).mono ?_
  rintro e w2 ⟨rfl, hb3⟩
  go_wp2
  go_ret
  exact ⟨rfl, Below_trans' hb02 hb02.size hb3⟩
/-- A sum of ratios. -/
def AddPost (w : World) (a : Int) (e : Ending) (w' : World) : Prop := ∃ A n c A' n' c', e = .returned (.tuple #[.agg #[.bool false, .slice A n c, .slice A' n' c'], .int .i64 0]) ∧ RWrds w' A n c (lm a) ∧ RWrds w' A' n' c' [1] ∧ Below w.heap.size w w'
set_option maxRecDepth 100000 in
set_option maxHeartbeats 1000000 in
theorem radd4 (A A' B B' : Option Addr) (n c n' c' m d m' d' : Nat) (a b : Int) (w : World) (h1 : RWrds w A n c (lm a)) (h2 : RWrds w A' n' c' [1]) (h3 : RWrds w B m d (lm b)) (h4 : RWrds w B' m' d' [1]) (ha : 0 ≤ a) (hb : 0 ≤ b) (hab : a + b ≤ 4294967295) :
    Calls Tryz.prog 19 #[.agg #[.bool false, .slice A n c, .slice A' n' c'], .agg #[.bool false, .slice B m d, .slice B' m' d']] w (AddPost w (a + b)) := by
  have hb0 : Below w.heap.size w (w.alloc (.cells #[.bool false, .slice A n c, .slice A' n' c'] 45)) := (Below.refl _ _).alloc (Nat.le_refl _) _
  have hX0 := Has.new w 45 #[.bool false, .slice A n c, .slice A' n' c']
  generalize hV : World.alloc w _ = V at hb0 hX0
  have hbv : Below V.heap.size V (V.alloc (.cells #[.bool false, .slice B m d, .slice B' m' d'] 45)) := (Below.refl _ _).alloc (Nat.le_refl _) _
  have hY0 := Has.new V 45 #[.bool false, .slice B m d, .slice B' m' d']
  have hX1 := hX0.below hbv hX0.lt
  generalize hW : World.alloc V _ = W0 at hbv hY0 hX1
  have hb1 := Below_trans' hb0 hb0.size hbv
  have s0 := hX1.cell 0
  have s1 := hX1.cell 1
  have s2 := hX1.cell 2
  have t0 := hY0.cell 0
  have t1 := hY0.cell 1
  have t2 := hY0.cell 2
  have hbr : Below W0.heap.size W0 (W0.alloc (.cells #[.bool false, .slice none 0 0, .slice none 0 0] 45)) := (Below.refl _ _).alloc (Nat.le_refl _) _
  have hR0 := Has.new W0 45 #[.bool false, .slice none 0 0, .slice none 0 0]
  generalize hU : World.alloc W0 _ = z0 at hbr hR0
  have hbz := Below_trans' hb1 hb1.size hbr
  have hX := hX1.below hbr hX1.lt
  have hY := hY0.below hbr hY0.lt
  have hgr : w.heap.size < W0.heap.size := hX1.lt
  clear s0 s1 s2 t0 t1 t2
  have s0 := hX.cell 0
  have s1 := hX.cell 1
  have s2 := hX.cell 2
  have t0 := hY.cell 0
  have t1 := hY.cell 1
  have t2 := hY.cell 2
  go_enter Tryz.func19, Tryz.ntmps19
  go_wp2_with fail
  try simp only [hV, hW, hU]
  clear hV hW hU
  refine (both4_one A A' B B' n c n' c' m d m' d' a b z0 (h1.below hbz) (h2.below hbz) (h3.below hbz) (h4.below hbz) ha (by omega) hb (by omega)).mono ?_
  rintro e z1 ⟨rfl, hb2⟩
  have hbz1 := Below_trans' hbz (hbz).size hb2
  have hX1' := hX.below hb2 hX.lt
  have hY1' := hY.below hb2 hY.lt
  clear s0 s1 s2 t0 t1 t2
  have s0 := hX1'.cell 0
  have s1 := hX1'.cell 1
  have s2 := hX1'.cell 2
  have t0 := hY1'.cell 0
  have t1 := hY1'.cell 1
  have t2 := hY1'.cell 2
  go_wp2_with fail
  refine (mul_one A B' n c m' d' a z1 (h1.below hbz1) (h4.below hbz1) ha (by omega)).mono ?_
  rintro e z2 ⟨A6, n6, c6, rfl, h6, hb3, _⟩
  have hbz2 := Below_trans' hbz1 (hbz1).size hb3
  have hX2' := hX1'.below hb3 hX1'.lt
  have hY2' := hY1'.below hb3 hY1'.lt
  clear s0 s1 s2 t0 t1 t2
  have s0 := hX2'.cell 0
  have s1 := hX2'.cell 1
  have s2 := hX2'.cell 2
  have t0 := hY2'.cell 0
  have t1 := hY2'.cell 1
  have t2 := hY2'.cell 2
  go_wp2_with fail
  refine (mul_one B A' m d n' c' b z2 (h3.below hbz2) (h2.below hbz2) hb (by omega)).mono ?_
  rintro e z3 ⟨A7, n7, c7, rfl, h7, hb4, _⟩
  have hbz3 := Below_trans' hbz2 (hbz2).size hb4
  have hX3' := hX2'.below hb4 hX2'.lt
  have hY3' := hY2'.below hb4 hY2'.lt
  clear s0 s1 s2 t0 t1 t2
  have s0 := hX3'.cell 0
  have s1 := hX3'.cell 1
  have s2 := hX3'.cell 2
  have t0 := hY3'.cell 0
  have t1 := hY3'.cell 1
  have t2 := hY3'.cell 2
  go_wp2_with fail
  refine (mul_one A' B' n' c' m' d' 1 z3 (h2.below hbz3) (h4.below hbz3) (by omega) (by omega)).mono ?_
  rintro e z4 ⟨A8, n8, c8, rfl, h8, hb5, _⟩
  have hbz4 := Below_trans' hbz3 (hbz3).size hb5
  have hX4' := hX3'.below hb5 hX3'.lt
  have hY4' := hY3'.below hb5 hY3'.lt
  clear s0 s1 s2 t0 t1 t2
  have s0 := hX4'.cell 0
  have s1 := hX4'.cell 1
  have s2 := hX4'.cell 2
  have t0 := hY4'.cell 0
  have t1 := hY4'.cell 1
  have t2 := hY4'.cell 2
  go_wp2_with fail
  refine (add3_small A6 A7 n6 c6 n7 c7 a b z4 ((h6.below hb4).below hb5) (h7.below hb5) ha hb hab).mono ?_
  rintro e z5 ⟨A9, n9, c9, rfl, h9, hb6⟩
  have hbz5 := Below_trans' hbz4 (hbz4).size hb6
  have hX5' := hX4'.below hb6 hX4'.lt
  have hY5' := hY4'.below hb6 hY4'.lt
  clear s0 s1 s2 t0 t1 t2
  have s0 := hX5'.cell 0
  have s1 := hX5'.cell 1
  have s2 := hX5'.cell 2
  have t0 := hY5'.cell 0
  have t1 := hY5'.cell 1
  have t2 := hY5'.cell 2
  go_wp2_with fail
  refine (lowest_one A9 A8 n9 c9 n8 c8 (a + b) z5 h9 (h8.below hb6) (by omega) hab).mono ?_
  rintro e z6 ⟨Ax, nx, cx, Ay, ny, cy, rfl, hx, hy, hb7, hfx⟩
  have hbz6 := Below_trans' hbz5 hbz5.size hb7
  have hR6 := hR0.below (Below_trans' hb2 hb2.size (Below_trans' hb3 hb3.size (Below_trans' hb4 hb4.size (Below_trans' hb5 hb5.size (Below_trans' hb6 hb6.size hb7))))) hR0.lt
  have Hfx := hide hfx
  have hg5 : W0.heap.size < z5.heap.size := (hR0.below (Below_trans' hb2 hb2.size (Below_trans' hb3 hb3.size (Below_trans' hb4 hb4.size (Below_trans' hb5 hb5.size hb6)))) hR0.lt).lt
  clear s0 s1 s2 t0 t1 t2 hfx
  have r0 := hR6.cell 0
  have r1 := hR6.cell 1
  have r2 := hR6.cell 2
  have f0 := hR6.free 0
  have f1 := hR6.free 1
  have f2 := hR6.free 2
  go_wp2
  have k := frame3 z6 W0.heap.size (.bool false) (.slice Ax nx cx) (.slice Ay ny cy)
  exact retRat2 rfl rfl rfl (put3 hR6) rfl rfl ⟨Ax, nx, cx, Ay, ny, cy, rfl, hx.frame k (fun b hb e => by have := Hfx.out b (.inl hb); omega), hy.frame k (fun b hb e => by have := Hfx.out b (.inr hb); omega), below3 hbz6 (by omega) _ _ _⟩

theorem ret_ii3 {a b z : Int} (h : a = b) : Ending.returned (.tuple #[.int .i64 a, .int .i64 z]) = .returned (.tuple #[.int .i64 b, .int .i64 z]) := by rw [h]
def sideS (a : Int) : Int := if a = 0 then 0 else 1
/-- The order of two numbers, as a number. -/
def cmpS (a b : Int) : Int := if a < b then -1 else if b < a then 1 else 0
end Go.Proofs.YtiebfalodelclaaGreat
