/-
  The reference's Gcd and Div at two numbers of one word; ratios of two such numbers.
  The reference's Div at two numbers of one word; ratios of two such numbers.
  The layer nat at numbers of one word: order, division, greatest common divisor; ratios of two such numbers.
  Gcd and Div of the layer nat at numbers of one word; Of of ratio and of its reference.
-/
import Derived.Test.YtolbceckbnifmaaGreatW3b
import Derived.Test.YtolbceckbnifmaaGreatSpecC
namespace Go.Proofs.YtolbceckbnifmaaGreat
open Go.RowKit Go.Proofs
attribute [local go_sem] cell?_more cell?_alloc_some cell?_setCell_far frozen?_alloc_some frozen?_more
theorem gcd_half2 {v u : Nat} (hv : v % 2 = 0) (hu : u % 2 = 0) : Nat.gcd v u = Nat.gcd (v / 2) (u / 2) * 2 := by
  rw [← Nat.gcd_mul_right]
  congr 1 <;> omega
theorem gcd_half {v u : Nat} (hv : v % 2 = 0) (hu : u % 2 = 1) : Nat.gcd v u = Nat.gcd (v / 2) u := by
  have e : v = 2 * (v / 2) := by omega
  have hc : Nat.Coprime 2 u := by
    unfold Nat.Coprime
    rw [Nat.gcd_rec, hu]
    rfl
  conv => lhs; rw [e]
  exact Nat.Coprime.gcd_mul_left_cancel _ hc
theorem gcd_half' {v u : Nat} (hv : v % 2 = 1) (hu : u % 2 = 0) : Nat.gcd v u = Nat.gcd v (u / 2) := by
  rw [Nat.gcd_comm, gcd_half hu hv, Nat.gcd_comm]
theorem gcd_take {v u : Nat} (h : u ≤ v) : Nat.gcd v u = Nat.gcd (v - u) u := (Nat.gcd_sub_self_left h).symm
theorem gcd_take' {v u : Nat} (h : v ≤ u) : Nat.gcd v u = Nat.gcd v (u - v) := by
  rw [Nat.gcd_comm, gcd_take h, Nat.gcd_comm]
theorem lm_nat_pos {a : Nat} (h : 0 < a) : lm (a : Int) = [(a : Int)] := lm_pos (by omega)
theorem words_one {w : World} {A : Option Addr} {n c : Nat} {v : Nat} (h : RWrds w A n c (lm v)) (h0 : 0 < v) : n = 1 ∧ ∃ b off, A = some ⟨b, off, none⟩ ∧ w.cell? ⟨b, off, none⟩ = some (.int .u32 v) := by
  have hl := h.len
  rw [lm_nat_pos h0] at h hl
  obtain rfl : n = 1 := by simpa using hl.symm
  obtain ⟨b, off, u, rfl, hc, _, hat, _⟩ := h.step (show 0 < 1 by omega)
  obtain rfl : (v : Int) = u := by simpa using hat.out
  exact ⟨rfl, b, off, rfl, by simpa using hc⟩
theorem words_none {w : World} {A : Option Addr} {n c : Nat} (h : RWrds w A n c (lm (0 : Nat))) : n = 0 := by
  have hl := h.len
  rw [show lm ((0 : Nat) : Int) = [] from rfl] at hl
  simpa using hl.symm
theorem shift_le {G : Nat} {T : Nat} (h : 0 < G * 2 ^ T) : T < G * 2 ^ T := by
  have h1 : T < 2 ^ T := Nat.lt_two_pow_self
  have h2 : 0 < G := Nat.pos_of_ne_zero fun e => by subst e; simp at h
  have h3 : 2 ^ T ≤ G * 2 ^ T := Nat.le_mul_of_pos_left _ h2
  omega

theorem dbl (s I : Nat) : s * 2 ^ I + s * 2 ^ I = s * 2 ^ (I + 1) := by rw [Nat.pow_succ, ← Nat.mul_assoc]; omega

set_option maxRecDepth 100000 in
set_option maxHeartbeats 4000000 in
theorem gcd_any (A A' : Option Addr) (n c n' c' : Nat) (a b : Nat) (w : World) (h : RWrds w A n c (lm a)) (h' : RWrds w A' n' c' (lm b)) (ha : a ≤ 4294967295) (hb : b ≤ 4294967295) (hb0 : 0 < b) :
    Calls Tryz.prog 139 #[.slice A n c, .slice A' n' c'] w fun e w' => ∃ A5 n5 c5, e = .returned (.tuple #[.slice A5 n5 c5, .int .i64 0]) ∧ RWrds w' A5 n5 c5 (lm (Nat.gcd a b : Nat)) ∧ Below w.heap.size w w' := by
  have cb := wboth_ok A n c (lm a) A' n' c' (lm b) w h h' (lm_ok a) (lm_ok b)
  have ct := trim_small A n c a (lm a) w h (by unfold lm; split <;> simp_all)
  have ct2 := fun W hW => trim_small A' n' c' b (lm b) W (h'.below hW) (by unfold lm; split <;> simp_all)
  have Hgb : Hid (Nat.gcd a b ≤ 4294967295) := Nat.le_trans (Nat.gcd_le_right a hb0) hb
  have Hgp : Hid (0 < Nat.gcd a b) := Nat.gcd_pos_of_pos_right a hb0
  go_enter Tryz.func139, Tryz.ntmps139
  go_wp2_with fail
  refine cb.mono ?_
  rintro e w' ⟨rfl, rfl⟩
  go_wp2_with fail
  refine ct.mono ?_
  rintro e w1 ⟨A1, n1, c1, rfl, h1, hb1⟩
  go_wp2_with fail
  refine (ct2 w1 hb1).mono ?_
  rintro e w2 ⟨A2, n2, c2, rfl, h2, hb2⟩
  have hb02 := Below_trans' hb1 hb1.size hb2
  clear ct ct2 cb
  go_wp2
  go_loopw [7, 8, 9] (fun x y t wr => ∃ (A3 : Option Addr) (n3 c3 v : Nat) (A2 : Option Addr) (n2 c2 u T : Nat), x = .slice A3 n3 c3 ∧ y = .slice A2 n2 c2 ∧ t = .int .i64 T ∧ RWrds wr A3 n3 c3 (lm v) ∧ RWrds wr A2 n2 c2 (lm u) ∧ Hid (Nat.gcd v u * 2 ^ T = Nat.gcd a b) ∧ v ≤ 4294967295 ∧ u ≤ 4294967295 ∧ Below w.heap.size w wr) (fun x y _ wr => wval wr x + wval wr y)
  case atStart => exact ⟨A1, n1, c1, a, A2, n2, c2, b, 0, rfl, rfl, by go_num, h1.below hb2, h2, by unfold Hid; simp, ha, hb, hb02⟩
  case round =>
    obtain ⟨A3, n3, c3, v, A2, n2, c2, u, T, rfl, rfl, rfl, h3, h2w, hG, hv1, hu1, hbw⟩ := hrel
    have hm3 := wval_of h3
    have hm2 := wval_of h2w
    have hT : T ≤ 4294967295 := by
      have h1 := hG.out
      have h2 := shift_le (G := Nat.gcd v u) (T := T) (by rw [h1]; exact Hgp.out)
      have := Hgb.out
      omega
    have hvu : Hid (v + u ≤ 4294967295 ∨ (0 < v ∧ 0 < u)) := by unfold Hid; omega
    by_cases hz : v = 0
    · subst hz
      have hn3 := words_none h3
      have f1 : ¬ (0 : Int) < (n3 : Int) := by omega
      have hG2 : Hid (u * 2 ^ T = Nat.gcd a b) := by unfold Hid; rw [← hG.out]; simp
      have cp := plus_small A3 A2 n3 c3 n2 c2 (0 : Nat) u wr h3 h2w (by omega) (by omega) (by omega)
      rw [show ((0 : Nat) : Int) + (u : Int) = ((u : Nat) : Int) by omega] at cp
      clear hn3 hm3 hm2 hG hvu
      obtain ⟨s, rfl⟩ : ∃ s, s = u := ⟨_, rfl⟩
      go_wp2_with fail
      refine cp.mono ?_
      rintro e w6 ⟨A6, n6, c6, rfl, h6, hb6⟩
      have hb06 := Below_trans' hbw hbw.size hb6
      clear cp
      go_wp2
      go_loopw [12, 13] (fun d i wz => ∃ (A7 : Option Addr) (n7 c7 I : Nat), d = .slice A7 n7 c7 ∧ i = .int .i64 I ∧ I ≤ T ∧ RWrds wz A7 n7 c7 (lm (s * 2 ^ I : Nat)) ∧ Below w6.heap.size w6 wz) (fun _ i _ => T - (intOf i).toNat)
      case atStart => exact ⟨A6, n6, c6, 0, rfl, by go_num, Nat.zero_le _, by simpa using h6, Below.refl _ _⟩
      case round =>
        obtain ⟨A7, n7, c7, I, rfl, rfl, hI, h7, hb7⟩ := hrel
        by_cases hlt : I < T
        · have hX := dbl s I
          have hX2 : s * 2 ^ (I + 1) ≤ s * 2 ^ T := Nat.mul_le_mul_left _ (Nat.pow_le_pow_right (by omega) (by omega))
          have hgb := Hgb.out
          rw [← hG2.out] at hgb
          have cq := plus_small A7 A7 n7 c7 n7 c7 (s * 2 ^ I : Nat) (s * 2 ^ I : Nat) wr h7 h7 (by omega) (by omega) (by omega)
          have hX3 : Hid (((s * 2 ^ I : Nat) : Int) + ((s * 2 ^ I : Nat) : Int) = ((s * 2 ^ (I + 1) : Nat) : Int)) := by unfold Hid; omega
          rw [hX3.out] at cq
          clear hX hX2 hgb
          go_wp2_with fail
          refine cq.mono ?_
          rintro e w8 ⟨A8, n8, c8, rfl, h8, hb8⟩
          clear cq
          go_wp2
          go_roundw
          case rel => exact ⟨A8, n8, c8, I + 1, rfl, by go_num, by omega, h8, Below_trans' hb7 hb7.size hb8⟩
          case measure => simp [intOf] <;> omega
        · obtain rfl : T = I := by omega
          go_wp2
          go_ret2
          exact ⟨A7, n7, c7, rfl, by rw [hG2.out] at h7; exact h7, Below_trans' hb06 hb06.size hb7⟩
    · have hv0 : 0 < v := by omega
      have hn3 := words_one h3 hv0
      obtain ⟨hn31, b3, o3, rfl, hc3⟩ := hn3
      have f1 : (0 : Int) < (n3 : Int) := by omega
      by_cases hzu : u = 0
      · subst hzu
        have hn2 := words_none h2w
        have f2 : ¬ (0 : Int) < (n2 : Int) := by omega
        have hG2 : Hid (v * 2 ^ T = Nat.gcd a b) := by unfold Hid; rw [← hG.out]; simp
        have cp := plus_small _ A2 n3 c3 n2 c2 v (0 : Nat) wr h3 h2w (by omega) (by omega) (by omega)
        rw [show (v : Int) + ((0 : Nat) : Int) = ((v : Nat) : Int) by omega] at cp
        clear hn2 hm3 hm2 hn31 hG hvu
        obtain ⟨s, rfl⟩ : ∃ s, s = v := ⟨_, rfl⟩
        go_wp2_with fail
        refine cp.mono ?_
        rintro e w6 ⟨A6, n6, c6, rfl, h6, hb6⟩
        have hb06 := Below_trans' hbw hbw.size hb6
        clear cp
        go_wp2
        go_loopw [12, 13] (fun d i wz => ∃ (A7 : Option Addr) (n7 c7 I : Nat), d = .slice A7 n7 c7 ∧ i = .int .i64 I ∧ I ≤ T ∧ RWrds wz A7 n7 c7 (lm (s * 2 ^ I : Nat)) ∧ Below w6.heap.size w6 wz) (fun _ i _ => T - (intOf i).toNat)
        case atStart => exact ⟨A6, n6, c6, 0, rfl, by go_num, Nat.zero_le _, by simpa using h6, Below.refl _ _⟩
        case round =>
          obtain ⟨A7, n7, c7, I, rfl, rfl, hI, h7, hb7⟩ := hrel
          by_cases hlt : I < T
          · have hX := dbl s I
            have hX2 : s * 2 ^ (I + 1) ≤ s * 2 ^ T := Nat.mul_le_mul_left _ (Nat.pow_le_pow_right (by omega) (by omega))
            have hgb := Hgb.out
            rw [← hG2.out] at hgb
            have cq := plus_small A7 A7 n7 c7 n7 c7 (s * 2 ^ I : Nat) (s * 2 ^ I : Nat) wr h7 h7 (by omega) (by omega) (by omega)
            have hX3 : Hid (((s * 2 ^ I : Nat) : Int) + ((s * 2 ^ I : Nat) : Int) = ((s * 2 ^ (I + 1) : Nat) : Int)) := by unfold Hid; omega
            rw [hX3.out] at cq
            clear hX hX2 hgb
            go_wp2_with fail
            refine cq.mono ?_
            rintro e w8 ⟨A8, n8, c8, rfl, h8, hb8⟩
            clear cq
            go_wp2
            go_roundw
            case rel => exact ⟨A8, n8, c8, I + 1, rfl, by go_num, by omega, h8, Below_trans' hb7 hb7.size hb8⟩
            case measure => simp [intOf] <;> omega
          · obtain rfl : T = I := by omega
            go_wp2
            go_ret2
            exact ⟨A7, n7, c7, rfl, by rw [hG2.out] at h7; exact h7, Below_trans' hb06 hb06.size hb7⟩
      · have hu0 : 0 < u := by omega
        obtain ⟨hn21, b2, o2, rfl, hc2⟩ := words_one h2w hu0
        have f2 : (0 : Int) < (n2 : Int) := by omega
        clear hvu hz hzu hn31 hn21
        obtain ⟨V, hV⟩ : ∃ V : Int, V = (v : Int) := ⟨_, rfl⟩
        obtain ⟨U, hU⟩ : ∃ U : Int, U = (u : Int) := ⟨_, rfl⟩
        rw [← hV] at h3 hc3
        rw [← hU] at h2w hc2
        have hV0 : 0 ≤ V := by omega
        have hV1 : V ≤ 4294967295 := by omega
        have hU0 : 0 ≤ U := by omega
        have hU1 : U ≤ 4294967295 := by omega
        have HV := hide hV
        have HU := hide hU
        have eV := Int.tmod_eq_emod_of_nonneg (a := V) (b := 2) hV0
        have eU := Int.tmod_eq_emod_of_nonneg (a := U) (b := 2) hU0
        have Hm3 := hide hm3
        have Hm2 := hide hm2
        clear hm3 hm2
        by_cases hev : v % 2 = 0
        · have e1 : V % 2 = 0 := by omega
          by_cases heu : u % 2 = 0
          · have e2 : U % 2 = 0 := by omega
            have hnx : Hid (Nat.gcd (v / 2) (u / 2) * 2 ^ (T + 1) = Nat.gcd a b) := by unfold Hid; rw [← hG.out, gcd_half2 hev heu, Nat.pow_succ, Nat.mul_assoc, Nat.mul_comm 2]
            clear eV eU hev heu hV hU
            go_wp2
            refine wp_region_more (by kernel_rfl) (by kernel_rfl) ?_
            repeat (go_big_quiet_step (fail))
            refine wpQuiet_nil ?_
            rintro w5 ⟨qw5, hww5⟩
            have hbw5 := below_of_eq hww5
            clear hww5 qw5
            go_wp2_with fail
            refine (half_small (some ⟨b3, o3, none⟩) n3 c3 V w5 (h3.below hbw5) hV0 hV1).mono ?_
            rintro e w6 ⟨A6, n6, c6, rfl, h6, hb6⟩
            have hb56 := Below_trans' hbw5 hbw5.size hb6
            go_wp2_with fail
            refine (half_small (some ⟨b2, o2, none⟩) n2 c2 U w6 (h2w.below hb56) hU0 hU1).mono ?_
            rintro e w7 ⟨A7, n7, c7, rfl, h7, hb7⟩
            have hb57 := Below_trans' hb56 hb56.size hb7
            have h6' := h6.below hb7
            rw [show V / 2 = ((v / 2 : Nat) : Int) by have := HV.out; omega] at h6'
            rw [show U / 2 = ((u / 2 : Nat) : Int) by have := HU.out; omega] at h7
            have hm6 := hide (wval_of h6')
            have hm7 := hide (wval_of h7)
            go_wp2
            go_roundw
            case rel => exact ⟨A6, n6, c6, v / 2, A7, n7, c7, u / 2, T + 1, rfl, rfl, by go_num, h6', h7, hnx, by omega, by omega, Below_trans' hbw hbw.size hb57⟩
            case measure => rw [hm6.out, hm7.out, Hm3.out, Hm2.out]; omega
          · have e2 : (U % 2 == 0) = false := by simp; omega
            have hnx : Hid (Nat.gcd (v / 2) u * 2 ^ T = Nat.gcd a b) := by unfold Hid; rw [← hG.out, gcd_half hev (by omega)]
            clear eV eU hev heu hV hU
            go_wp2
            refine wp_region_more (by kernel_rfl) (by kernel_rfl) ?_
            repeat (go_big_quiet_step (fail))
            refine wpQuiet_nil ?_
            rintro w5 ⟨qw5, hww5⟩
            have hbw5 := below_of_eq hww5
            clear hww5 qw5
            go_wp2_with fail
            refine (half_small (some ⟨b3, o3, none⟩) n3 c3 V w5 (h3.below hbw5) hV0 hV1).mono ?_
            rintro e w6 ⟨A6, n6, c6, rfl, h6, hb6⟩
            have hb56 := Below_trans' hbw5 hbw5.size hb6
            rw [show V / 2 = ((v / 2 : Nat) : Int) by have := HV.out; omega] at h6
            have hm6 := hide (wval_of h6)
            have h2' := h2w.below hb56
            rw [HU.out] at h2'
            have hm7 := hide (wval_of h2')
            go_wp2
            go_roundw
            case rel => exact ⟨A6, n6, c6, v / 2, _, n2, c2, u, T, rfl, rfl, rfl, h6, h2', hnx, by omega, by omega, Below_trans' hbw hbw.size hb56⟩
            case measure => rw [hm6.out, hm7.out, Hm3.out, Hm2.out]; omega
        · have e1 : (V % 2 == 0) = false := by simp; omega
          by_cases heu : u % 2 = 0
          · have e2 : U % 2 = 0 := by omega
            have hnx : Hid (Nat.gcd v (u / 2) * 2 ^ T = Nat.gcd a b) := by unfold Hid; rw [← hG.out, gcd_half' (by omega) heu]
            clear eV eU hev heu hV hU
            go_wp2
            refine wp_region_more (by kernel_rfl) (by kernel_rfl) ?_
            repeat (go_big_quiet_step (fail))
            refine wpQuiet_nil ?_
            rintro w5 ⟨qw5, hww5⟩
            have hbw5 := below_of_eq hww5
            clear hww5 qw5
            go_wp2_with fail
            refine (half_small (some ⟨b2, o2, none⟩) n2 c2 U w5 (h2w.below hbw5) hU0 hU1).mono ?_
            rintro e w6 ⟨A6, n6, c6, rfl, h6, hb6⟩
            have hb56 := Below_trans' hbw5 hbw5.size hb6
            rw [show U / 2 = ((u / 2 : Nat) : Int) by have := HU.out; omega] at h6
            have hm6 := hide (wval_of h6)
            have h3' := h3.below hb56
            rw [HV.out] at h3'
            have hm7 := hide (wval_of h3')
            go_wp2
            go_roundw
            case rel => exact ⟨_, n3, c3, v, A6, n6, c6, u / 2, T, rfl, rfl, rfl, h3', h6, hnx, by omega, by omega, Below_trans' hbw hbw.size hb56⟩
            case measure => rw [hm6.out, hm7.out, Hm3.out, Hm2.out]; omega
          · have e2 : (U % 2 == 0) = false := by simp; omega
            clear eV eU hev heu
            by_cases hvu : v < u
            · have hnx : Hid (Nat.gcd v (u - v) * 2 ^ T = Nat.gcd a b) := by unfold Hid; rw [← hG.out, gcd_take' (v := v) (u := u) (by omega)]
              have hlt : Hid (decide (V < U) = true) := decide_eq_true (by omega)
              have hle : Hid (V ≤ U) := by unfold Hid; omega
              clear hV hU
              go_wp2
              refine wp_region_more (by kernel_rfl) (by kernel_rfl) ?_
              repeat (go_big_quiet_step (fail))
              refine wpQuiet_nil ?_
              rintro w5 ⟨qw5, hww5⟩
              have hbw5 := below_of_eq hww5
              clear hww5 qw5
              have cl := less_small (some ⟨b3, o3, none⟩) (some ⟨b2, o2, none⟩) n3 c3 n2 c2 V U w5 (h3.below hbw5) (h2w.below hbw5) hV0 hU0
              rw [hlt.out] at cl
              go_wp2_with fail
              refine cl.mono ?_
              rintro e w6 ⟨rfl, hb6⟩
              have hb56 := Below_trans' hbw5 hbw5.size hb6
              go_wp2_with fail
              refine (minus_small (some ⟨b2, o2, none⟩) (some ⟨b3, o3, none⟩) n2 c2 n3 c3 U V w6 (h2w.below hb56) (h3.below hb56) hle.out hV0 hU1).mono ?_
              rintro e w7 ⟨A6, n6, c6, rfl, h6, hb7⟩
              have hb57 := Below_trans' hb56 hb56.size hb7
              rw [show U - V = ((u - v : Nat) : Int) by have := HV.out; have := HU.out; omega] at h6
              have hm6 := hide (wval_of h6)
              have h3' := h3.below hb57
              rw [HV.out] at h3'
              have hm7 := hide (wval_of h3')
              go_wp2
              go_roundw
              case rel => exact ⟨_, n3, c3, v, A6, n6, c6, u - v, T, rfl, rfl, rfl, h3', h6, hnx, by omega, by omega, Below_trans' hbw hbw.size hb57⟩
              case measure => rw [hm6.out, hm7.out, Hm3.out, Hm2.out]; omega
            · have hnx : Hid (Nat.gcd (v - u) u * 2 ^ T = Nat.gcd a b) := by unfold Hid; rw [← hG.out, gcd_take (v := v) (u := u) (by omega)]
              have hlt : Hid (decide (V < U) = false) := decide_eq_false (by omega)
              have hle : Hid (U ≤ V) := by unfold Hid; omega
              clear hV hU
              go_wp2
              refine wp_region_more (by kernel_rfl) (by kernel_rfl) ?_
              repeat (go_big_quiet_step (fail))
              refine wpQuiet_nil ?_
              rintro w5 ⟨qw5, hww5⟩
              have hbw5 := below_of_eq hww5
              clear hww5 qw5
              have cl := less_small (some ⟨b3, o3, none⟩) (some ⟨b2, o2, none⟩) n3 c3 n2 c2 V U w5 (h3.below hbw5) (h2w.below hbw5) hV0 hU0
              rw [hlt.out] at cl
              go_wp2_with fail
              refine cl.mono ?_
              rintro e w6 ⟨rfl, hb6⟩
              have hb56 := Below_trans' hbw5 hbw5.size hb6
              go_wp2_with fail
              refine (minus_small (some ⟨b3, o3, none⟩) (some ⟨b2, o2, none⟩) n3 c3 n2 c2 V U w6 (h3.below hb56) (h2w.below hb56) hle.out hU0 hV1).mono ?_
              rintro e w7 ⟨A6, n6, c6, rfl, h6, hb7⟩
              have hb57 := Below_trans' hb56 hb56.size hb7
              rw [show V - U = ((v - u : Nat) : Int) by have := HV.out; have := HU.out; omega] at h6
              have hm6 := hide (wval_of h6)
              have h2' := h2w.below hb57
              rw [HU.out] at h2'
              have hm7 := hide (wval_of h2')
              go_wp2
              go_roundw
              case rel => exact ⟨A6, n6, c6, v - u, _, n2, c2, u, T, rfl, rfl, rfl, h6, h2', hnx, by omega, by omega, Below_trans' hbw hbw.size hb57⟩
              case measure => rw [hm6.out, hm7.out, Hm3.out, Hm2.out]; omega
end Go.Proofs.YtolbceckbnifmaaGreat

namespace Go.Proofs.YtolbceckbnifmaaGreat
open Go.RowKit Go.Proofs
attribute [local go_sem] cell?_more cell?_alloc_some cell?_setCell_far frozen?_alloc_some frozen?_more
theorem half_pow (a j : Nat) : a / 2 ^ j = 2 * (a / 2 ^ (j + 1)) + a / 2 ^ j % 2 := by
  have e : a / 2 ^ (j + 1) = a / 2 ^ j / 2 := by rw [Nat.pow_succ, Nat.div_div_eq_div_mul]
  rw [e]; omega
/-- One more digit: too small still. -/
theorem dig_no {P b bit : Nat} (h : 2 * (P % b) + bit < b) : (2 * P + bit) / b = 2 * (P / b) ∧ (2 * P + bit) % b = 2 * (P % b) + bit := by
  have h0 := Nat.div_add_mod P b
  refine (Nat.div_mod_unique (by omega)).2 ⟨?_, h⟩
  rw [Nat.mul_left_comm]; omega
/-- One more digit: b goes off. -/
theorem dig_yes {P b bit : Nat} (h0 : 0 < b) (h1 : bit ≤ 1) (h : b ≤ 2 * (P % b) + bit) : (2 * P + bit) / b = 2 * (P / b) + 1 ∧ (2 * P + bit) % b = 2 * (P % b) + bit - b := by
  have h2 := Nat.div_add_mod P b
  have h3 := Nat.mod_lt P h0
  refine (Nat.div_mod_unique h0).2 ⟨?_, by omega⟩
  rw [Nat.mul_add, Nat.mul_left_comm]; omega
def quoS (a b k : Nat) : Nat := a / 2 ^ k / b * 2 ^ k
def remS (a b k : Nat) : Nat := a / 2 ^ k % b
theorem quo_no {a b j bit : Nat} (hb : a / 2 ^ j % 2 = bit) (h : 2 * remS a b (j + 1) + bit < b) : quoS a b (j + 1) = quoS a b j ∧ remS a b j = 2 * remS a b (j + 1) + bit := by
  have h1 := half_pow a j
  rw [hb] at h1
  obtain ⟨h2, h3⟩ := dig_no (P := a / 2 ^ (j + 1)) (b := b) (bit := bit) h
  unfold quoS remS
  rw [← h1] at h2 h3
  rw [h2, h3, Nat.pow_succ, Nat.mul_comm 2, Nat.mul_assoc, Nat.mul_comm 2]
  exact ⟨rfl, rfl⟩
theorem quo_yes {a b j bit : Nat} (h0 : 0 < b) (hb : a / 2 ^ j % 2 = bit) (h : b ≤ 2 * remS a b (j + 1) + bit) : quoS a b (j + 1) + 2 ^ j = quoS a b j ∧ remS a b j = 2 * remS a b (j + 1) + bit - b := by
  have h1 := half_pow a j
  rw [hb] at h1
  obtain ⟨h2, h3⟩ := dig_yes (P := a / 2 ^ (j + 1)) (b := b) (bit := bit) h0 (by omega) h
  unfold quoS remS
  rw [← h1] at h2 h3
  rw [h2, h3, Nat.pow_succ, Nat.add_mul, Nat.one_mul, Nat.mul_comm 2, Nat.mul_assoc, Nat.mul_comm 2]
  exact ⟨rfl, rfl⟩
theorem quo_le (a b k : Nat) : quoS a b k ≤ a := by
  unfold quoS
  have h1 : a / 2 ^ k / b * 2 ^ k ≤ a / 2 ^ k * 2 ^ k := Nat.mul_le_mul_right _ (Nat.div_le_self _ _)
  exact Nat.le_trans h1 (Nat.div_mul_le_self a (2 ^ k))
theorem rem_lt (a : Nat) {b : Nat} (k : Nat) (h : 0 < b) : remS a b k < b := Nat.mod_lt _ h
theorem cast_bit (a j : Nat) : ((a : Int) / 2 ^ j) % 2 = ((a / 2 ^ j % 2 : Nat) : Int) := by simp
theorem cast_bit' (a j : Nat) : Int.tmod ((a : Int) / 2 ^ j) 2 = ((a / 2 ^ j % 2 : Nat) : Int) := by
  rw [Int.tmod_eq_emod_of_nonneg (Int.ediv_nonneg (by omega) (Int.pow_nonneg (by omega)))]
  exact cast_bit a j

theorem trim_ownF {B : Nat} {v : Value} {W : World} {a : Int} {xs : List Int} (hO : OwnW W B v xs) (hx : (xs = [] ∧ a = 0) ∨ xs = [a]) (hb : ∀ x ∈ xs, 0 ≤ x ∧ x ≤ 4294967295) : Calls Tryz.prog 155 #[v] W (WPostF W (lm a)) := by
  obtain ⟨A, c, rfl⟩ := hO.slice
  exact trim_fresh A _ c a xs W (hO.wrds hb) hx
set_option maxRecDepth 100000 in
theorem minus_fresh (A A' : Option Addr) (n c n' c' : Nat) (a b : Int) (w : World) (h : RWrds w A n c (lm a)) (h' : RWrds w A' n' c' (lm b)) (ha : b ≤ a) (hb : 0 ≤ b) (hab : a ≤ 4294967295) :
    Calls Tryz.prog 158 #[.slice A n c, .slice A' n' c'] w (WPostF w (lm (a - b))) := by
  have hl := h.len
  have hl' := h'.len
  have e1 : Int.tmod (a + 4294967296 - b) 4294967296 = a - b := by
    rw [Int.tmod_eq_emod_of_nonneg (by omega)]; omega
  have e2 : Int.tdiv (a + 4294967296 - b) 4294967296 = 1 := by
    rw [Int.tdiv_eq_ediv_of_nonneg (by omega)]; omega
  have hn : n = if a = 0 then 0 else 1 := by rw [← hl]; unfold lm; split <;> rfl
  have b0 : n ≤ 1 := by rw [hn]; split <;> omega
  have b2 : 0 < a → 0 < n := by rw [hn]; intro h; split <;> omega
  have b3 : a ≤ 0 → n = 0 := by rw [hn]; intro h; split <;> omega
  have g1 : (lm a).getD 0 0 = a := by unfold lm; split <;> simp_all
  have g2 : (lm b).getD 0 0 = b := by unfold lm; split <;> simp_all
  have B2 := hide b2
  have B3 := hide b3
  clear hn b2 b3 hl hl'
  go_enter Tryz.func158, Tryz.ntmps158
  go_wp2
  go_loopw [5, 6, 7] (fun v cy i wr => ∃ xs, OwnW wr w.heap.size v xs ∧ Below w.heap.size w wr ∧ cy = .int .u64 0 ∧ ((i = .int .i64 0 ∧ Hid (xs = [])) ∨ (i = .int .i64 1 ∧ Hid (xs = [a - b] ∧ 0 < a)))) (fun _ _ i _ => (1 - intOf i).toNat)
  case atStart => exact ⟨[], OwnW.nil_ _ _, Below.refl _ _, rfl, .inl ⟨rfl, rfl⟩⟩
  case round =>
    obtain ⟨xs, hO, hb', rfl, hc⟩ := hrel
    have hz := hb'.size
    rcases hc with ⟨rfl, hx⟩ | ⟨rfl, hx⟩
    · by_cases hs : 0 < a
      · have c1 := at_val A n c (lm a) 0 wr (h.below hb') g1
        have c2 := at_val A' n' c' (lm b) 0 wr (h'.below hb') g2
        have f1 : (0 : Int) < (n : Int) := by have := B2.out hs; omega
        go_wp2_with fail
        refine c1.mono ?_
        rintro e w' ⟨rfl, rfl⟩
        go_wp2_with fail
        refine c2.mono ?_
        rintro e w' ⟨rfl, rfl⟩
        go_wp2_with (at_builtin; refine appWrd rfl rfl rfl (hO.below ((Below.refl _ _).alloc (Nat.le_refl _) _)) rfl ((Has.new _ _ _).cell 0) (by rw [hx.out]; simp) (by simp; omega) ?_)
        intro v' w' hO' hg
        go_wp2
        go_roundw
        case rel => exact ⟨[a - b], by rw [hx.out] at hO'; exact hO', (hb'.alloc hz _).grown hg (by simp; omega) (fun k hk => (hO.lt k hk).1), rfl, .inr ⟨rfl, rfl, hs⟩⟩
        case measure => simp [intOf]
      · have hn0 := B3.out (by omega)
        have f1 : ¬ (0 : Int) < (n : Int) := by omega
        have ht := trim_ownF (a := a - b) hO (.inl ⟨hx.out, by omega⟩) (by rw [hx.out]; simp)
        go_wp2_with fail
        refine ht.mono ?_
        rintro e w' ⟨A5, n5, c5, rfl, h5, hb5, hf5⟩
        go_wp2
        go_ret
        exact ⟨A5, n5, c5, rfl, h5, Below_trans' hb' hb'.size hb5, fun b hb => Nat.le_trans hb'.size (hf5 b hb)⟩
    · obtain ⟨f3, hs⟩ := hx.out
      have f1 : ¬ (1 : Int) < (n : Int) := by omega
      have ht := trim_ownF (a := a - b) hO (.inr f3) (by rw [f3]; intro x hx; simp at hx; omega)
      clear f3
      go_wp2_with fail
      refine ht.mono ?_
      rintro e w' ⟨A5, n5, c5, rfl, h5, hb5, hf5⟩
      go_wp2
      go_ret
      exact ⟨A5, n5, c5, rfl, h5, Below_trans' hb' hb'.size hb5, fun b hb => Nat.le_trans hb'.size (hf5 b hb)⟩

set_option maxRecDepth 100000 in
set_option maxHeartbeats 4000000 in
theorem div_any (A A' : Option Addr) (n c n' c' : Nat) (a b : Nat) (w : World) (h : RWrds w A n c (lm a)) (h' : RWrds w A' n' c' (lm b)) (hab : a ≤ 4294967295) (hb0 : 0 < b) (hb1 : b ≤ 2147483648) :
    Calls Tryz.prog 140 #[.slice A n c, .slice A' n' c'] w fun e w' => ∃ A5 n5 c5 A6 n6 c6, e = .returned (.tuple #[.slice A5 n5 c5, .slice A6 n6 c6, .int .i64 0]) ∧ RWrds w' A5 n5 c5 (lm (a / b : Nat)) ∧ RWrds w' A6 n6 c6 (lm (a % b : Nat)) ∧ Below w.heap.size w w' ∧ ∀ b, fpS A5 n5 b → w.heap.size ≤ b := by
  have cb := wboth_ok A n c (lm a) A' n' c' (lm b) w h h' (lm_ok a) (lm_ok b)
  have hl := h.len
  have hl' := h'.len
  have hn1 : n ≤ 1 := by have := lm_len a; omega
  have hmk := run_make_row' (P := Tryz.prog) 61 150 (.int .u32 0) 4 Tryz.underlying61 infoU rfl .i64 .i64 n (by omega) (by omega)
  have f0 : ((n' : Int) == 0) = false := by rw [lm_nat_pos hb0] at hl'; simp at hl'; simp; omega
  by_cases h0 : a = 0
  · subst h0
    have hn0 : n = 0 := words_none h
    have f1 : (n : Int) = 0 := by omega
    have hb0' : Below w.heap.size w (w.alloc (.cells (madeCells #[.int .u32 0] n) 150)) := (Below.refl _ _).alloc (Nat.le_refl _) _
    have ht := trim_fresh (some ⟨w.heap.size, 0, none⟩) n n 0 [] (w.alloc (.cells (madeCells #[.int .u32 0] n) 150)) ⟨hn0.symm, Nat.le_refl _, by omega, by simp, fun h => absurd h (by omega)⟩ (.inl ⟨rfl, rfl⟩)
    have f2 : 32 * (n : Int) - 1 = -1 := by omega
    have hz : Hid (0 / b = 0 ∧ 0 % b = 0) := ⟨Nat.zero_div b, Nat.zero_mod b⟩
    clear hn0 hl hn1 f1 hl'
    go_enter Tryz.func140, Tryz.ntmps140
    go_wp2_with fail
    refine cb.mono ?_
    rintro e w' ⟨rfl, rfl⟩
    go_wp2
    go_loopw [9, 10] (fun r i wr => r = .slice none 0 0 ∧ i = .int .i64 (-1) ∧ wr = w.alloc (.cells (madeCells #[.int .u32 0] n) 150)) (fun _ _ _ => 0)
    case atStart => exact ⟨rfl, by go_num, rfl⟩
    case round =>
      obtain ⟨rfl, rfl, rfl⟩ := hrel
      go_wp2_with fail
      refine ht.mono ?_
      rintro e w' ⟨A5, n5, c5, rfl, h5, hb5, hf5⟩
      go_wp2
      go_ret3
      refine ⟨A5, n5, c5, _, _, _, rfl, ?_, ?_, Below_trans' hb0' hb0'.size hb5, fun b hb => Nat.le_trans hb0'.size (hf5 b hb)⟩
      · rw [hz.out.1]; exact h5
      · rw [hz.out.2]; exact RWrds.nil_ _
  · obtain ⟨hn0, b1, o1, rfl, hc⟩ := words_one h (by omega)
    have f1 : (0 : Int) < (n : Int) := by omega
    have f2 : 32 * (n : Int) - 1 = 31 := by omega
    have hN0 := hide hn0
    have hnew : Has (w.alloc (.cells (madeCells #[.int .u32 0] n) 150)) w.heap.size 150 #[.int .u32 0] := by
      have h2 := Has.new w 150 (madeCells #[.int .u32 0] n)
      have e : madeCells #[Value.int .u32 0] n = #[Value.int .u32 0] := by rw [hN0.out]; apply Array.toList_inj.1; rw [toList_madeCells_one]; rfl
      rw [e] at h2 ⊢
      exact h2
    have hp32 : a / 2 ^ 32 = 0 := Nat.div_eq_of_lt (by omega)
    have hq32 : Hid (quoS a b 32 = 0 ∧ remS a b 32 = 0) := ⟨by unfold quoS; rw [hp32]; simp, by unfold remS; rw [hp32]; simp⟩
    clear hn0 hl hn1 hl' hp32
    go_enter Tryz.func140, Tryz.ntmps140
    go_wp2_with fail
    refine cb.mono ?_
    rintro e w' ⟨rfl, rfl⟩
    go_wp2
    go_loopw [9, 10] (fun r i wr => ∃ (k : Nat) (Ar : Option Addr) (nr cr : Nat), k ≤ 32 ∧ r = .slice Ar nr cr ∧ i = .int .i64 ((k : Int) - 1) ∧ RWrds wr Ar nr cr (lm (remS a b k : Nat)) ∧ Has wr w.heap.size 150 #[.int .u32 (quoS a b k : Nat)] ∧ Below w.heap.size w wr) (fun _ i _ => (intOf i + 1).toNat)
    case atStart => exact ⟨32, none, 0, 0, by omega, rfl, by go_num, by rw [hq32.out.2]; exact RWrds.nil_ _, by rw [hq32.out.1]; exact hnew, (Below.refl _ _).alloc (Nat.le_refl _) _⟩
    case round =>
      obtain ⟨k, Ar, nr, cr, hk, rfl, rfl, hR, hQ, hbw⟩ := hrel
      by_cases hk0 : 0 < k
      · obtain ⟨j, rfl⟩ : ∃ j, k = j + 1 := ⟨k - 1, by omega⟩
        have ej : ((j + 1 : Nat) : Int) - 1 = (j : Int) := by omega
        rw [ej]
        have b0 : (0 : Int) ≤ (j : Int) := by omega
        have e3 : Int.tdiv (j : Int) 32 = 0 := Int.tdiv_eq_zero_of_lt b0 (by omega)
        have e4 : Int.tmod (j : Int) 32 = j := Int.tmod_eq_of_lt b0 (by omega)
        have hrl := hide (rem_lt a (j + 1) hb0)
        have hp := plus_small Ar Ar nr cr nr cr (remS a b (j + 1) : Nat) (remS a b (j + 1) : Nat) wr hR hR (by omega) (by omega) (by have := hrl.out; omega)
        rw [show ((remS a b (j + 1) : Nat) : Int) + ((remS a b (j + 1) : Nat) : Int) = ((2 * remS a b (j + 1) + 0 : Nat) : Int) by omega] at hp
        go_wp2_with fail
        refine hp.mono ?_
        rintro e w6 ⟨A6, n6, c6, rfl, h6, hb6⟩
        have hbw6 := Below_trans' hbw hbw.size hb6
        have hc6 := keep_cell hbw6 hc
        have d0 := cast_bit a j
        have d0' := cast_bit' a j
        by_cases hbit : a / 2 ^ j % 2 = 1
        · have d1 : (Int.tmod ((a : Int) / 2 ^ j) 2 == 1) = true := by rw [d0', hbit]; rfl
          have d2 : ((a : Int) / 2 ^ j % 2 == 1) = true := by rw [d0, hbit]; rfl
          clear d0 d0'
          have hb67 : Below w6.heap.size w6 (w6.alloc (.cells #[.int .u32 1] 150)) := (Below.refl _ _).alloc (Nat.le_refl _) _
          have hlit := wrds_has1 (Has.new w6 150 #[.int .u32 1]) (by omega) (by omega)
          have hp1 := plus_small A6 (some ⟨w6.heap.size, 0, none⟩) n6 c6 1 1 (2 * remS a b (j + 1) + 0 : Nat) 1 _ (h6.below hb67) (by rw [lm_pos (by omega)]; exact hlit) (by omega) (by omega) (by have := hrl.out; omega)
          rw [show ((2 * remS a b (j + 1) + 0 : Nat) : Int) + 1 = ((2 * remS a b (j + 1) + 1 : Nat) : Int) by omega] at hp1
          go_wp2_with fail
          refine hp1.mono ?_
          rintro e w8 ⟨A8, n8, c8, rfl, h8, hb8⟩
          have hb68 := Below_trans' hb6 hb6.size (Below_trans' hb67 hb67.size hb8)
          clear d1 d2 hc6
          -- r' = 2 * remS a b (j + 1) + 1 in w8 (h8), wr below w8: hb68; bit = 1
          have hrb : 2 * remS a b (j + 1) + 1 < 2 * b := by have := rem_lt a (j + 1) hb0; omega
          by_cases hle : b ≤ 2 * remS a b (j + 1) + 1
          · obtain ⟨hq1, hq2⟩ := quo_yes (a := a) (j := j) (bit := 1) hb0 hbit hle
            have hq3 := quo_le a b j
            have hless := less_small A8 A' n8 c8 n' c' (2 * remS a b (j + 1) + 1 : Nat) b w8 h8 (h'.below (Below_trans' hbw hbw.size hb68)) (by omega) (by omega)
            rw [decide_eq_false (by omega)] at hless
            have HQ2 := hide hq2
            have HQ3 := hide hq3
            have hw1 : Hid (((quoS a b (j + 1) : Nat) : Int) + 2 ^ j = ((quoS a b j : Nat) : Int)) := by unfold Hid; rw [← hq1]; simp
            clear hq1 hq2 hq3
            go_wp2_with fail
            refine hless.mono ?_
            rintro e w9 ⟨rfl, hb9⟩
            have hb69 := Below_trans' hb68 (hb68).size hb9
            have hmin := minus_fresh A8 A' n8 c8 n' c' (2 * remS a b (j + 1) + 1 : Nat) b w9 (h8.below hb9) (h'.below (Below_trans' hbw hbw.size hb69)) (by omega) (by omega) (by omega)
            rw [show ((2 * remS a b (j + 1) + 1 : Nat) : Int) - (b : Int) = ((remS a b j : Nat) : Int) by rw [HQ2.out]; omega] at hmin
            go_wp2_with fail
            refine hmin.mono ?_
            rintro e w10 ⟨A10, n10, c10, rfl, h10, hb10, hf10⟩
            have Hf10 := hide hf10
            clear hf10
            have hb610 := Below_trans' hb69 hb69.size hb10
            have hbw10 := Below_trans' hbw hbw.size hb610
            have hQ10 := hQ.below hb610 hQ.lt
            have q1 := hQ10.cell 0
            have q2 := hQ10.free 0
            have e5 : ((quoS a b j : Nat) : Int) % 4294967296 = ((quoS a b j : Nat) : Int) := Int.emod_eq_of_lt (by omega) (by have := HQ3.out; omega)
            have e6 := hw1.out
            generalize hq : ((quoS a b (j + 1) : Nat) : Int) = qa at q1 e6
            generalize hqb : ((quoS a b j : Nat) : Int) = qb at e5 e6
            have Hqb := hide hqb
            clear hq hqb
            go_wp2
            go_roundw
            case rel =>
              have hsz := hbw.size
              have hs9 := hb69.size
              refine ⟨j, A10, n10, c10, by omega, rfl, by go_num, h10.frame ((Frame'.refl (fun b => b = w.heap.size) w10).setCell (p := ⟨w.heap.size, 0, none⟩) (.inl rfl) _) (fun x hx e => ?_), by rw [Hqb.out]; exact hQ10.put 0 _, hbw10.setCell (p := ⟨w.heap.size, 0, none⟩) (Nat.le_refl _) _⟩
              have := Hf10.out x hx
              have := hQ.lt
              omega
            case measure => simp [intOf] <;> omega
          · obtain ⟨hq1, hq2⟩ := quo_no (a := a) (b := b) (j := j) (bit := 1) hbit (by omega)
            have hless := less_small A8 A' n8 c8 n' c' (2 * remS a b (j + 1) + 1 : Nat) b w8 h8 (h'.below (Below_trans' hbw hbw.size hb68)) (by omega) (by omega)
            rw [decide_eq_true (by omega)] at hless
            have HQ1 := hide hq1
            have HQ2 := hide hq2
            clear hq1 hq2
            go_wp2_with fail
            refine hless.mono ?_
            rintro e w9 ⟨rfl, hb9⟩
            have hb69 := Below_trans' hb68 (hb68).size hb9
            go_wp2
            go_roundw
            case rel => exact ⟨j, A8, n8, c8, by omega, rfl, by go_num, by rw [HQ2.out]; exact h8.below hb9, by rw [← HQ1.out]; exact hQ.below hb69 hQ.lt, Below_trans' hbw hbw.size hb69⟩
            case measure => simp [intOf] <;> omega
        · have hbit : a / 2 ^ j % 2 = 0 := by omega
          have d1 : (Int.tmod ((a : Int) / 2 ^ j) 2 == 1) = false := by rw [d0', hbit]; rfl
          have d2 : ((a : Int) / 2 ^ j % 2 == 1) = false := by rw [d0, hbit]; rfl
          clear d0 d0'
          obtain ⟨w8, rfl⟩ : ∃ w8, w8 = w6 := ⟨_, rfl⟩
          obtain ⟨A8, rfl⟩ : ∃ A8, A8 = A6 := ⟨_, rfl⟩
          obtain ⟨n8, rfl⟩ : ∃ n8, n8 = n6 := ⟨_, rfl⟩
          obtain ⟨c8, rfl⟩ : ∃ c8, c8 = c6 := ⟨_, rfl⟩
          have h8 := h6
          -- r' = 2 * remS a b (j + 1) + 0 in w8 (h8), wr below w8: hb6; bit = 0
          have hrb : 2 * remS a b (j + 1) + 0 < 2 * b := by have := rem_lt a (j + 1) hb0; omega
          by_cases hle : b ≤ 2 * remS a b (j + 1) + 0
          · obtain ⟨hq1, hq2⟩ := quo_yes (a := a) (j := j) (bit := 0) hb0 hbit hle
            have hq3 := quo_le a b j
            have hless := less_small A8 A' n8 c8 n' c' (2 * remS a b (j + 1) + 0 : Nat) b w8 h8 (h'.below (Below_trans' hbw hbw.size hb6)) (by omega) (by omega)
            rw [decide_eq_false (by omega)] at hless
            have HQ2 := hide hq2
            have HQ3 := hide hq3
            have hw1 : Hid (((quoS a b (j + 1) : Nat) : Int) + 2 ^ j = ((quoS a b j : Nat) : Int)) := by unfold Hid; rw [← hq1]; simp
            clear hq1 hq2 hq3
            go_wp2_with fail
            refine hless.mono ?_
            rintro e w9 ⟨rfl, hb9⟩
            have hb69 := Below_trans' hb6 (hb6).size hb9
            have hmin := minus_fresh A8 A' n8 c8 n' c' (2 * remS a b (j + 1) + 0 : Nat) b w9 (h8.below hb9) (h'.below (Below_trans' hbw hbw.size hb69)) (by omega) (by omega) (by omega)
            rw [show ((2 * remS a b (j + 1) + 0 : Nat) : Int) - (b : Int) = ((remS a b j : Nat) : Int) by rw [HQ2.out]; omega] at hmin
            go_wp2_with fail
            refine hmin.mono ?_
            rintro e w10 ⟨A10, n10, c10, rfl, h10, hb10, hf10⟩
            have Hf10 := hide hf10
            clear hf10
            have hb610 := Below_trans' hb69 hb69.size hb10
            have hbw10 := Below_trans' hbw hbw.size hb610
            have hQ10 := hQ.below hb610 hQ.lt
            have q1 := hQ10.cell 0
            have q2 := hQ10.free 0
            have e5 : ((quoS a b j : Nat) : Int) % 4294967296 = ((quoS a b j : Nat) : Int) := Int.emod_eq_of_lt (by omega) (by have := HQ3.out; omega)
            have e6 := hw1.out
            generalize hq : ((quoS a b (j + 1) : Nat) : Int) = qa at q1 e6
            generalize hqb : ((quoS a b j : Nat) : Int) = qb at e5 e6
            have Hqb := hide hqb
            clear hq hqb
            go_wp2
            go_roundw
            case rel =>
              have hsz := hbw.size
              have hs9 := hb69.size
              refine ⟨j, A10, n10, c10, by omega, rfl, by go_num, h10.frame ((Frame'.refl (fun b => b = w.heap.size) w10).setCell (p := ⟨w.heap.size, 0, none⟩) (.inl rfl) _) (fun x hx e => ?_), by rw [Hqb.out]; exact hQ10.put 0 _, hbw10.setCell (p := ⟨w.heap.size, 0, none⟩) (Nat.le_refl _) _⟩
              have := Hf10.out x hx
              have := hQ.lt
              omega
            case measure => simp [intOf] <;> omega
          · obtain ⟨hq1, hq2⟩ := quo_no (a := a) (b := b) (j := j) (bit := 0) hbit (by omega)
            have hless := less_small A8 A' n8 c8 n' c' (2 * remS a b (j + 1) + 0 : Nat) b w8 h8 (h'.below (Below_trans' hbw hbw.size hb6)) (by omega) (by omega)
            rw [decide_eq_true (by omega)] at hless
            have HQ1 := hide hq1
            have HQ2 := hide hq2
            clear hq1 hq2
            go_wp2_with fail
            refine hless.mono ?_
            rintro e w9 ⟨rfl, hb9⟩
            have hb69 := Below_trans' hb6 (hb6).size hb9
            go_wp2
            go_roundw
            case rel => exact ⟨j, A8, n8, c8, by omega, rfl, by go_num, by rw [HQ2.out]; exact h8.below hb9, by rw [← HQ1.out]; exact hQ.below hb69 hQ.lt, Below_trans' hbw hbw.size hb69⟩
            case measure => simp [intOf] <;> omega
      · obtain rfl : k = 0 := by omega
        have hq0 : Hid (quoS a b 0 = a / b ∧ remS a b 0 = a % b) := ⟨by unfold quoS; simp, by unfold remS; simp⟩
        have hqb := hide (quo_le a b 0)
        have ht := trim_fresh (some ⟨w.heap.size, 0, none⟩) n n (quoS a b 0 : Nat) [((quoS a b 0 : Nat) : Int)] wr (by rw [hN0.out]; exact wrds_has1 hQ (by omega) (by have := hqb.out; omega)) (.inr rfl)
        go_wp2_with fail
        refine ht.mono ?_
        rintro e w' ⟨A5, n5, c5, rfl, h5, hb5, hf5⟩
        go_wp2
        go_ret3
        refine ⟨A5, n5, c5, _, _, _, rfl, ?_, ?_, Below_trans' hbw hbw.size hb5, fun b hb => Nat.le_trans hbw.size (hf5 b hb)⟩
        · rw [← hq0.out.1]; exact h5
        · rw [← hq0.out.2]; exact hR.below hb5

/-- What hands back a ratio of two numbers. -/
def QPost (w : World) (x : Rat3) (e : Ending) (w' : World) : Prop := ∃ A n c A' n' c', e = .returned (.agg #[.bool x.1, .slice A n c, .slice A' n' c']) ∧ RWrds w' A n c x.2.1 ∧ RWrds w' A' n' c' x.2.2 ∧ Below w.heap.size w w' ∧ ∀ b, fpS A n b ∨ fpS A' n' b → w.heap.size ≤ b
/-- n over d in lowest terms. -/
def lowS (a b : Nat) : List Int × List Int := (lm (a / Nat.gcd a b : Nat), lm (b / Nat.gcd a b : Nat))
set_option maxRecDepth 100000 in
theorem lowest_any (A A' : Option Addr) (n c n' c' : Nat) (a b : Nat) (w : World) (h : RWrds w A n c (lm a)) (h' : RWrds w A' n' c' (lm b)) (ha : a ≤ 4294967295) (hb0 : 0 < b) (hb1 : b ≤ 2147483648) :
    Calls Tryz.prog 110 #[.bool false, .slice A n c, .slice A' n' c'] w fun e w' => ∃ A n c A' n' c', e = .returned (.agg #[.bool false, .slice A n c, .slice A' n' c']) ∧ RWrds w' A n c (lowS a b).1 ∧ RWrds w' A' n' c' (lowS a b).2 ∧ Below w.heap.size w w' ∧ ∀ b, fpS A n b ∨ fpS A' n' b → w.heap.size ≤ b := by
  have hG0 : 0 < Nat.gcd a b := Nat.gcd_pos_of_pos_right a hb0
  have hG1 : Nat.gcd a b ≤ b := Nat.gcd_le_right a hb0
  go_enter Tryz.func110, Tryz.ntmps110
  have hb0' : Below w.heap.size w (w.alloc (.cells #[.bool false, .slice none 0 0, .slice none 0 0] 63)) := (Below.refl _ _).alloc (Nat.le_refl _) _
  have hz0 : w.heap.size < (w.alloc (.cells #[.bool false, .slice none 0 0, .slice none 0 0] 63)).heap.size := by simp
  have hH0 := Has.new w 63 #[.bool false, .slice none 0 0, .slice none 0 0]
  have hg := gcd_any A A' n c n' c' a b _ (h.below hb0') (h'.below hb0') ha (by omega) hb0
  go_wp2_with fail
  refine hg.mono ?_
  rintro e w1 ⟨A1, n1, c1, rfl, h1, hb1'⟩
  have hz1 := Nat.lt_of_lt_of_le hz0 hb1'.size
  have hb01 := Below_trans' hb0' hb0'.size hb1'
  have hd1 := div_any A A1 n c n1 c1 a (Nat.gcd a b) w1 (h.below hb01) h1 ha hG0 (by omega)
  go_wp2_with fail
  refine hd1.mono ?_
  rintro e w2 ⟨A2, n2, c2, A3, n3, c3, rfl, h2, _, hb2, hf2⟩
  have hz2 := Nat.lt_of_lt_of_le hz1 hb2.size
  have hb02 := Below_trans' hb01 hb01.size hb2
  have hd2 := div_any A' A1 n' c' n1 c1 b (Nat.gcd a b) w2 (h'.below hb02) (h1.below hb2) (by omega) hG0 (by omega)
  go_wp2_with fail
  refine hd2.mono ?_
  rintro e w3 ⟨A4, n4, c4, A5, n5, c5, rfl, h4, _, hb3, hf4⟩
  have hb03 := Below_trans' hb02 hb02.size hb3
  have hb12 := Below_trans' hb1' hb1'.size hb2
  have hb13 := Below_trans' hb12 hb12.size hb3
  have hf2' := hide hf2
  have hf4' := hide hf4
  clear hf2 hf4 hg hd1 hd2
  have hH3 := hH0.below hb13 hH0.lt
  have q1 := hH3.cell 0
  have q2 := hH3.cell 1
  have q3 := hH3.cell 2
  have p1 := hH3.free 0
  have p2 := hH3.free 1
  have p3 := hH3.free 2
  go_wp2
  have k := frame3 w3 w.heap.size (.bool false) (.slice A2 n2 c2) (.slice A4 n4 c4)
  have g2 : ∀ b, fpS A2 n2 b → w.heap.size < b := fun b hb => Nat.lt_of_lt_of_le hz1 (hf2'.out b hb)
  have g4 : ∀ b, fpS A4 n4 b → w.heap.size < b := fun b hb => Nat.lt_of_lt_of_le hz2 (hf4'.out b hb)
  refine retRat rfl rfl (put3 hH3) rfl rfl ⟨A2, n2, c2, A4, n4, c4, rfl, (h2.below hb3).frame k fun b hb e => ?_, h4.frame k fun b hb e => ?_, below3 hb03 (Nat.le_refl _) _ _ _, fun b hb => ?_⟩
  · have := g2 b hb; omega
  · have := g4 b hb; omega
  · rcases hb with hb | hb
    · have := g2 b hb; omega
    · have := g4 b hb; omega
end Go.Proofs.YtolbceckbnifmaaGreat

namespace Go.Proofs.YtolbceckbnifmaaGreat
open Go.RowKit Go.Proofs
attribute [local go_sem] cell?_more cell?_alloc_some cell?_setCell_far frozen?_alloc_some frozen?_more
/-- The order of two numbers, as a number (of the layer nat). -/
def ordN (a b : Nat) : Int := if a < b then -1 else if b < a then 1 else 0
theorem ordN_lt {a b : Nat} (h : a < b) : ordN a b = -1 := if_pos h
theorem ordN_gt {a b : Nat} (h : b < a) : ordN a b = 1 := by unfold ordN; rw [if_neg (by omega), if_pos h]
theorem ordN_eq (a : Nat) : ordN a a = 0 := by unfold ordN; rw [if_neg (by omega), if_neg (by omega)]
/-- trim of one word. -/
theorem ntrim_one (g : Nat) (a : Nat) (w : World) (h : Has w g 150 #[.int .u32 a]) (ha : a ≤ 4294967295) :
    Calls Tryz.prog 119 #[.slice (some ⟨g, 0, none⟩) 1 1] w fun e w' => ∃ n, e = .returned (.slice (some ⟨g, 0, none⟩) n n) ∧ RWrds w (some ⟨g, 0, none⟩) n n (lm a) ∧ w = w' := by
  have q0 := h.cell 0
  by_cases h0 : a = 0
  · subst h0
    go_enter Tryz.func119, Tryz.ntmps119
    go_wp2
    go_loop [3] (fun m => m = .int .i64 1 ∨ m = .int .i64 0) (fun m => (intOf m).toNat)
    case atStart => exact .inl (by go_num)
    case round =>
      rcases hrel with rfl | rfl
      · go_wp2
        go_round
        case rel => exact .inr (by go_num)
        case measure => simp [intOf]
      · go_wp2
        go_ret
        exact ⟨0, rfl, ⟨rfl, Nat.le_refl _, by omega, by simp [lm], fun h => absurd h (by omega)⟩, rfl⟩
  · have hr := hide (wrds_has1 h (by omega) (by omega))
    have hl := hide (lm_nat_pos (a := a) (by omega))
    obtain ⟨V, hV⟩ : ∃ V : Int, V = (a : Int) := ⟨_, rfl⟩
    have e1 : (V == 0) = false := by simp; omega
    have q1 : w.cell? ⟨g, 0, none⟩ = some (.int .u32 V) := by rw [hV]; exact q0
    clear hV h0 q0 h
    go_enter Tryz.func119, Tryz.ntmps119
    go_wp2
    go_loop [3] (fun m => m = .int .i64 1) (fun m => 0)
    case atStart => go_num
    case round =>
      subst hrel
      go_wp2
      go_ret
      exact ⟨1, rfl, by rw [hl.out]; exact hr.out, rfl⟩
theorem wrap64 (V : Int) (h0 : 0 ≤ V) (h1 : V ≤ 4294967295) : IntKind.u64.wrap V = V := by
  have e1 : IntKind.u64.signed = false := rfl
  have e2 : IntKind.u64.bits = 64 := rfl
  unfold IntKind.wrap
  rw [e1, e2]
  simp
  omega
theorem or_zero64 (V : Int) (h0 : 0 ≤ V) (h1 : V ≤ 4294967295) : bits BinOp.or IntKind.u64 0 V = V := by
  show IntKind.u64.wrap (((BitVec.ofInt 64 0 ||| BitVec.ofInt 64 V).toNat : Nat) : Int) = V
  rw [show BitVec.ofInt 64 0 = 0#64 from rfl, BitVec.zero_or, BitVec.toNat_ofInt]
  have e : V % ((2 ^ 64 : Nat) : Int) = V := Int.emod_eq_of_lt h0 (by omega)
  rw [e, Int.toNat_of_nonneg h0]
  exact wrap64 V h0 h1
/-- What small leaves: the quotient, the rest. -/
def SmallPost (w : World) (a b : Nat) (e : Ending) (w' : World) : Prop := ∃ A n c, e = .returned (.tuple #[.slice A n c, .int .u32 (a % b : Nat)]) ∧ RWrds w' A n c (lm (a / b : Nat)) ∧ Below w.heap.size w w' ∧ ∀ k, fpS A n k → w.heap.size ≤ k
/-- What divide leaves: quotient and rest. -/
def DvPost (w : World) (a b : Nat) (e : Ending) (w' : World) : Prop := ∃ A n c A' n' c', e = .returned (.tuple #[.slice A n c, .slice A' n' c']) ∧ RWrds w' A n c (lm (a / b : Nat)) ∧ RWrds w' A' n' c' (lm (a % b : Nat)) ∧ Below w.heap.size w w' ∧ ∀ k, fpS A n k → w.heap.size ≤ k
end Go.Proofs.YtolbceckbnifmaaGreat

namespace Go.Proofs.YtolbceckbnifmaaGreat
open Go.RowKit Go.Proofs
attribute [local go_sem] cell?_more cell?_alloc_some cell?_setCell_far frozen?_alloc_some frozen?_more
/-- What Of leaves: a over b in lowest terms, no error. -/
def OfP (w : World) (a b : Nat) (e : Ending) (w' : World) : Prop := ∃ A n c A' n' c', e = .returned (.tuple #[.agg #[.bool false, .slice A n c, .slice A' n' c'], .int .i64 0]) ∧ RWrds w' A n c (lowS a b).1 ∧ RWrds w' A' n' c' (lowS a b).2 ∧ Below w.heap.size w w' ∧ ∀ b, fpS A n b ∨ fpS A' n' b → w.heap.size ≤ b
set_option maxRecDepth 100000 in
theorem rofd_any (a b : Nat) (w : World) (ha : a ≤ 4294967295) (hb0 : 0 < b) (hb1 : b ≤ 2147483648) :
    Calls Tryz.prog 78 #[.int .i64 a, .int .i64 b] w (OfP w a b) := by
  have f1 : ¬ (a : Int) < 0 := by omega
  have f2 : ¬ (b : Int) < 0 := by omega
  have f3 : ((b : Int) == 0) = false := by simp; omega
  go_enter Tryz.func78, Tryz.ntmps78
  have hb0' : Below w.heap.size w (w.alloc (.cells #[.bool false, .slice none 0 0, .slice none 0 0] 63)) := (Below.refl _ _).alloc (Nat.le_refl _) _
  have hz0 : w.heap.size < (w.alloc (.cells #[.bool false, .slice none 0 0, .slice none 0 0] 63)).heap.size := by simp
  have hH0 := Has.new w 63 #[.bool false, .slice none 0 0, .slice none 0 0]
  generalize hW : World.alloc w _ = W0 at hb0' hH0 hz0
  go_wp2_with fail
  try rw [hW]
  clear hW
  refine (rfar_any a W0 (by omega) (by omega)).mono ?_
  rintro e w' ⟨rfl, rfl⟩
  go_wp2_with fail
  refine (rof_small a W0 (by omega) (by omega)).mono ?_
  rintro e w1 ⟨A1, n1, c1, rfl, h1, hb1'⟩
  go_wp2_with fail
  refine (rfar_any b w1 (by omega) (by omega)).mono ?_
  rintro e w' ⟨rfl, rfl⟩
  go_wp2_with fail
  refine (rof_small b w1 (by omega) (by omega)).mono ?_
  rintro e w2 ⟨A2, n2, c2, rfl, h2, hb2⟩
  have hb12 := Below_trans' hb1' hb1'.size hb2
  have hb02 := Below_trans' hb0' hb0'.size hb12
  have hz2 := Nat.lt_of_lt_of_le hz0 hb12.size
  go_wp2_with fail
  refine (lowest_any A1 A2 n1 c1 n2 c2 a b w2 (h1.below hb2) h2 ha hb0 (by omega)).mono ?_
  rintro e w3 ⟨A3, n3, c3, A4, n4, c4, rfl, h3, h4, hb3, hf⟩
  have hb13 := Below_trans' hb12 hb12.size hb3
  have hb03 := Below_trans' hb02 hb02.size hb3
  have hf' := hide hf
  clear hf
  have hH3 := hH0.below hb13 hH0.lt
  have q1 := hH3.cell 0
  have q2 := hH3.cell 1
  have q3 := hH3.cell 2
  have p1 := hH3.free 0
  have p2 := hH3.free 1
  have p3 := hH3.free 2
  go_wp2
  have k := frame3 w3 w.heap.size (.bool false) (.slice A3 n3 c3) (.slice A4 n4 c4)
  have g3 : ∀ b, fpS A3 n3 b ∨ fpS A4 n4 b → w.heap.size < b := fun b hb => Nat.lt_of_lt_of_le hz2 (hf'.out b hb)
  refine retRat2 rfl rfl rfl (put3 hH3) rfl rfl ⟨A3, n3, c3, A4, n4, c4, rfl, h3.frame k fun b hb e => ?_, h4.frame k fun b hb e => ?_, below3 hb03 (Nat.le_refl _) _ _ _, fun b hb => Nat.le_of_lt (g3 b hb)⟩
  · have := g3 b (.inl hb); omega
  · have := g3 b (.inr hb); omega
end Go.Proofs.YtolbceckbnifmaaGreat
