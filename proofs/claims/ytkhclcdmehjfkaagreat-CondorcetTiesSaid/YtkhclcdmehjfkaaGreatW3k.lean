/-
  Halves: how a number of halves is shown, added and compared.
-/
import Derived.Test.YtkhclcdmehjfkaaGreatW3h
import Derived.Test.YtkhclcdmehjfkaaGreatSpecCo
namespace Go.Proofs.YtkhclcdmehjfkaaGreat
open Go.RowKit Go.Proofs Go.Shelf

/-- Lowest terms are those of the number. -/
theorem lowS_eq {x b y d : Nat} (hb : 0 < b) (hd : 0 < d) (h : x * d = y * b) : lowS x b = lowS y d := by
  have hg : 0 < Nat.gcd x b := Nat.gcd_pos_of_pos_right x hb
  have hh : 0 < Nat.gcd y d := Nat.gcd_pos_of_pos_right y hd
  have c1 := Nat.coprime_div_gcd_div_gcd hg
  have c2 := Nat.coprime_div_gcd_div_gcd hh
  have e1 := Nat.div_mul_cancel (Nat.gcd_dvd_left x b)
  have e2 := Nat.div_mul_cancel (Nat.gcd_dvd_right x b)
  have e3 := Nat.div_mul_cancel (Nat.gcd_dvd_left y d)
  have e4 := Nat.div_mul_cancel (Nat.gcd_dvd_right y d)
  unfold lowS
  have hb' : 0 < b / Nat.gcd x b := Nat.div_pos (Nat.le_of_dvd hb (Nat.gcd_dvd_right x b)) hg
  have hd' : 0 < d / Nat.gcd y d := Nat.div_pos (Nat.le_of_dvd hd (Nat.gcd_dvd_right y d)) hh
  generalize x / Nat.gcd x b = x' at *
  generalize b / Nat.gcd x b = b' at *
  generalize y / Nat.gcd y d = y' at *
  generalize d / Nat.gcd y d = d' at *
  generalize Nat.gcd x b = g at *
  generalize Nat.gcd y d = k at *
  subst e1 e2 e3 e4
  have h2 : x' * d' = y' * b' := by
    have h3 : (x' * d') * (g * k) = (y' * b') * (g * k) := by
      have l : x' * g * (d' * k) = (x' * d') * (g * k) := by simp only [Nat.mul_assoc, Nat.mul_left_comm, Nat.mul_comm]
      have r : y' * k * (b' * g) = (y' * b') * (g * k) := by simp only [Nat.mul_assoc, Nat.mul_left_comm, Nat.mul_comm]
      rw [← l, ← r]; exact h
    exact Nat.eq_of_mul_eq_mul_right (Nat.mul_pos hg hh) h3
  have d1 : b' ∣ d' := c1.symm.dvd_of_dvd_mul_left ⟨y', by rw [h2, Nat.mul_comm]⟩
  have d2 : d' ∣ b' := c2.symm.dvd_of_dvd_mul_left ⟨x', by rw [← h2, Nat.mul_comm]⟩
  have e : b' = d' := Nat.dvd_antisymm d1 d2
  subst e
  have e' : x' = y' := Nat.eq_of_mul_eq_mul_right hb' h2
  subst e'
  rfl
theorem half_parts (n : Nat) : ∃ p q : Nat, halfS n = (false, lm p, lm q) ∧ 0 < q ∧ q ≤ 2 ∧ Nat.gcd p q = 1 ∧ p * 2 = n * q ∧ p ≤ n := by
  have hg : 0 < Nat.gcd n 2 := Nat.gcd_pos_of_pos_right n (by omega)
  have hg2 : Nat.gcd n 2 ≤ 2 := Nat.gcd_le_right n (by omega)
  have e1 := Nat.div_mul_cancel (Nat.gcd_dvd_left n 2)
  have e2 := Nat.div_mul_cancel (Nat.gcd_dvd_right n 2)
  have c1 := Nat.coprime_div_gcd_div_gcd hg
  refine ⟨n / Nat.gcd n 2, 2 / Nat.gcd n 2, rfl, ?_, ?_, c1, ?_, ?_⟩
  · exact Nat.div_pos hg2 hg
  · exact Nat.div_le_self _ _
  · generalize n / Nat.gcd n 2 = p at *
    generalize 2 / Nat.gcd n 2 = q at *
    generalize Nat.gcd n 2 = g at *
    have : g = 1 ∨ g = 2 := by omega
    rcases this with rfl | rfl
    · obtain rfl : q = 2 := by omega
      omega
    · obtain rfl : q = 1 := by omega
      omega
  · exact Nat.div_le_self _ _
theorem two_cases {q : Nat} (h : 0 < q ∧ q ≤ 2) : q = 1 ∨ q = 2 := by omega
theorem half_sum {a b pa qa pb qb : Nat} (ha : 0 < qa ∧ qa ≤ 2) (hb : 0 < qb ∧ qb ≤ 2) (h1 : pa * 2 = a * qa) (h2 : pb * 2 = b * qb) : lowS (pa * qb + pb * qa) (qa * qb) = lowS (a + b) 2 := by
  refine lowS_eq (Nat.mul_pos ha.1 hb.1) (by omega) ?_
  rcases two_cases ha with rfl | rfl <;> rcases two_cases hb with rfl | rfl <;> omega
theorem half_cmp {a b pa qa pb qb : Nat} (ha : 0 < qa ∧ qa ≤ 2) (hb : 0 < qb ∧ qb ≤ 2) (h1 : pa * 2 = a * qa) (h2 : pb * 2 = b * qb) : cmpS (pa * qb : Nat) (pb * qa : Nat) = cmpS a b := by
  unfold cmpS
  have e1 : ((pa * qb : Nat) : Int) < ((pb * qa : Nat) : Int) ↔ (a : Int) < b := by
    rcases two_cases ha with rfl | rfl <;> rcases two_cases hb with rfl | rfl <;> omega
  have e2 : ((pb * qa : Nat) : Int) < ((pa * qb : Nat) : Int) ↔ (b : Int) < a := by
    rcases two_cases ha with rfl | rfl <;> rcases two_cases hb with rfl | rfl <;> omega
  simp only [e1, e2]
theorem half_whole (k : Nat) : halfS ((2 * k : Nat) : Int) = wholeS k := by
  unfold halfS wholeS
  rw [Int.toNat_natCast, lowS_eq (y := k) (d := 1) (by omega) (by omega) (by omega)]
  unfold lowS
  simp [Nat.gcd_one_right]
  rfl
set_option maxRecDepth 100000 in
theorem hcmp_any (A A' B B' : Option Addr) (n c n' c' m d m' d' : Nat) (a b : Nat) (w : World) (h1 : RWrds w A n c (halfS a).2.1) (h2 : RWrds w A' n' c' (halfS a).2.2) (h3 : RWrds w B m d (halfS b).2.1) (h4 : RWrds w B' m' d' (halfS b).2.2) (ha : a ≤ 1000000000) (hb : b ≤ 1000000000) :
    Calls Tryz.prog 50 #[.agg #[.bool false, .slice A n c, .slice A' n' c'], .agg #[.bool false, .slice B m d, .slice B' m' d']] w fun e w' => e = .returned (.tuple #[.int .i64 (cmpS a b), .int .i64 0]) ∧ Below w.heap.size w w' := by
  obtain ⟨pa, qa, e1, a1, a2, a3, a4, a5⟩ := half_parts a
  obtain ⟨pb, qb, e2, b1, b2, b3, b4, b5⟩ := half_parts b
  rw [e1] at h1 h2
  rw [e2] at h3 h4
  rw [← half_cmp ⟨a1, a2⟩ ⟨b1, b2⟩ a4 b4]
  exact rcmp4_q A A' B B' n c n' c' m d m' d' pa pb qa qb w h1 h2 h3 h4 (by omega) (by omega) ⟨a1, a2⟩ ⟨b1, b2⟩ a3 b3
set_option maxRecDepth 100000 in
theorem hadd_any (A A' B B' : Option Addr) (n c n' c' m d m' d' : Nat) (a b : Nat) (w : World) (h1 : RWrds w A n c (halfS a).2.1) (h2 : RWrds w A' n' c' (halfS a).2.2) (h3 : RWrds w B m d (halfS b).2.1) (h4 : RWrds w B' m' d' (halfS b).2.2) (ha : a ≤ 1000000000) (hb : b ≤ 1000000000) :
    Calls Tryz.prog 51 #[.agg #[.bool false, .slice A n c, .slice A' n' c'], .agg #[.bool false, .slice B m d, .slice B' m' d']] w (AddQ w (halfS ((a + b : Nat) : Int)).2) := by
  obtain ⟨pa, qa, e1, a1, a2, a3, a4, a5⟩ := half_parts a
  obtain ⟨pb, qb, e2, b1, b2, b3, b4, b5⟩ := half_parts b
  rw [e1] at h1 h2
  rw [e2] at h3 h4
  have e : (halfS ((a + b : Nat) : Int)).2 = lowS (a + b) 2 := rfl
  rw [e, ← half_sum ⟨a1, a2⟩ ⟨b1, b2⟩ a4 b4]
  exact radd4_q A A' B B' n c n' c' m d m' d' pa pb qa qb w h1 h2 h3 h4 (by omega) (by omega) ⟨a1, a2⟩ ⟨b1, b2⟩ a3 b3
end Go.Proofs.YtkhclcdmehjfkaaGreat
