/-
  Numbers of one word: made, trimmed, added, subtracted, halved.
  Numbers of one word: made, added, subtracted, halved.
  The reference's Gcd and Div at a number of one word and one; ratios of whole numbers.
-/
import Derived.Test.YtiebfalodelclaaW3a
import Derived.Test.YtiebfalodelclaaAgg
import Derived.Test.YtiebfalodelclaaQTail
namespace Go.Proofs.Ytiebfalodelclaa
open Go.RowKit Go.Proofs
attribute [local go_sem] cell?_more cell?_alloc_some cell?_setCell_far frozen?_alloc_some frozen?_more
theorem run_appWrds (w : World) (ty : TypeId) {base : Nat} {v : Value} {xs : List Int} (hown : OwnW w base v xs) {A : Option Addr} {n c : Nat} {ys : List Int} (hr : RWrds w A n c ys) (hn : xs.length + n ≤ 1000000) (hbase : base ≤ w.heap.size) :
    ∃ v' w', (Builtin.append_ #[72, 72] ty #[v, .slice A n c]).run Try.prog w = .ok v' w' ∧ OwnW w' base v' (xs ++ ys) ∧ w.grownBy w' v.ownBlock ∧ (v'.ownBlock = v.ownBlock ∨ v'.ownBlock = some w.heap.size) := by
  obtain ⟨i0, hi, hz0, hz1, hz2⟩ := info_parts infoU
  obtain ⟨v', w', h1, h2, h3, h4⟩ := run_appU w base 72 ty 110 i0 (.int .u32 0) 1 4 Try.underlying72 hi hz0 hz1 hz2 rfl (by decide) v xs.length _ hown A n c (ys.map (Value.int .u32)) (by simp [hr.len]) (fun e => by
    by_cases h0 : 0 < n
    · obtain ⟨b, off, e', _⟩ := hr.2.2.2.2 h0; rw [e] at e'; cases e'
    · omega) (fun a e j u hj => by
    have hjn : j < n := by
      have := (List.getElem?_eq_some_iff.1 hj).1
      rw [List.length_map, hr.len] at this; exact this
    obtain ⟨b, off, e', hc⟩ := hr.2.2.2.2 (by omega)
    rw [e] at e'
    cases e'
    have hadd : (⟨b, off, none⟩ : Addr).add j = ⟨b, off + j, none⟩ := by unfold Addr.add; split <;> simp_all
    rw [hadd, hc j hjn]
    rw [List.getElem?_map] at hj
    have hjl : j < ys.length := by rw [hr.len]; exact hjn
    rw [List.getElem?_eq_getElem hjl] at hj
    simp at hj
    simp [List.getD, hjl, hj]) (fun u hu => by obtain ⟨y, _, rfl⟩ := List.mem_map.1 hu; rfl) (by unfold maxLen; omega) (by omega) hbase
  exact ⟨v', w', h1, by unfold OwnW; simpa [hr.len] using h2, h3, h4⟩

/-- What hands back a number. -/
def WPost (w : World) (xs : List Int) (e : Ending) (w' : World) : Prop := ∃ A n c, e = .returned (.slice A n c) ∧ RWrds w' A n c xs ∧ Below w.heap.size w w'
/-- .. in a block of its own. -/
def WPostF (w : World) (xs : List Int) (e : Ending) (w' : World) : Prop := ∃ A n c, e = .returned (.slice A n c) ∧ RWrds w' A n c xs ∧ Below w.heap.size w w' ∧ ∀ b, fpS A n b → w.heap.size ≤ b
theorem OwnW.new {w : World} {B n c : Nat} {A : Option Addr} {xs : List Int} (h : OwnW w B (.slice A n c) xs) : ∀ b, fpS A n b → B ≤ b := fun b hb => by
  obtain ⟨hn, off, e⟩ := hb
  rcases h.2 with ⟨e', h0⟩ | ⟨g, cap, cur, e', hb, r⟩
  · cases e'; omega
  · cases e'; cases e; exact hb

end Go.Proofs.Ytiebfalodelclaa

namespace Go.Proofs.Ytiebfalodelclaa
open Go.RowKit Go.Proofs
attribute [local go_sem] cell?_more cell?_alloc_some cell?_setCell_far frozen?_alloc_some frozen?_more
theorem OwnW.out {w w' : World} {v : Value} {xs : List Int} (h : OwnW w' w.heap.size v xs) (hx : ∀ x ∈ xs, 0 ≤ x ∧ x ≤ 4294967295) (hb : Below w.heap.size w w') : WPost w xs (.returned v) w' := by
  obtain ⟨A, c, rfl⟩ := h.slice
  exact ⟨A, xs.length, c, rfl, h.wrds hx, hb⟩
theorem lm_bd {a : Int} (h0 : 0 ≤ a) (h1 : a ≤ 4294967295) : ∀ x ∈ lm a, 0 ≤ x ∧ x ≤ 4294967295 := by
  intro x hx
  unfold lm at hx
  split at hx
  · simp at hx
  · simp at hx; omega

theorem RWrds.more {w : World} {A : Option Addr} {n c : Nat} {xs : List Int} (h : RWrds w A n c xs) (q : Ext) : RWrds (More w q) A n c xs := h.below (more_below w q)
theorem wrds_has1 {w : World} {g : Nat} {t : TypeId} {x : Int} (h : Has w g t #[.int .u32 x]) (h0 : 0 ≤ x) (h1 : x ≤ 4294967295) : RWrds w (some ⟨g, 0, none⟩) 1 1 [x] :=
  ⟨rfl, Nat.le_refl _, by omega, by intro y hy; simp at hy; omega, fun _ => ⟨g, 0, rfl, fun i hi => by
    obtain rfl : i = 0 := by omega
    exact h.cell 0⟩⟩
end Go.Proofs.Ytiebfalodelclaa

namespace Go.Proofs.Ytiebfalodelclaa
open Go.RowKit Go.Proofs
attribute [local go_sem] cell?_more cell?_alloc_some cell?_setCell_far frozen?_alloc_some frozen?_more
/-- The number that a slice of one word holds. -/
def wval (w : World) : Value → Nat
  | .slice (some a) (_ + 1) _ => match w.cell? a with | some (.int _ v) => v.toNat | _ => 0
  | _ => 0
theorem wval_zero {w : World} {A : Option Addr} {n c : Nat} (h : RWrds w A n c (lm 0)) : wval w (.slice A n c) = 0 := by
  have hl := h.len
  rw [lm_zero] at hl
  obtain rfl : n = 0 := by simpa using hl.symm
  cases A <;> rfl
theorem wval_of {w : World} {A : Option Addr} {n c : Nat} {v : Int} (h : RWrds w A n c (lm v)) : wval w (.slice A n c) = v.toNat := by
  by_cases h0 : v = 0
  · subst h0; exact wval_zero h
  · rw [lm_pos h0] at h
    obtain rfl : n = 1 := by have := h.len; simpa using this.symm
    obtain ⟨b, off, u, rfl, hc, _, hat, _⟩ := h.step (show 0 < 1 by omega)
    obtain rfl : v = u := by simpa using hat.out
    simp only [Nat.add_zero] at hc
    simp only [wval, hc]

theorem RWrds.empty {w : World} {A : Option Addr} {n c : Nat} (h : RWrds w A n c (lm 0)) (w' : World) : RWrds w' A n c (lm 0) :=
  ⟨h.1, h.2.1, h.2.2.1, h.2.2.2.1, fun hn => absurd hn (by have := h.1; rw [lm_zero] at this; simp at this; omega)⟩
theorem pow_bits (a : Int) (j : Nat) : a / 2 ^ (j + 1) * 2 ^ (j + 1) + a / 2 ^ j % 2 * 2 ^ j = a / 2 ^ j * 2 ^ j := by
  have e : a / 2 ^ (j + 1) = a / 2 ^ j / 2 := by
    have h1 : (0 : Int) ≤ 2 ^ j := Int.pow_nonneg (by omega)
    rw [Int.pow_succ, ← Int.ediv_ediv_of_nonneg h1]
  rw [e]
  generalize a / 2 ^ j = q
  rw [Int.pow_succ]
  generalize (2 : Int) ^ j = m
  have h := Int.mul_ediv_add_emod q 2
  generalize q / 2 = d at *
  generalize q % 2 = r at *
  subst h
  rw [Int.add_mul, Int.mul_comm 2 d, Int.mul_assoc, Int.mul_comm m 2]
theorem pow_zero_bit {a : Int} {j : Nat} (h : ¬ a / 2 ^ j % 2 = 1) : a / 2 ^ (j + 1) * 2 ^ (j + 1) = a / 2 ^ j * 2 ^ j := by
  have := pow_bits a j
  have h0 : a / 2 ^ j % 2 = 0 := by omega
  rw [h0] at this
  simpa using this
theorem pow_one_bit {a : Int} {j : Nat} (h : a / 2 ^ j % 2 = 1) : a / 2 ^ (j + 1) * 2 ^ (j + 1) + 2 ^ j = a / 2 ^ j * 2 ^ j := by
  have := pow_bits a j
  rw [h] at this
  simpa using this
theorem pow_le {a : Int} {j : Nat} (ha : 0 ≤ a) : 0 ≤ a / 2 ^ j * 2 ^ j ∧ a / 2 ^ j * 2 ^ j ≤ a := by
  have h1 : (0 : Int) ≤ 2 ^ j := Int.pow_nonneg (by omega)
  exact ⟨Int.mul_nonneg (Int.ediv_nonneg ha h1) h1, Int.ediv_mul_le a (by have := Int.pow_pos (n := 2) (m := j) (by omega); omega)⟩

theorem infoRat : (Try.prog.info? 74).map (fun i => (i.zero, i.size, i.bytes)) = some (some (.agg #[.bool false, .slice none 0 0, .slice none 0 0]), 3, 56) := by kernel_rfl
theorem sizeRat : (Try.prog.info? 74).map (·.size) = some 3 := by kernel_rfl
/-- A function hands back a ratio that lies in its result's variable. -/
theorem retRat {fn : Func} {R : Ending → World → Prop} {a : Act} {w : World} {p g : Nat} {C : Array Value} (hr : fn.results = #[.cell p 74]) (hp : a.tmps.getD p undef = .pointer (some ⟨g, 0, none⟩))
    (hg : Has w g 74 C) (hs : C.size = 3) (hd : a.defers = []) (hR : R (.returned (.agg C)) w) : bodyPost Try.prog fn R .ret a w :=
  bodyPost_ret (results_cell_row hr _ _ g _ C _ _ hp hg Try.underlying74 rfl (sizeRat.trans (by rw [hs]))) hd hR
theorem retRatEnd {fn : Func} {R : Ending → World → Prop} {a : Act} {w : World} {p g : Nat} {C : Array Value} (hr : fn.results = #[.cell p 74]) (hp : a.tmps.getD p undef = .pointer (some ⟨g, 0, none⟩))
    (hg : Has w g 74 C) (hs : C.size = 3) (hd : a.defers = []) (hR : R (.returned (.agg C)) w) : bodyPost Try.prog fn R .normal a w :=
  bodyPost_end (results_cell_row hr _ _ g _ C _ _ hp hg Try.underlying74 rfl (sizeRat.trans (by rw [hs]))) hd hR

/-- What hands back the whole number a as a ratio. -/
def RatPost (w : World) (a : Int) (e : Ending) (w' : World) : Prop := ∃ A n c A' n' c', e = .returned (.agg #[.bool false, .slice A n c, .slice A' n' c']) ∧ RWrds w' A n c (lm a) ∧ RWrds w' A' n' c' [1] ∧ Below w.heap.size w w' ∧ ∀ b, fpS A n b ∨ fpS A' n' b → w.heap.size ≤ b
theorem RWrds.frame {S : Nat → Prop} {w w' : World} {A : Option Addr} {n c : Nat} {xs : List Int} (h : RWrds w A n c xs) (k : Frame' S w w') (hS : ∀ b, fpS A n b → ¬ S b) : RWrds w' A n c xs := (h.on.frame k hS).get
theorem retRat2 {fn : Func} {R : Ending → World → Prop} {a : Act} {w : World} {p q g : Nat} {C : Array Value} {v : Value} (hr : fn.results = #[.cell p 74, .tmp q]) (hp : a.tmps.getD p undef = .pointer (some ⟨g, 0, none⟩))
    (hq : a.tmps.getD q undef = v) (hg : Has w g 74 C) (hs : C.size = 3) (hd : a.defers = []) (hR : R (.returned (.tuple #[.agg C, v])) w) : bodyPost Try.prog fn R .ret a w := by
  have hl := run_loadVar_row (P := Try.prog) w g _ 74 C (0, 0) _ hg Try.underlying74 rfl (sizeRat.trans (by rw [hs]))
  refine bodyPost_ret (v := .tuple #[.agg C, v]) ?_ hd hR
  have hp' : a.tmps[p]?.getD undef = .pointer (some ⟨g, 0, none⟩) := by simpa using hp
  have hq' : a.tmps[q]?.getD undef = v := by simpa using hq
  simp [results, hr, hp', hq', asAddr, hl]
def RatPost2 (w : World) (a : Int) (e : Ending) (w' : World) : Prop := ∃ A n c A' n' c', e = .returned (.tuple #[.agg #[.bool false, .slice A n c, .slice A' n' c'], .int .i64 0]) ∧ RWrds w' A n c (lm a) ∧ RWrds w' A' n' c' [1] ∧ Below w.heap.size w w' ∧ ∀ b, fpS A n b ∨ fpS A' n' b → w.heap.size ≤ b
/-- The program's numbers. -/
theorem psize_any (n : Int) (w : World) (h0 : 0 ≤ n) (h1 : n ≤ 9223372036854775807) : Calls Try.prog 56 #[.int .i64 n] w fun e w' => e = .returned (.int .u64 n) ∧ w = w' := by
  have f1 : ¬ n < 0 := by omega
  go_enter Try.func56, Try.ntmps56
  go_wp2
  go_ret
  exact ⟨rfl, rfl⟩
theorem ntrim_two (g : Nat) (a : Int) (w : World) (h : Has w g 110 #[.int .u32 a, .int .u32 0]) :
    Calls Try.prog 72 #[.slice (some ⟨g, 0, none⟩) 2 2] w fun e w' => e = .returned (.slice (some ⟨g, 0, none⟩) (lm a).length (lm a).length) ∧ w = w' := by
  have q0 := h.cell 0
  have q1 := h.cell 1
  by_cases ha : a = 0
  · subst ha
    go_enter Try.func72, Try.ntmps72
    go_wp2
    go_loop [3] (fun m => m = .int .i64 2 ∨ m = .int .i64 1 ∨ m = .int .i64 0) (fun m => (intOf m).toNat)
    case atStart => exact .inl (by go_num)
    case round =>
      rcases hrel with rfl | rfl | rfl
      · go_wp2
        go_round
        case rel => exact .inr (.inl (by go_num))
        case measure => simp [intOf]
      · go_wp2
        go_round
        case rel => exact .inr (.inr (by go_num))
        case measure => simp [intOf]
      · go_wp2
        go_ret
        exact ⟨rfl, rfl⟩
  · have e1 : (a == 0) = false := by simpa using ha
    have e2 := hide (lm_pos ha)
    clear ha
    go_enter Try.func72, Try.ntmps72
    go_wp2
    go_loop [3] (fun m => m = .int .i64 2 ∨ m = .int .i64 1) (fun m => (intOf m).toNat)
    case atStart => exact .inl (by go_num)
    case round =>
      rcases hrel with rfl | rfl
      · go_wp2
        go_round
        case rel => exact .inr (by go_num)
        case measure => simp [intOf]
      · go_wp2
        go_ret
        exact ⟨by rw [e2.out]; rfl, rfl⟩
theorem nof_any (a : Int) (w : World) (ha : 0 ≤ a) (hab : a ≤ 4294967295) : Calls Try.prog 55 #[.int .u64 a] w (WPostF w (lm a)) := by
  have e1 : a / 4294967296 = 0 := Int.ediv_eq_zero_of_lt ha (by omega)
  have e2 : a % 4294967296 = a := Int.emod_eq_of_lt ha (by omega)
  have hH := Has.new w 110 #[.int .u32 a, .int .u32 0]
  have hb : Below w.heap.size w (w.alloc (.cells #[.int .u32 a, .int .u32 0] 110)) := (Below.refl _ _).alloc (Nat.le_refl _) _
  go_enter Try.func55, Try.ntmps55
  go_wp2_with fail
  refine (ntrim_two w.heap.size a _ hH).mono ?_
  rintro e w' ⟨rfl, rfl⟩
  go_wp2
  go_ret
  refine ⟨_, _, _, rfl, ⟨rfl, Nat.le_refl _, by have := lm_len a; omega, lm_bd ha hab, fun _ => ⟨w.heap.size, 0, rfl, fun i hi => ?_⟩⟩, hb, fun b hb => ?_⟩
  · have hl := lm_len a
    obtain rfl : i = 0 := by omega
    by_cases h0 : a = 0
    · subst h0; simp [lm] at hi
    · rw [lm_pos h0]; exact hH.cell 0
  · obtain ⟨_, off, e⟩ := hb
    cases e
    exact Nat.le_refl _
theorem one_any (w : World) : Calls Try.prog 57 #[] w (WPostF w [1]) := by
  have hH := Has.new w 110 #[.int .u32 1]
  go_enter Try.func57, Try.ntmps57
  go_wp2
  go_ret
  exact ⟨_, 1, 1, rfl, wrds_has1 hH (by omega) (by omega), (Below.refl _ _).alloc (Nat.le_refl _) _, fun b hb => by obtain ⟨_, off, e⟩ := hb; cases e; exact Nat.le_refl _⟩
set_option maxRecDepth 100000 in
theorem pwhole_any (a : Int) (w : World) (ha : 0 ≤ a) (hab : a ≤ 4294967295) :
    Calls Try.prog 38 #[.int .i64 a] w (RatPost w a) := by
  have f1 : ¬ a < 0 := by omega
  go_enter Try.func38, Try.ntmps38
  have hb0 : Below w.heap.size w (w.alloc (.cells #[.bool false, .slice none 0 0, .slice none 0 0] 74)) := (Below.refl _ _).alloc (Nat.le_refl _) _
  have hz0 : w.heap.size < (w.alloc (.cells #[.bool false, .slice none 0 0, .slice none 0 0] 74)).heap.size := by simp
  have hH0 := Has.new w 74 #[.bool false, .slice none 0 0, .slice none 0 0]
  generalize hW : World.alloc w _ = W0 at hb0 hH0 hz0
  go_wp2_with fail
  try rw [hW]
  clear hW
  refine (psize_any a W0 ha (by omega)).mono ?_
  rintro e w' ⟨rfl, rfl⟩
  go_wp2_with fail
  refine (nof_any a W0 ha hab).mono ?_
  rintro e w1 ⟨A1, n1, c1, rfl, h1, hb1, hf1⟩
  have hf1' := hide hf1
  clear hf1
  go_wp2_with fail
  refine (one_any w1).mono ?_
  rintro e w2 ⟨A2, n2, c2, rfl, h2, hb2, hf2⟩
  have hf2' := hide hf2
  clear hf2
  have hb12 := Below_trans' hb1 hb1.size hb2
  have hb02 := Below_trans' hb0 hb0.size hb12
  have hz1 := Nat.lt_of_lt_of_le hz0 hb1.size
  have hH3 := hH0.below hb12 hH0.lt
  have q1 := hH3.cell 0
  have q2 := hH3.cell 1
  have q3 := hH3.cell 2
  have p1 := hH3.free 0
  have p2 := hH3.free 1
  have p3 := hH3.free 2
  go_wp2
  have k := frame3 w2 w.heap.size (.bool false) (.slice A1 n1 c1) (.slice A2 n2 c2)
  have g1 : ∀ b, fpS A1 n1 b → w.heap.size < b := fun b hb => Nat.lt_of_lt_of_le hz0 (hf1'.out b hb)
  have g2 : ∀ b, fpS A2 n2 b → w.heap.size < b := fun b hb => Nat.lt_of_lt_of_le hz1 (hf2'.out b hb)
  refine retRatEnd rfl rfl (put3 hH3) rfl rfl ⟨A1, n1, c1, A2, n2, c2, rfl, (h1.below hb2).frame k fun b hb e => ?_, h2.frame k fun b hb e => ?_, below3 hb02 (Nat.le_refl _) _ _ _, fun b hb => ?_⟩
  · have := g1 b hb; omega
  · have := g2 b hb; omega
  · rcases hb with hb | hb
    · have := g1 b hb; omega
    · have := g2 b hb; omega
end Go.Proofs.Ytiebfalodelclaa
