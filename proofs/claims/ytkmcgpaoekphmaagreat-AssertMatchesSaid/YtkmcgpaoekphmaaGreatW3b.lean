/-
  Numbers of one word: made, trimmed, added, subtracted, halved.
  Numbers of one word: made, added, subtracted, halved.
  The reference's Gcd and Div at a number of one word and one; ratios of whole numbers.
-/
import Derived.Test.YtkmcgpaoekphmaaGreatW3a
import Derived.Test.YtkmcgpaoekphmaaGreatAgg
import Derived.Test.YtkmcgpaoekphmaaGreatQTail
namespace Go.Proofs.YtkmcgpaoekphmaaGreat
open Go.RowKit Go.Proofs
attribute [local go_sem] cell?_more cell?_alloc_some cell?_setCell_far frozen?_alloc_some frozen?_more
theorem run_appWrds (w : World) (ty : TypeId) {base : Nat} {v : Value} {xs : List Int} (hown : OwnW w base v xs) {A : Option Addr} {n c : Nat} {ys : List Int} (hr : RWrds w A n c ys) (hn : xs.length + n ≤ 1000000) (hbase : base ≤ w.heap.size) :
    ∃ v' w', (Builtin.append_ #[54, 54] ty #[v, .slice A n c]).run Tryz.prog w = .ok v' w' ∧ OwnW w' base v' (xs ++ ys) ∧ w.grownBy w' v.ownBlock ∧ (v'.ownBlock = v.ownBlock ∨ v'.ownBlock = some w.heap.size) := by
  obtain ⟨i0, hi, hz0, hz1, hz2⟩ := info_parts infoU
  obtain ⟨v', w', h1, h2, h3, h4⟩ := run_appU w base 54 ty 144 i0 (.int .u32 0) 1 4 Tryz.underlying54 hi hz0 hz1 hz2 rfl (by decide) v xs.length _ hown A n c (ys.map (Value.int .u32)) (by simp [hr.len]) (fun e => by
    by_cases h0 : 0 < n
    · obtain ⟨b, off, e', _⟩ := hr.2.2.2.2 h0; rw [e] at e'; cases e'
    · omega) (fun a e j u hj => by
    have hjn : j < n := by
      have := (List.getElem?_eq_some_iff.1 hj).1
      rw [List.length_map, hr.len] at this; exact this
    obtain ⟨b, off, e', hc⟩ := hr.2.2.2.2 (by omega)
    rw [e] at e'
    cases e'
    have hadd : (⟨b, off, none⟩ : Addr).add j = ⟨b, off + j, none⟩ := by unfold Addr.add; split <;> simp_all
    rw [hadd, hc j hjn]
    rw [List.getElem?_map] at hj
    have hjl : j < ys.length := by rw [hr.len]; exact hjn
    rw [List.getElem?_eq_getElem hjl] at hj
    simp at hj
    simp [List.getD, hjl, hj]) (fun u hu => by obtain ⟨y, _, rfl⟩ := List.mem_map.1 hu; rfl) (by unfold maxLen; omega) (by omega) hbase
  exact ⟨v', w', h1, by unfold OwnW; simpa [hr.len] using h2, h3, h4⟩

/-- What hands back a number. -/
def WPost (w : World) (xs : List Int) (e : Ending) (w' : World) : Prop := ∃ A n c, e = .returned (.slice A n c) ∧ RWrds w' A n c xs ∧ Below w.heap.size w w'
/-- .. in a block of its own. -/
def WPostF (w : World) (xs : List Int) (e : Ending) (w' : World) : Prop := ∃ A n c, e = .returned (.slice A n c) ∧ RWrds w' A n c xs ∧ Below w.heap.size w w' ∧ ∀ b, fpS A n b → w.heap.size ≤ b
theorem OwnW.new {w : World} {B n c : Nat} {A : Option Addr} {xs : List Int} (h : OwnW w B (.slice A n c) xs) : ∀ b, fpS A n b → B ≤ b := fun b hb => by
  obtain ⟨hn, off, e⟩ := hb
  rcases h.2 with ⟨e', h0⟩ | ⟨g, cap, cur, e', hb, r⟩
  · cases e'; omega
  · cases e'; cases e; exact hb

end Go.Proofs.YtkmcgpaoekphmaaGreat

namespace Go.Proofs.YtkmcgpaoekphmaaGreat
open Go.RowKit Go.Proofs
attribute [local go_sem] cell?_more cell?_alloc_some cell?_setCell_far frozen?_alloc_some frozen?_more
theorem OwnW.out {w w' : World} {v : Value} {xs : List Int} (h : OwnW w' w.heap.size v xs) (hx : ∀ x ∈ xs, 0 ≤ x ∧ x ≤ 4294967295) (hb : Below w.heap.size w w') : WPost w xs (.returned v) w' := by
  obtain ⟨A, c, rfl⟩ := h.slice
  exact ⟨A, xs.length, c, rfl, h.wrds hx, hb⟩
theorem lm_bd {a : Int} (h0 : 0 ≤ a) (h1 : a ≤ 4294967295) : ∀ x ∈ lm a, 0 ≤ x ∧ x ≤ 4294967295 := by
  intro x hx
  unfold lm at hx
  split at hx
  · simp at hx
  · simp at hx; omega

theorem RWrds.more {w : World} {A : Option Addr} {n c : Nat} {xs : List Int} (h : RWrds w A n c xs) (q : Ext) : RWrds (More w q) A n c xs := h.below (more_below w q)
theorem wrds_has1 {w : World} {g : Nat} {t : TypeId} {x : Int} (h : Has w g t #[.int .u32 x]) (h0 : 0 ≤ x) (h1 : x ≤ 4294967295) : RWrds w (some ⟨g, 0, none⟩) 1 1 [x] :=
  ⟨rfl, Nat.le_refl _, by omega, by intro y hy; simp at hy; omega, fun _ => ⟨g, 0, rfl, fun i hi => by
    obtain rfl : i = 0 := by omega
    exact h.cell 0⟩⟩
end Go.Proofs.YtkmcgpaoekphmaaGreat

namespace Go.Proofs.YtkmcgpaoekphmaaGreat
open Go.RowKit Go.Proofs
attribute [local go_sem] cell?_more cell?_alloc_some cell?_setCell_far frozen?_alloc_some frozen?_more
/-- The number that a slice of one word holds. -/
def wval (w : World) : Value → Nat
  | .slice (some a) (_ + 1) _ => match w.cell? a with | some (.int _ v) => v.toNat | _ => 0
  | _ => 0
theorem wval_zero {w : World} {A : Option Addr} {n c : Nat} (h : RWrds w A n c (lm 0)) : wval w (.slice A n c) = 0 := by
  have hl := h.len
  rw [lm_zero] at hl
  obtain rfl : n = 0 := by simpa using hl.symm
  cases A <;> rfl
theorem wval_of {w : World} {A : Option Addr} {n c : Nat} {v : Int} (h : RWrds w A n c (lm v)) : wval w (.slice A n c) = v.toNat := by
  by_cases h0 : v = 0
  · subst h0; exact wval_zero h
  · rw [lm_pos h0] at h
    obtain rfl : n = 1 := by have := h.len; simpa using this.symm
    obtain ⟨b, off, u, rfl, hc, _, hat, _⟩ := h.step (show 0 < 1 by omega)
    obtain rfl : v = u := by simpa using hat.out
    simp only [Nat.add_zero] at hc
    simp only [wval, hc]

theorem RWrds.empty {w : World} {A : Option Addr} {n c : Nat} (h : RWrds w A n c (lm 0)) (w' : World) : RWrds w' A n c (lm 0) :=
  ⟨h.1, h.2.1, h.2.2.1, h.2.2.2.1, fun hn => absurd hn (by have := h.1; rw [lm_zero] at this; simp at this; omega)⟩
theorem pow_bits (a : Int) (j : Nat) : a / 2 ^ (j + 1) * 2 ^ (j + 1) + a / 2 ^ j % 2 * 2 ^ j = a / 2 ^ j * 2 ^ j := by
  have e : a / 2 ^ (j + 1) = a / 2 ^ j / 2 := by
    have h1 : (0 : Int) ≤ 2 ^ j := Int.pow_nonneg (by omega)
    rw [Int.pow_succ, ← Int.ediv_ediv_of_nonneg h1]
  rw [e]
  generalize a / 2 ^ j = q
  rw [Int.pow_succ]
  generalize (2 : Int) ^ j = m
  have h := Int.mul_ediv_add_emod q 2
  generalize q / 2 = d at *
  generalize q % 2 = r at *
  subst h
  rw [Int.add_mul, Int.mul_comm 2 d, Int.mul_assoc, Int.mul_comm m 2]
theorem pow_zero_bit {a : Int} {j : Nat} (h : ¬ a / 2 ^ j % 2 = 1) : a / 2 ^ (j + 1) * 2 ^ (j + 1) = a / 2 ^ j * 2 ^ j := by
  have := pow_bits a j
  have h0 : a / 2 ^ j % 2 = 0 := by omega
  rw [h0] at this
  simpa using this
theorem pow_one_bit {a : Int} {j : Nat} (h : a / 2 ^ j % 2 = 1) : a / 2 ^ (j + 1) * 2 ^ (j + 1) + 2 ^ j = a / 2 ^ j * 2 ^ j := by
  have := pow_bits a j
  rw [h] at this
  simpa using this
theorem pow_le {a : Int} {j : Nat} (ha : 0 ≤ a) : 0 ≤ a / 2 ^ j * 2 ^ j ∧ a / 2 ^ j * 2 ^ j ≤ a := by
  have h1 : (0 : Int) ≤ 2 ^ j := Int.pow_nonneg (by omega)
  exact ⟨Int.mul_nonneg (Int.ediv_nonneg ha h1) h1, Int.ediv_mul_le a (by have := Int.pow_pos (n := 2) (m := j) (by omega); omega)⟩

theorem infoRat : (Tryz.prog.info? 56).map (fun i => (i.zero, i.size, i.bytes)) = some (some (.agg #[.bool false, .slice none 0 0, .slice none 0 0]), 3, 56) := by kernel_rfl
theorem sizeRat : (Tryz.prog.info? 56).map (·.size) = some 3 := by kernel_rfl
/-- A function hands back a ratio that lies in its result's variable. -/
theorem retRat {fn : Func} {R : Ending → World → Prop} {a : Act} {w : World} {p g : Nat} {C : Array Value} (hr : fn.results = #[.cell p 56]) (hp : a.tmps.getD p undef = .pointer (some ⟨g, 0, none⟩))
    (hg : Has w g 56 C) (hs : C.size = 3) (hd : a.defers = []) (hR : R (.returned (.agg C)) w) : bodyPost Tryz.prog fn R .ret a w :=
  bodyPost_ret (results_cell_row hr _ _ g _ C _ _ hp hg Tryz.underlying56 rfl (sizeRat.trans (by rw [hs]))) hd hR
theorem retRatEnd {fn : Func} {R : Ending → World → Prop} {a : Act} {w : World} {p g : Nat} {C : Array Value} (hr : fn.results = #[.cell p 56]) (hp : a.tmps.getD p undef = .pointer (some ⟨g, 0, none⟩))
    (hg : Has w g 56 C) (hs : C.size = 3) (hd : a.defers = []) (hR : R (.returned (.agg C)) w) : bodyPost Tryz.prog fn R .normal a w :=
  bodyPost_end (results_cell_row hr _ _ g _ C _ _ hp hg Tryz.underlying56 rfl (sizeRat.trans (by rw [hs]))) hd hR

/-- What hands back the whole number a as a ratio. -/
def RatPost (w : World) (a : Int) (e : Ending) (w' : World) : Prop := ∃ A n c A' n' c', e = .returned (.agg #[.bool false, .slice A n c, .slice A' n' c']) ∧ RWrds w' A n c (lm a) ∧ RWrds w' A' n' c' [1] ∧ Below w.heap.size w w' ∧ ∀ b, fpS A n b ∨ fpS A' n' b → w.heap.size ≤ b
theorem RWrds.frame {S : Nat → Prop} {w w' : World} {A : Option Addr} {n c : Nat} {xs : List Int} (h : RWrds w A n c xs) (k : Frame' S w w') (hS : ∀ b, fpS A n b → ¬ S b) : RWrds w' A n c xs := (h.on.frame k hS).get
theorem retRat2 {fn : Func} {R : Ending → World → Prop} {a : Act} {w : World} {p q g : Nat} {C : Array Value} {v : Value} (hr : fn.results = #[.cell p 56, .tmp q]) (hp : a.tmps.getD p undef = .pointer (some ⟨g, 0, none⟩))
    (hq : a.tmps.getD q undef = v) (hg : Has w g 56 C) (hs : C.size = 3) (hd : a.defers = []) (hR : R (.returned (.tuple #[.agg C, v])) w) : bodyPost Tryz.prog fn R .ret a w := by
  have hl := run_loadVar_row (P := Tryz.prog) w g _ 56 C (0, 0) _ hg Tryz.underlying56 rfl (sizeRat.trans (by rw [hs]))
  refine bodyPost_ret (v := .tuple #[.agg C, v]) ?_ hd hR
  have hp' : a.tmps[p]?.getD undef = .pointer (some ⟨g, 0, none⟩) := by simpa using hp
  have hq' : a.tmps[q]?.getD undef = v := by simpa using hq
  simp [results, hr, hp', hq', asAddr, hl]
def RatPost2 (w : World) (a : Int) (e : Ending) (w' : World) : Prop := ∃ A n c A' n' c', e = .returned (.tuple #[.agg #[.bool false, .slice A n c, .slice A' n' c'], .int .i64 0]) ∧ RWrds w' A n c (lm a) ∧ RWrds w' A' n' c' [1] ∧ Below w.heap.size w w' ∧ ∀ b, fpS A n b ∨ fpS A' n' b → w.heap.size ≤ b
end Go.Proofs.YtkmcgpaoekphmaaGreat
