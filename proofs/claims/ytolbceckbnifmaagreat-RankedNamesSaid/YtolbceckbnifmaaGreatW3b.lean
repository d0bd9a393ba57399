/-
  Numbers of one word: made, trimmed, added, subtracted, halved.
  Numbers of one word: made, added, subtracted, halved.
  The reference's Gcd and Div at a number of one word and one; ratios of whole numbers.
-/
import Derived.Test.YtolbceckbnifmaaGreatW3a
import Derived.Test.YtolbceckbnifmaaGreatAgg
import Derived.Test.YtolbceckbnifmaaGreatQTail
namespace Go.Proofs.YtolbceckbnifmaaGreat
open Go.RowKit Go.Proofs
attribute [local go_sem] cell?_more cell?_alloc_some cell?_setCell_far frozen?_alloc_some frozen?_more
theorem run_appWrds (w : World) (ty : TypeId) {base : Nat} {v : Value} {xs : List Int} (hown : OwnW w base v xs) {A : Option Addr} {n c : Nat} {ys : List Int} (hr : RWrds w A n c ys) (hn : xs.length + n ≤ 1000000) (hbase : base ≤ w.heap.size) :
    ∃ v' w', (Builtin.append_ #[61, 61] ty #[v, .slice A n c]).run Tryz.prog w = .ok v' w' ∧ OwnW w' base v' (xs ++ ys) ∧ w.grownBy w' v.ownBlock ∧ (v'.ownBlock = v.ownBlock ∨ v'.ownBlock = some w.heap.size) := by
  obtain ⟨i0, hi, hz0, hz1, hz2⟩ := info_parts infoU
  obtain ⟨v', w', h1, h2, h3, h4⟩ := run_appU w base 61 ty 150 i0 (.int .u32 0) 1 4 Tryz.underlying61 hi hz0 hz1 hz2 rfl (by decide) v xs.length _ hown A n c (ys.map (Value.int .u32)) (by simp [hr.len]) (fun e => by
    by_cases h0 : 0 < n
    · obtain ⟨b, off, e', _⟩ := hr.2.2.2.2 h0; rw [e] at e'; cases e'
    · omega) (fun a e j u hj => by
    have hjn : j < n := by
      have := (List.getElem?_eq_some_iff.1 hj).1
      rw [List.length_map, hr.len] at this; exact this
    obtain ⟨b, off, e', hc⟩ := hr.2.2.2.2 (by omega)
    rw [e] at e'
    cases e'
    have hadd : (⟨b, off, none⟩ : Addr).add j = ⟨b, off + j, none⟩ := by unfold Addr.add; split <;> simp_all
    rw [hadd, hc j hjn]
    rw [List.getElem?_map] at hj
    have hjl : j < ys.length := by rw [hr.len]; exact hjn
    rw [List.getElem?_eq_getElem hjl] at hj
    simp at hj
    simp [List.getD, hjl, hj]) (fun u hu => by obtain ⟨y, _, rfl⟩ := List.mem_map.1 hu; rfl) (by unfold maxLen; omega) (by omega) hbase
  exact ⟨v', w', h1, by unfold OwnW; simpa [hr.len] using h2, h3, h4⟩

/-- What hands back a number. -/
def WPost (w : World) (xs : List Int) (e : Ending) (w' : World) : Prop := ∃ A n c, e = .returned (.slice A n c) ∧ RWrds w' A n c xs ∧ Below w.heap.size w w'
/-- .. in a block of its own. -/
def WPostF (w : World) (xs : List Int) (e : Ending) (w' : World) : Prop := ∃ A n c, e = .returned (.slice A n c) ∧ RWrds w' A n c xs ∧ Below w.heap.size w w' ∧ ∀ b, fpS A n b → w.heap.size ≤ b
theorem OwnW.new {w : World} {B n c : Nat} {A : Option Addr} {xs : List Int} (h : OwnW w B (.slice A n c) xs) : ∀ b, fpS A n b → B ≤ b := fun b hb => by
  obtain ⟨hn, off, e⟩ := hb
  rcases h.2 with ⟨e', h0⟩ | ⟨g, cap, cur, e', hb, r⟩
  · cases e'; omega
  · cases e'; cases e; exact hb

set_option maxRecDepth 100000 in
set_option maxHeartbeats 1000000 in
theorem trim_fresh (A : Option Addr) (n c : Nat) (a : Int) (xs : List Int) (w : World) (h : RWrds w A n c xs) (hx : (xs = [] ∧ a = 0) ∨ xs = [a]) :
    Calls Tryz.prog 155 #[.slice A n c] w (WPostF w (lm a)) := by
  have hl := h.len
  have hn1 : n ≤ 1 := by rcases hx with ⟨e, _⟩ | e <;> (rw [e] at hl; simp at hl; omega)
  have hbz : Below w.heap.size w (w.alloc (.cells #[] 150)) := (Below.refl _ _).alloc (Nat.le_refl _) _
  have hOz : OwnW (w.alloc (.cells #[] 150)) w.heap.size (.slice (some ⟨w.heap.size, 0, none⟩) 0 0) [] := World.ownsRow_made w #[] 0 (Nat.le_refl _) (by unfold maxLen; omega) rfl
  obtain ⟨v4, w4, h41, h42, h43, _⟩ := run_appWrds _ 61 hOz (h.below hbz) (by simp; omega) (by simp)
  rw [List.nil_append] at h42
  have hb4 : Below w.heap.size w w4 := hbz.grown h43 (by simp) (fun k hk => by cases hk; exact Nat.le_refl _)
  obtain ⟨A4, c4, rfl⟩ := h42.slice
  have hr4 := h42.wrds (fun x hx => h.bd hx)
  have hf4 := hide h42.new
  rw [hl] at hr4 h41 hf4
  clear h42 h43 hOz hbz
  go_enter Tryz.func155, Tryz.ntmps155
  go_wp2_with (at_builtin; refine list_app rfl rfl rfl rfl h41 ?_)
  clear h41
  rcases hx with ⟨rfl, rfl⟩ | rfl
  · obtain rfl : n = 0 := by simpa using hl.symm
    go_loopw [3] (fun o wr => o = .slice A4 0 c4 ∧ wr = w4) (fun _ _ => 0)
    case atStart => exact ⟨rfl, rfl⟩
    case round =>
      obtain ⟨rfl, rfl⟩ := hrel
      go_wp2
      go_ret
      exact ⟨A4, 0, c4, rfl, hr4, hb4, hf4.out⟩
  · obtain rfl : n = 1 := by simpa using hl.symm
    obtain ⟨b, off, v, rfl, hc, _, hat, _⟩ := hr4.step (show 0 < 1 by omega)
    obtain rfl : a = v := by simpa using hat.out
    simp only [Nat.add_zero] at hc
    have hc41 : 1 ≤ c4 := hr4.2.1
    have hcm : c4 ≤ 9223372036854775807 := hr4.2.2.1
    clear hat
    by_cases ha : a = 0
    · subst ha
      go_loopw [3] (fun o wr => ((o = .slice (some ⟨b, off, none⟩) 1 c4) ∨ ∃ A5 c5, o = .slice A5 0 c5 ∧ c5 ≤ 9223372036854775807) ∧ wr = w4) (fun o _ => match o with | .slice _ k _ => k | _ => 0)
      case atStart => exact ⟨.inl rfl, rfl⟩
      case round =>
        obtain ⟨ho, rfl⟩ := hrel
        rcases ho with rfl | ⟨A5, c5, rfl, h5⟩
        · go_wp2
          go_roundw
          case rel => exact ⟨.inr ⟨_, _, rfl, by omega⟩, by first | rfl | trivial⟩
          case measure => simp
        · go_wp2
          go_ret
          exact ⟨A5, 0, c5, rfl, ⟨rfl, Nat.zero_le _, h5, fun x hx => by simp [lm] at hx, fun h => absurd h (by omega)⟩, hb4, fun b hb => absurd hb.1 (by omega)⟩
    · have e1 : (a == 0) = false := by simpa using ha
      go_loopw [3] (fun o wr => o = .slice (some ⟨b, off, none⟩) 1 c4 ∧ wr = w4) (fun _ _ => 0)
      case atStart => exact ⟨rfl, rfl⟩
      case round =>
        obtain ⟨rfl, rfl⟩ := hrel
        go_wp2
        go_ret
        exact ⟨_, 1, c4, rfl, by rw [lm_pos ha]; exact hr4, hb4, hf4.out⟩
theorem trim_small (A : Option Addr) (n c : Nat) (a : Int) (xs : List Int) (w : World) (h : RWrds w A n c xs) (hx : (xs = [] ∧ a = 0) ∨ xs = [a]) :
    Calls Tryz.prog 155 #[.slice A n c] w (WPost w (lm a)) :=
  (trim_fresh A n c a xs w h hx).mono fun _ _ ⟨A, n, c, h1, h2, h3, _⟩ => ⟨A, n, c, h1, h2, h3⟩
end Go.Proofs.YtolbceckbnifmaaGreat

namespace Go.Proofs.YtolbceckbnifmaaGreat
open Go.RowKit Go.Proofs
attribute [local go_sem] cell?_more cell?_alloc_some cell?_setCell_far frozen?_alloc_some frozen?_more
theorem OwnW.out {w w' : World} {v : Value} {xs : List Int} (h : OwnW w' w.heap.size v xs) (hx : ∀ x ∈ xs, 0 ≤ x ∧ x ≤ 4294967295) (hb : Below w.heap.size w w') : WPost w xs (.returned v) w' := by
  obtain ⟨A, c, rfl⟩ := h.slice
  exact ⟨A, xs.length, c, rfl, h.wrds hx, hb⟩
theorem lm_bd {a : Int} (h0 : 0 ≤ a) (h1 : a ≤ 4294967295) : ∀ x ∈ lm a, 0 ≤ x ∧ x ≤ 4294967295 := by
  intro x hx
  unfold lm at hx
  split at hx
  · simp at hx
  · simp at hx; omega

set_option maxRecDepth 100000 in
theorem rof_small (a : Int) (w : World) (h0 : 0 ≤ a) (h1 : a ≤ 4294967295) :
    Calls Tryz.prog 111 #[.int .u64 a] w (WPost w (lm a)) := by
  have e1 : Int.tmod a 4294967296 = a := Int.tmod_eq_of_lt h0 (by omega)
  have e2 : Int.tdiv a 4294967296 = 0 := Int.tdiv_eq_zero_of_lt h0 (by omega)
  go_enter Tryz.func111, Tryz.ntmps111
  go_wp2
  go_loopw [0, 3] (fun nv v wr => ∃ xs, OwnW wr w.heap.size v xs ∧ Below w.heap.size w wr ∧ ((nv = .int .u64 a ∧ Hid (xs = [])) ∨ (nv = .int .u64 0 ∧ Hid (xs = [a] ∧ 0 < a)))) (fun nv _ _ => (intOf nv).toNat)
  case atStart => exact ⟨[], OwnW.nil_ _ _, Below.refl _ _, .inl ⟨rfl, rfl⟩⟩
  case round =>
    obtain ⟨xs, hO, hb, hc⟩ := hrel
    have hz := hb.size
    rcases hc with ⟨rfl, hx⟩ | ⟨rfl, hx⟩
    · by_cases ha : 0 < a
      · go_wp2_with (at_builtin; refine appWrd rfl rfl rfl (hO.below ((Below.refl _ _).alloc (Nat.le_refl _) _)) rfl ((Has.new _ _ _).cell 0) (by rw [hx.out]; simp) (by simp; omega) ?_)
        intro v' w' hO' hg
        go_wp2
        go_roundw
        case rel => exact ⟨[a], by rw [hx.out] at hO'; exact hO', (hb.alloc hz _).grown hg (by simp; omega) (fun k hk => (hO.lt k hk).1), .inr ⟨rfl, rfl, ha⟩⟩
        case measure => simp [intOf]; omega
      · go_wp2
        go_ret
        obtain rfl : a = 0 := by omega
        rw [lm_zero]
        have h := hx.out
        subst h
        exact hO.out (by simp) hb
    · go_wp2
      go_ret
      obtain ⟨e, ha⟩ := hx.out
      rw [lm_pos (by omega), ← e]
      exact hO.out (by rw [e]; intro x hx; simp at hx; omega) hb

/-- Trim of a number that is owned. -/
theorem trim_own {B : Nat} {v : Value} {W : World} {a : Int} {xs : List Int} (hO : OwnW W B v xs) (hx : (xs = [] ∧ a = 0) ∨ xs = [a]) (hb : ∀ x ∈ xs, 0 ≤ x ∧ x ≤ 4294967295) : Calls Tryz.prog 155 #[v] W (WPost W (lm a)) := by
  obtain ⟨A, c, rfl⟩ := hO.slice
  exact trim_small A _ c a xs W (hO.wrds hb) hx

set_option maxRecDepth 100000 in
theorem plus_small (A A' : Option Addr) (n c n' c' : Nat) (a b : Int) (w : World) (h : RWrds w A n c (lm a)) (h' : RWrds w A' n' c' (lm b)) (ha : 0 ≤ a) (hb : 0 ≤ b) (hab : a + b ≤ 4294967295) :
    Calls Tryz.prog 159 #[.slice A n c, .slice A' n' c'] w (WPost w (lm (a + b))) := by
  have hl := h.len
  have hl' := h'.len
  have e1 : Int.tmod (a + b) 4294967296 = a + b := Int.tmod_eq_of_lt (by omega) (by omega)
  have e2 : Int.tdiv (a + b) 4294967296 = 0 := Int.tdiv_eq_zero_of_lt (by omega) (by omega)
  have hn : n = if a = 0 then 0 else 1 := by rw [← hl]; unfold lm; split <;> rfl
  have hn' : n' = if b = 0 then 0 else 1 := by rw [← hl']; unfold lm; split <;> rfl
  have b0 : n ≤ 1 := by rw [hn]; split <;> omega
  have b1 : n' ≤ 1 := by rw [hn']; split <;> omega
  have b2 : 0 < a + b → 0 < n ∨ 0 < n' := by rw [hn, hn']; intro h; split <;> split <;> omega
  have b3 : ¬ 0 < a + b → n = 0 ∧ n' = 0 := by rw [hn, hn']; intro h; split <;> split <;> omega
  have g1 : (lm a).getD 0 0 = a := by unfold lm; split <;> simp_all
  have g2 : (lm b).getD 0 0 = b := by unfold lm; split <;> simp_all
  have B2 := hide b2
  have B3 := hide b3
  have HN := hide hn
  have HN' := hide hn'
  clear hn hn' b2 b3 hl hl'
  go_enter Tryz.func159, Tryz.ntmps159
  go_wp2
  go_loopw [5, 6, 7] (fun v cy i wr => ∃ xs, OwnW wr w.heap.size v xs ∧ Below w.heap.size w wr ∧ cy = .int .u64 0 ∧ ((i = .int .i64 0 ∧ Hid (xs = [])) ∨ (i = .int .i64 1 ∧ Hid (xs = [a + b] ∧ 0 < a + b)))) (fun _ _ i _ => (1 - intOf i).toNat)
  case atStart => exact ⟨[], OwnW.nil_ _ _, Below.refl _ _, rfl, .inl ⟨rfl, rfl⟩⟩
  case round =>
    obtain ⟨xs, hO, hb', rfl, hc⟩ := hrel
    have hz := hb'.size
    rcases hc with ⟨rfl, hx⟩ | ⟨rfl, hx⟩
    · by_cases hs : 0 < a + b
      · have c1 := at_val A n c (lm a) 0 wr (h.below hb') g1
        have c2 := at_val A' n' c' (lm b) 0 wr (h'.below hb') g2
        by_cases hn0 : 0 < n
        · have f1 : (0 : Int) < (n : Int) := by omega
          go_wp2_with fail
          refine c1.mono ?_
          rintro e w' ⟨rfl, rfl⟩
          go_wp2_with fail
          refine c2.mono ?_
          rintro e w' ⟨rfl, rfl⟩
          go_wp2_with (at_builtin; refine appWrd rfl rfl rfl (hO.below ((Below.refl _ _).alloc (Nat.le_refl _) _)) rfl ((Has.new _ _ _).cell 0) (by rw [hx.out]; simp) (by simp; omega) ?_)
          intro v' w' hO' hg
          go_wp2
          go_roundw
          case rel => exact ⟨[a + b], by rw [hx.out] at hO'; exact hO', (hb'.alloc hz _).grown hg (by simp; omega) (fun k hk => (hO.lt k hk).1), rfl, .inr ⟨rfl, rfl, hs⟩⟩
          case measure => simp [intOf]
        · have f1 : ¬ (0 : Int) < (n : Int) := by omega
          have f2 : (0 : Int) < (n' : Int) := by have := B2.out hs; omega
          go_wp2_with fail
          refine c1.mono ?_
          rintro e w' ⟨rfl, rfl⟩
          go_wp2_with fail
          refine c2.mono ?_
          rintro e w' ⟨rfl, rfl⟩
          go_wp2_with (at_builtin; refine appWrd rfl rfl rfl (hO.below ((Below.refl _ _).alloc (Nat.le_refl _) _)) rfl ((Has.new _ _ _).cell 0) (by rw [hx.out]; simp) (by simp; omega) ?_)
          intro v' w' hO' hg
          go_wp2
          go_roundw
          case rel => exact ⟨[a + b], by rw [hx.out] at hO'; exact hO', (hb'.alloc hz _).grown hg (by simp; omega) (fun k hk => (hO.lt k hk).1), rfl, .inr ⟨rfl, rfl, hs⟩⟩
          case measure => simp [intOf]
      · obtain ⟨hn0, hn1⟩ := B3.out (by omega)
        have f1 : ¬ (0 : Int) < (n : Int) := by omega
        have f2 : ¬ (0 : Int) < (n' : Int) := by omega
        have ht := trim_own (a := a + b) hO (.inl ⟨hx.out, by omega⟩) (by rw [hx.out]; simp)
        go_wp2_with fail
        refine ht.mono ?_
        rintro e w' ⟨A5, n5, c5, rfl, h5, hb5⟩
        go_wp2
        go_ret
        exact ⟨A5, n5, c5, rfl, h5, Below_trans' hb' hb'.size hb5⟩
    · obtain ⟨f3, hs⟩ := hx.out
      have f1 : ¬ (1 : Int) < (n : Int) := by omega
      have f2 : ¬ (1 : Int) < (n' : Int) := by omega
      have ht := trim_own (a := a + b) hO (.inr f3) (by rw [f3]; intro x hx; simp at hx; omega)
      clear f3
      go_wp2_with fail
      refine ht.mono ?_
      rintro e w' ⟨A5, n5, c5, rfl, h5, hb5⟩
      go_wp2
      go_ret
      exact ⟨A5, n5, c5, rfl, h5, Below_trans' hb' hb'.size hb5⟩
set_option maxRecDepth 100000 in
theorem minus_small (A A' : Option Addr) (n c n' c' : Nat) (a b : Int) (w : World) (h : RWrds w A n c (lm a)) (h' : RWrds w A' n' c' (lm b)) (ha : b ≤ a) (hb : 0 ≤ b) (hab : a ≤ 4294967295) :
    Calls Tryz.prog 158 #[.slice A n c, .slice A' n' c'] w (WPost w (lm (a - b))) := by
  have hl := h.len
  have hl' := h'.len
  have e1 : Int.tmod (a + 4294967296 - b) 4294967296 = a - b := by
    rw [Int.tmod_eq_emod_of_nonneg (by omega)]; omega
  have e2 : Int.tdiv (a + 4294967296 - b) 4294967296 = 1 := by
    rw [Int.tdiv_eq_ediv_of_nonneg (by omega)]; omega
  have hn : n = if a = 0 then 0 else 1 := by rw [← hl]; unfold lm; split <;> rfl
  have b0 : n ≤ 1 := by rw [hn]; split <;> omega
  have b2 : 0 < a → 0 < n := by rw [hn]; intro h; split <;> omega
  have b3 : a ≤ 0 → n = 0 := by rw [hn]; intro h; split <;> omega
  have g1 : (lm a).getD 0 0 = a := by unfold lm; split <;> simp_all
  have g2 : (lm b).getD 0 0 = b := by unfold lm; split <;> simp_all
  have B2 := hide b2
  have B3 := hide b3
  clear hn b2 b3 hl hl'
  go_enter Tryz.func158, Tryz.ntmps158
  go_wp2
  go_loopw [5, 6, 7] (fun v cy i wr => ∃ xs, OwnW wr w.heap.size v xs ∧ Below w.heap.size w wr ∧ cy = .int .u64 0 ∧ ((i = .int .i64 0 ∧ Hid (xs = [])) ∨ (i = .int .i64 1 ∧ Hid (xs = [a - b] ∧ 0 < a)))) (fun _ _ i _ => (1 - intOf i).toNat)
  case atStart => exact ⟨[], OwnW.nil_ _ _, Below.refl _ _, rfl, .inl ⟨rfl, rfl⟩⟩
  case round =>
    obtain ⟨xs, hO, hb', rfl, hc⟩ := hrel
    have hz := hb'.size
    rcases hc with ⟨rfl, hx⟩ | ⟨rfl, hx⟩
    · by_cases hs : 0 < a
      · have c1 := at_val A n c (lm a) 0 wr (h.below hb') g1
        have c2 := at_val A' n' c' (lm b) 0 wr (h'.below hb') g2
        have f1 : (0 : Int) < (n : Int) := by have := B2.out hs; omega
        go_wp2_with fail
        refine c1.mono ?_
        rintro e w' ⟨rfl, rfl⟩
        go_wp2_with fail
        refine c2.mono ?_
        rintro e w' ⟨rfl, rfl⟩
        go_wp2_with (at_builtin; refine appWrd rfl rfl rfl (hO.below ((Below.refl _ _).alloc (Nat.le_refl _) _)) rfl ((Has.new _ _ _).cell 0) (by rw [hx.out]; simp) (by simp; omega) ?_)
        intro v' w' hO' hg
        go_wp2
        go_roundw
        case rel => exact ⟨[a - b], by rw [hx.out] at hO'; exact hO', (hb'.alloc hz _).grown hg (by simp; omega) (fun k hk => (hO.lt k hk).1), rfl, .inr ⟨rfl, rfl, hs⟩⟩
        case measure => simp [intOf]
      · have hn0 := B3.out (by omega)
        have f1 : ¬ (0 : Int) < (n : Int) := by omega
        have ht := trim_own (a := a - b) hO (.inl ⟨hx.out, by omega⟩) (by rw [hx.out]; simp)
        go_wp2_with fail
        refine ht.mono ?_
        rintro e w' ⟨A5, n5, c5, rfl, h5, hb5⟩
        go_wp2
        go_ret
        exact ⟨A5, n5, c5, rfl, h5, Below_trans' hb' hb'.size hb5⟩
    · obtain ⟨f3, hs⟩ := hx.out
      have f1 : ¬ (1 : Int) < (n : Int) := by omega
      have ht := trim_own (a := a - b) hO (.inr f3) (by rw [f3]; intro x hx; simp at hx; omega)
      clear f3
      go_wp2_with fail
      refine ht.mono ?_
      rintro e w' ⟨A5, n5, c5, rfl, h5, hb5⟩
      go_wp2
      go_ret
      exact ⟨A5, n5, c5, rfl, h5, Below_trans' hb' hb'.size hb5⟩
theorem RWrds.more {w : World} {A : Option Addr} {n c : Nat} {xs : List Int} (h : RWrds w A n c xs) (q : Ext) : RWrds (More w q) A n c xs := h.below (more_below w q)
theorem wrds_has1 {w : World} {g : Nat} {t : TypeId} {x : Int} (h : Has w g t #[.int .u32 x]) (h0 : 0 ≤ x) (h1 : x ≤ 4294967295) : RWrds w (some ⟨g, 0, none⟩) 1 1 [x] :=
  ⟨rfl, Nat.le_refl _, by omega, by intro y hy; simp at hy; omega, fun _ => ⟨g, 0, rfl, fun i hi => by
    obtain rfl : i = 0 := by omega
    exact h.cell 0⟩⟩
set_option maxRecDepth 100000 in
theorem half_small (A : Option Addr) (n c : Nat) (a : Int) (w : World) (h : RWrds w A n c (lm a)) (ha : 0 ≤ a) (hab : a ≤ 4294967295) :
    Calls Tryz.prog 156 #[.slice A n c] w (WPost w (lm (a / 2))) := by
  have hl := h.len
  have hn1 : n ≤ 1 := by have := lm_len a; omega
  have hmk := run_make_row' (P := Tryz.prog) 61 150 (.int .u32 0) 4 Tryz.underlying61 infoU rfl .i64 .i64 n (by omega) (by omega)
  by_cases h0 : a = 0
  · subst h0
    have hn0 : n = 0 := by simpa [lm] using hl.symm
    have f1 : ¬ (0 : Int) < (n : Int) := by omega
    have hb0 : Below w.heap.size w (w.alloc (.cells (madeCells #[.int .u32 0] n) 150)) := (Below.refl _ _).alloc (Nat.le_refl _) _
    have ht := trim_small (some ⟨w.heap.size, 0, none⟩) n n 0 [] (w.alloc (.cells (madeCells #[.int .u32 0] n) 150)) ⟨hn0.symm, Nat.le_refl _, by omega, by simp, fun h => absurd h (by omega)⟩ (.inl ⟨rfl, rfl⟩)
    clear hn0 hl hn1
    go_enter Tryz.func156, Tryz.ntmps156
    go_wp2
    go_loopw [4] (fun i wr => i = .int .i64 0 ∧ wr = w.alloc (.cells (madeCells #[.int .u32 0] n) 150)) (fun _ _ => 0)
    case atStart => exact ⟨by go_num, rfl⟩
    case round =>
      obtain ⟨rfl, rfl⟩ := hrel
      go_wp2_with fail
      refine ht.mono ?_
      rintro e w' ⟨A5, n5, c5, rfl, h5, hb5⟩
      go_wp2
      go_ret
      exact ⟨A5, n5, c5, rfl, h5, Below_trans' hb0 hb0.size hb5⟩
  · rw [lm_pos h0] at h hl
    have hn0 : n = 1 := by simpa using hl.symm
    obtain ⟨b, off, u, rfl, hc, _, hat, _⟩ := h.step (show 0 < n by omega)
    obtain rfl : a = u := by simpa using hat.out
    simp only [Nat.add_zero] at hc
    clear hat
    have e1 : Int.tdiv a 2 = a / 2 := Int.tdiv_eq_ediv_of_nonneg (by omega)
    have f1 : (0 : Int) < (n : Int) := by omega
    have f2 : ¬ (1 : Int) < (n : Int) := by omega
    have hN0 := hide hn0
    have hnew : Has (w.alloc (.cells (madeCells #[.int .u32 0] n) 150)) w.heap.size 150 #[.int .u32 0] := by
      have h2 := Has.new w 150 (madeCells #[.int .u32 0] n)
      have e : madeCells #[Value.int .u32 0] n = #[Value.int .u32 0] := by rw [hN0.out]; apply Array.toList_inj.1; rw [toList_madeCells_one]; rfl
      rw [e] at h2 ⊢
      exact h2
    clear hn0 hl hn1
    go_enter Tryz.func156, Tryz.ntmps156
    go_wp2
    go_loopw [4] (fun i wr => Below w.heap.size w wr ∧ ((i = .int .i64 0 ∧ Has wr w.heap.size 150 #[.int .u32 0]) ∨ (i = .int .i64 1 ∧ Has wr w.heap.size 150 #[.int .u32 (a / 2)]))) (fun i _ => (1 - intOf i).toNat)
    case atStart => exact ⟨(Below.refl _ _).alloc (Nat.le_refl _) _, .inl ⟨by go_num, hnew⟩⟩
    case round =>
      obtain ⟨hbw, hc2⟩ := hrel
      rcases hc2 with ⟨rfl, hH⟩ | ⟨rfl, hH⟩
      · have c1 := keep_cell hbw hc
        have c2 := hH.cell 0
        have c3 := hH.free 0
        have hq : ∀ q, Calls Tryz.prog 165 #[.slice (some ⟨b, off, none⟩) n c, .int .i64 1] (More wr q) fun e w'' => e = .returned (.int .u64 0) ∧ ∃ q', w'' = More wr q' := fun q => more_same (at_val (some ⟨b, off, none⟩) n c [a] 1 (More wr q) ((h.below hbw).more q) (v := 0) rfl)
        go_upto_region 5 with fail
        refine wp_region_more_tail 17 (by kernel_rfl) (by kernel_rfl) ?_
        simp only [List.take]
        repeat (go_big_quiet_step (with_reducible exact hq _))
        refine wpQuiet_nil ?_
        rintro w2 ⟨qq, hw2⟩
        have hb2 := below_of_eq hw2
        clear hw2 qq
        have hH2 := hH.below hb2 hH.lt
        have hbw2 := Below_trans' hbw hbw.size hb2
        clear hb2 c1 c2 c3 hH
        have c2 := hH2.cell 0
        have c3 := hH2.free 0
        go_wp2
        go_roundw
        case rel => exact ⟨hbw2.setCell (p := ⟨w.heap.size, 0, none⟩) (Nat.le_refl _) _, .inr ⟨by go_num, hH2.put 0 _⟩⟩
        case measure => simp [intOf]
      · have ht := trim_small (some ⟨w.heap.size, 0, none⟩) n n (a / 2) [a / 2] wr (by rw [hN0.out]; exact wrds_has1 hH (by omega) (by omega)) (.inr rfl)
        go_wp2_with fail
        refine ht.mono ?_
        rintro e w' ⟨A5, n5, c5, rfl, h5, hb5⟩
        go_wp2
        go_ret
        exact ⟨A5, n5, c5, rfl, h5, Below_trans' hbw hbw.size hb5⟩
end Go.Proofs.YtolbceckbnifmaaGreat

namespace Go.Proofs.YtolbceckbnifmaaGreat
open Go.RowKit Go.Proofs
attribute [local go_sem] cell?_more cell?_alloc_some cell?_setCell_far frozen?_alloc_some frozen?_more
/-- The number that a slice of one word holds. -/
def wval (w : World) : Value → Nat
  | .slice (some a) (_ + 1) _ => match w.cell? a with | some (.int _ v) => v.toNat | _ => 0
  | _ => 0
theorem wval_zero {w : World} {A : Option Addr} {n c : Nat} (h : RWrds w A n c (lm 0)) : wval w (.slice A n c) = 0 := by
  have hl := h.len
  rw [lm_zero] at hl
  obtain rfl : n = 0 := by simpa using hl.symm
  cases A <;> rfl
theorem wval_of {w : World} {A : Option Addr} {n c : Nat} {v : Int} (h : RWrds w A n c (lm v)) : wval w (.slice A n c) = v.toNat := by
  by_cases h0 : v = 0
  · subst h0; exact wval_zero h
  · rw [lm_pos h0] at h
    obtain rfl : n = 1 := by have := h.len; simpa using this.symm
    obtain ⟨b, off, u, rfl, hc, _, hat, _⟩ := h.step (show 0 < 1 by omega)
    obtain rfl : v = u := by simpa using hat.out
    simp only [Nat.add_zero] at hc
    simp only [wval, hc]

set_option maxRecDepth 100000 in
theorem gcd_one (A A' : Option Addr) (n c n' c' : Nat) (a : Int) (w : World) (h : RWrds w A n c (lm a)) (h' : RWrds w A' n' c' [1]) (ha : 0 ≤ a) (hab : a ≤ 4294967295) :
    Calls Tryz.prog 139 #[.slice A n c, .slice A' n' c'] w fun e w' => ∃ A5 n5 c5, e = .returned (.tuple #[.slice A5 n5 c5, .int .i64 0]) ∧ RWrds w' A5 n5 c5 [1] ∧ Below w.heap.size w w' := by
  have cb := wboth_ok A n c (lm a) A' n' c' [1] w h h' (lm_ok a) one_ok
  have ct := trim_small A n c a (lm a) w h (by unfold lm; split <;> simp_all)
  go_enter Tryz.func139, Tryz.ntmps139
  go_wp2_with fail
  refine cb.mono ?_
  rintro e w' ⟨rfl, rfl⟩
  go_wp2_with fail
  refine ct.mono ?_
  rintro e w1 ⟨A1, n1, c1, rfl, h1, hb1⟩
  go_wp2_with fail
  refine (trim_small A' n' c' 1 [1] w1 (h'.below hb1) (.inr rfl)).mono ?_
  rintro e w2 ⟨A2, n2, c2, rfl, h2, hb2⟩
  rw [lm_pos (by omega)] at h2
  have hb02 := Below_trans' hb1 hb1.size hb2
  go_wp2
  go_loopw [7, 8, 9] (fun x y t wr => ∃ A3 n3 c3 v, x = .slice A3 n3 c3 ∧ y = .slice A2 n2 c2 ∧ t = .int .i64 0 ∧ RWrds wr A3 n3 c3 (lm v) ∧ RWrds wr A2 n2 c2 [1] ∧ 0 ≤ v ∧ v ≤ 4294967295 ∧ Below w.heap.size w wr) (fun x _ _ wr => wval wr x)
  case atStart => exact ⟨A1, n1, c1, a, rfl, rfl, rfl, h1.below hb2, h2, ha, hab, hb02⟩
  case round =>
    obtain ⟨A3, n3, c3, v, rfl, rfl, rfl, h3, h2w, hv0, hv1, hbw⟩ := hrel
    have hl3 := h3.len
    have hl2 := h2w.len
    have hm := wval_of h3
    have g1 : Int.tmod 1 2 = 1 := rfl
    have g2 : (0 : Int) < (n2 : Int) := by simp at hl2; omega
    by_cases hz : v = 0
    · subst hz
      have f1 : ¬ (0 : Int) < (n3 : Int) := by rw [lm_zero] at hl3; simp at hl3; omega
      have cp := plus_small A3 A2 n3 c3 n2 c2 0 1 wr h3 (by rw [lm_pos (by omega)]; exact h2w) (by omega) (by omega) (by omega)
      clear hl3 hl2 hm
      go_wp2_with fail
      refine cp.mono ?_
      rintro e w6 ⟨A6, n6, c6, rfl, h6, hb6⟩
      go_wp2
      go_loopw [12, 13] (fun d i wz => d = .slice A6 n6 c6 ∧ i = .int .i64 0 ∧ wz = w6) (fun _ _ _ => 0)
      case atStart => exact ⟨rfl, by go_num, rfl⟩
      case round =>
        obtain ⟨rfl, rfl, rfl⟩ := hrel
        go_wp2
        go_ret2
        exact ⟨A6, n6, c6, rfl, by rw [show (0 : Int) + 1 = 1 from rfl, lm_pos (by omega)] at h6; exact h6, Below_trans' hbw hbw.size hb6⟩
    · have f1 : (0 : Int) < (n3 : Int) := by rw [lm_pos hz] at hl3; simp at hl3; omega
      have h3' := h3
      rw [lm_pos hz] at h3'
      obtain ⟨b3, o3, u, rfl, hc3, _, hat3, _⟩ := h3'.step (show 0 < n3 by omega)
      obtain rfl : v = u := by simpa using hat3.out
      obtain ⟨b2, o2, u2, rfl, hc2, _, hat2, _⟩ := h2w.step (show 0 < n2 by omega)
      obtain rfl : 1 = u2 := by simpa using hat2.out
      simp only [Nat.add_zero] at hc3 hc2
      have hH2 := fun W (hb : Below wr.heap.size wr W) => h2w.below hb
      clear hat3 hat2 h3' hl3 hl2
      by_cases he : v % 2 = 0
      · have e1 : Int.tmod v 2 = 0 := by rw [Int.tmod_eq_emod_of_nonneg hv0]; exact he
        have ch := half_small (some ⟨b3, o3, none⟩) n3 c3 v
        go_wp2
        refine wp_region_more (by kernel_rfl) (by kernel_rfl) ?_
        repeat (go_big_quiet_step (fail))
        refine wpQuiet_nil ?_
        rintro w5 ⟨qw5, hww5⟩
        have hbw5 := below_of_eq hww5
        clear hww5 qw5
        have ch := half_small (some ⟨b3, o3, none⟩) n3 c3 v w5 (h3.below hbw5) hv0 hv1
        go_wp2_with fail
        refine ch.mono ?_
        rintro e w6 ⟨A6, n6, c6, rfl, h6, hb6⟩
        have hb56 := Below_trans' hbw5 hbw5.size hb6
        have hm6 := wval_of h6
        go_wp2
        go_roundw
        case rel => exact ⟨A6, n6, c6, v / 2, rfl, rfl, rfl, h6, h2w.below hb56, by omega, by omega, Below_trans' hbw hbw.size hb56⟩
        case measure => rw [hm6, hm]; omega
      · have e1 : (Int.tmod v 2 == 0) = false := by rw [Int.tmod_eq_emod_of_nonneg hv0]; simpa using he
        go_wp2
        refine wp_region_more (by kernel_rfl) (by kernel_rfl) ?_
        repeat (go_big_quiet_step (fail))
        refine wpQuiet_nil ?_
        rintro w5 ⟨qw5, hww5⟩
        have hbw5 := below_of_eq hww5
        clear hww5 qw5
        have cl := less_small (some ⟨b3, o3, none⟩) (some ⟨b2, o2, none⟩) n3 c3 n2 c2 v 1 w5 (h3.below hbw5) (by rw [lm_pos (by omega)]; exact h2w.below hbw5) hv0 (by omega)
        rw [decide_eq_false (by omega)] at cl
        go_wp2_with fail
        refine cl.mono ?_
        rintro e w6 ⟨rfl, hb6⟩
        have hb56 := Below_trans' hbw5 hbw5.size hb6
        have cm := minus_small (some ⟨b3, o3, none⟩) (some ⟨b2, o2, none⟩) n3 c3 n2 c2 v 1 w6 (h3.below hb56) (by rw [lm_pos (by omega)]; exact h2w.below hb56) (by omega) (by omega) hv1
        go_wp2_with fail
        refine cm.mono ?_
        rintro e w7 ⟨A6, n6, c6, rfl, h6, hb7⟩
        have hb57 := Below_trans' hb56 hb56.size hb7
        have hm6 := wval_of h6
        go_wp2
        go_roundw
        case rel => exact ⟨A6, n6, c6, v - 1, rfl, rfl, rfl, h6, h2w.below hb57, by omega, by omega, Below_trans' hbw hbw.size hb57⟩
        case measure => rw [hm6, hm]; omega

theorem RWrds.empty {w : World} {A : Option Addr} {n c : Nat} (h : RWrds w A n c (lm 0)) (w' : World) : RWrds w' A n c (lm 0) :=
  ⟨h.1, h.2.1, h.2.2.1, h.2.2.2.1, fun hn => absurd hn (by have := h.1; rw [lm_zero] at this; simp at this; omega)⟩
theorem pow_bits (a : Int) (j : Nat) : a / 2 ^ (j + 1) * 2 ^ (j + 1) + a / 2 ^ j % 2 * 2 ^ j = a / 2 ^ j * 2 ^ j := by
  have e : a / 2 ^ (j + 1) = a / 2 ^ j / 2 := by
    have h1 : (0 : Int) ≤ 2 ^ j := Int.pow_nonneg (by omega)
    rw [Int.pow_succ, ← Int.ediv_ediv_of_nonneg h1]
  rw [e]
  generalize a / 2 ^ j = q
  rw [Int.pow_succ]
  generalize (2 : Int) ^ j = m
  have h := Int.mul_ediv_add_emod q 2
  generalize q / 2 = d at *
  generalize q % 2 = r at *
  subst h
  rw [Int.add_mul, Int.mul_comm 2 d, Int.mul_assoc, Int.mul_comm m 2]
theorem pow_zero_bit {a : Int} {j : Nat} (h : ¬ a / 2 ^ j % 2 = 1) : a / 2 ^ (j + 1) * 2 ^ (j + 1) = a / 2 ^ j * 2 ^ j := by
  have := pow_bits a j
  have h0 : a / 2 ^ j % 2 = 0 := by omega
  rw [h0] at this
  simpa using this
theorem pow_one_bit {a : Int} {j : Nat} (h : a / 2 ^ j % 2 = 1) : a / 2 ^ (j + 1) * 2 ^ (j + 1) + 2 ^ j = a / 2 ^ j * 2 ^ j := by
  have := pow_bits a j
  rw [h] at this
  simpa using this
theorem pow_le {a : Int} {j : Nat} (ha : 0 ≤ a) : 0 ≤ a / 2 ^ j * 2 ^ j ∧ a / 2 ^ j * 2 ^ j ≤ a := by
  have h1 : (0 : Int) ≤ 2 ^ j := Int.pow_nonneg (by omega)
  exact ⟨Int.mul_nonneg (Int.ediv_nonneg ha h1) h1, Int.ediv_mul_le a (by have := Int.pow_pos (n := 2) (m := j) (by omega); omega)⟩

set_option maxRecDepth 100000 in
theorem div_one (A A' : Option Addr) (n c n' c' : Nat) (a : Int) (w : World) (h : RWrds w A n c (lm a)) (h' : RWrds w A' n' c' [1]) (ha : 0 ≤ a) (hab : a ≤ 4294967295) :
    Calls Tryz.prog 140 #[.slice A n c, .slice A' n' c'] w fun e w' => ∃ A5 n5 c5 A6 n6 c6, e = .returned (.tuple #[.slice A5 n5 c5, .slice A6 n6 c6, .int .i64 0]) ∧ RWrds w' A5 n5 c5 (lm a) ∧ Below w.heap.size w w' ∧ ∀ b, fpS A5 n5 b → w.heap.size ≤ b := by
  have cb := wboth_ok A n c (lm a) A' n' c' [1] w h h' (lm_ok a) one_ok
  have hl := h.len
  have hl' := h'.len
  have hn1 : n ≤ 1 := by have := lm_len a; omega
  have hmk := run_make_row' (P := Tryz.prog) 61 150 (.int .u32 0) 4 Tryz.underlying61 infoU rfl .i64 .i64 n (by omega) (by omega)
  have f0 : ((n' : Int) == 0) = false := by simp at hl'; simp; omega
  by_cases h0 : a = 0
  · subst h0
    have hn0 : n = 0 := by simpa [lm] using hl.symm
    have f1 : (n : Int) = 0 := by omega
    have hb0 : Below w.heap.size w (w.alloc (.cells (madeCells #[.int .u32 0] n) 150)) := (Below.refl _ _).alloc (Nat.le_refl _) _
    have ht := trim_fresh (some ⟨w.heap.size, 0, none⟩) n n 0 [] (w.alloc (.cells (madeCells #[.int .u32 0] n) 150)) ⟨hn0.symm, Nat.le_refl _, by omega, by simp, fun h => absurd h (by omega)⟩ (.inl ⟨rfl, rfl⟩)
    have f2 : 32 * (n : Int) - 1 = -1 := by omega
    have HN := hide hn0
    clear hn0 hl hn1 f1 hl'
    go_enter Tryz.func140, Tryz.ntmps140
    go_wp2_with fail
    refine cb.mono ?_
    rintro e w' ⟨rfl, rfl⟩
    go_wp2
    go_loopw [9, 10] (fun r i wr => r = .slice none 0 0 ∧ i = .int .i64 (-1) ∧ wr = w.alloc (.cells (madeCells #[.int .u32 0] n) 150)) (fun _ _ _ => 0)
    case atStart => exact ⟨rfl, by go_num, rfl⟩
    case round =>
      obtain ⟨rfl, rfl, rfl⟩ := hrel
      go_wp2_with fail
      refine ht.mono ?_
      rintro e w' ⟨A5, n5, c5, rfl, h5, hb5, hf5⟩
      go_wp2
      go_ret3
      exact ⟨A5, n5, c5, _, _, _, rfl, h5, Below_trans' hb0 hb0.size hb5, fun b hb => Nat.le_trans hb0.size (hf5 b hb)⟩
  · rw [lm_pos h0] at h hl ⊢
    have hn0 : n = 1 := by simpa using hl.symm
    obtain ⟨b, off, u, rfl, hc, _, hat, _⟩ := h.step (show 0 < n by omega)
    obtain rfl : a = u := by simpa using hat.out
    simp only [Nat.add_zero] at hc
    clear hat
    have f1 : (0 : Int) < (n : Int) := by omega
    have f2 : 32 * (n : Int) - 1 = 31 := by omega
    have hN0 := hide hn0
    have hnew : Has (w.alloc (.cells (madeCells #[.int .u32 0] n) 150)) w.heap.size 150 #[.int .u32 0] := by
      have h2 := Has.new w 150 (madeCells #[.int .u32 0] n)
      have e : madeCells #[Value.int .u32 0] n = #[Value.int .u32 0] := by rw [hN0.out]; apply Array.toList_inj.1; rw [toList_madeCells_one]; rfl
      rw [e] at h2 ⊢
      exact h2
    clear hn0 hl hn1 hl'
    go_enter Tryz.func140, Tryz.ntmps140
    go_wp2_with fail
    refine cb.mono ?_
    rintro e w' ⟨rfl, rfl⟩
    go_wp2
    go_loopw [9, 10] (fun r i wr => ∃ (k : Nat) (Ar : Option Addr) (nr cr : Nat), k ≤ 32 ∧ r = .slice Ar nr cr ∧ i = .int .i64 ((k : Int) - 1) ∧ RWrds wr Ar nr cr (lm 0) ∧ Has wr w.heap.size 150 #[.int .u32 (a / 2 ^ k * 2 ^ k)] ∧ Below w.heap.size w wr) (fun _ i _ => (intOf i + 1).toNat)
    case atStart => exact ⟨32, none, 0, 0, by omega, rfl, by go_num, RWrds.nil_ _, by rw [Int.ediv_eq_zero_of_lt ha (by omega)]; exact hnew, (Below.refl _ _).alloc (Nat.le_refl _) _⟩
    case round =>
      obtain ⟨k, Ar, nr, cr, hk, rfl, rfl, hR, hQ, hbw⟩ := hrel
      by_cases hk0 : 0 < k
      · obtain ⟨j, rfl⟩ : ∃ j, k = j + 1 := ⟨k - 1, by omega⟩
        have ej : ((j + 1 : Nat) : Int) - 1 = (j : Int) := by omega
        rw [ej]
        have b0 : (0 : Int) ≤ (j : Int) := by omega
        have e3 : Int.tdiv (j : Int) 32 = 0 := Int.tdiv_eq_zero_of_lt b0 (by omega)
        have e4 : Int.tmod (j : Int) 32 = j := Int.tmod_eq_of_lt b0 (by omega)
        have hp := plus_small Ar Ar nr cr nr cr 0 0 wr hR hR (by omega) (by omega) (by omega)
        rw [show (0 : Int) + 0 = 0 from rfl] at hp
        go_wp2_with fail
        refine hp.mono ?_
        rintro e w6 ⟨A6, n6, c6, rfl, h6, hb6⟩
        have hbw6 := Below_trans' hbw hbw.size hb6
        have hc6 := keep_cell hbw6 hc
        have hone := h'.below hbw6
        have hr6 := h'.len
        by_cases hbit : a / 2 ^ j % 2 = 1
        · have d1 : ((a / 2 ^ j).tmod 2 == 1) = true := by rw [Int.tmod_eq_emod_of_nonneg (Int.ediv_nonneg ha (Int.pow_nonneg (by omega)))]; simpa using hbit
          have hw1 := pow_one_bit hbit
          have hw2 := pow_le (a := a) (j := j) ha
          have hw3 := pow_le (a := a) (j := j + 1) ha
          have hb67 : Below w6.heap.size w6 (w6.alloc (.cells #[.int .u32 1] 150)) := (Below.refl _ _).alloc (Nat.le_refl _) _
          have hlit := wrds_has1 (Has.new w6 150 #[.int .u32 1]) (by omega) (by omega)
          have hp1 := plus_small A6 (some ⟨w6.heap.size, 0, none⟩) n6 c6 1 1 0 1 _ (h6.below hb67) (by rw [lm_pos (by omega)]; exact hlit) (by omega) (by omega) (by omega)
          rw [show (0 : Int) + 1 = 1 from rfl] at hp1
          go_wp2_with fail
          refine hp1.mono ?_
          rintro e w8 ⟨A8, n8, c8, rfl, h8, hb8⟩
          have hb68 := Below_trans' hb67 hb67.size hb8
          have hless := less_small A8 A' n8 c8 n' c' 1 1 w8 h8 (by rw [lm_pos (by omega)]; exact hone.below hb68) (by omega) (by omega)
          rw [show decide ((1 : Int) < 1) = false from rfl] at hless
          go_wp2_with fail
          refine hless.mono ?_
          rintro e w9 ⟨rfl, hb9⟩
          have hb69 := Below_trans' hb68 hb68.size hb9
          have hmin := minus_small A8 A' n8 c8 n' c' 1 1 w9 (h8.below hb9) (by rw [lm_pos (by omega)]; exact hone.below hb69) (by omega) (by omega) (by omega)
          rw [show (1 : Int) - 1 = 0 from rfl] at hmin
          go_wp2_with fail
          refine hmin.mono ?_
          rintro e w10 ⟨A10, n10, c10, rfl, h10, hb10⟩
          have hb610 := Below_trans' hb69 hb69.size hb10
          have hb010 := Below_trans' hb6 hb6.size hb610
          have hbw10 := Below_trans' hbw hbw.size hb010
          have hQ10 := hQ.below hb010 hQ.lt
          have q1 := hQ10.cell 0
          have q2 := hQ10.free 0
          have e5 : a / 2 ^ j * 2 ^ j % 4294967296 = a / 2 ^ j * 2 ^ j := Int.emod_eq_of_lt hw2.1 (by omega)
          go_wp2
          go_roundw
          case rel => exact ⟨j, A10, n10, c10, by omega, rfl, by go_num, h10.empty _, hQ10.put 0 _, hbw10.setCell (p := ⟨w.heap.size, 0, none⟩) (Nat.le_refl _) _⟩
          case measure => simp [intOf] <;> omega
        · have d1 : ((a / 2 ^ j).tmod 2 == 1) = false := by rw [Int.tmod_eq_emod_of_nonneg (Int.ediv_nonneg ha (Int.pow_nonneg (by omega)))]; simpa using hbit
          have hv := pow_zero_bit (a := a) (j := j) hbit
          have hless := less_small A6 A' n6 c6 n' c' 0 1 w6 h6 (by rw [lm_pos (by omega)]; exact hone) (by omega) (by omega)
          rw [show decide ((0 : Int) < 1) = true from rfl] at hless
          go_wp2_with fail
          refine hless.mono ?_
          rintro e w7 ⟨rfl, hb7⟩
          have hb07 := Below_trans' hb6 hb6.size hb7
          go_wp2
          go_roundw
          case rel => exact ⟨j, A6, n6, c6, by omega, rfl, by go_num, h6.below hb7, by rw [← hv]; exact hQ.below hb07 hQ.lt, Below_trans' hbw hbw.size hb07⟩
          case measure => simp [intOf] <;> omega
      · obtain rfl : k = 0 := by omega
        have ht := trim_fresh (some ⟨w.heap.size, 0, none⟩) n n a [a] wr (by rw [hN0.out]; exact wrds_has1 (by simpa using hQ) ha hab) (.inr rfl)
        rw [lm_pos h0] at ht
        go_wp2_with fail
        refine ht.mono ?_
        rintro e w' ⟨A5, n5, c5, rfl, h5, hb5, hf5⟩
        go_wp2
        go_ret3
        exact ⟨A5, n5, c5, _, _, _, rfl, h5, Below_trans' hbw hbw.size hb5, fun b hb => Nat.le_trans hbw.size (hf5 b hb)⟩

theorem rfar_any (n : Int) (w : World) (h0 : 0 ≤ n) (h1 : n ≤ 9223372036854775807) : Calls Tryz.prog 112 #[.int .i64 n] w fun e w' => e = .returned (.int .u64 n) ∧ w = w' := by
  have f1 : ¬ n < 0 := by omega
  go_enter Tryz.func112, Tryz.ntmps112
  go_wp2
  go_ret
  exact ⟨rfl, rfl⟩
theorem infoRat : (Tryz.prog.info? 63).map (fun i => (i.zero, i.size, i.bytes)) = some (some (.agg #[.bool false, .slice none 0 0, .slice none 0 0]), 3, 56) := by kernel_rfl
theorem sizeRat : (Tryz.prog.info? 63).map (·.size) = some 3 := by kernel_rfl
/-- A function hands back a ratio that lies in its result's variable. -/
theorem retRat {fn : Func} {R : Ending → World → Prop} {a : Act} {w : World} {p g : Nat} {C : Array Value} (hr : fn.results = #[.cell p 63]) (hp : a.tmps.getD p undef = .pointer (some ⟨g, 0, none⟩))
    (hg : Has w g 63 C) (hs : C.size = 3) (hd : a.defers = []) (hR : R (.returned (.agg C)) w) : bodyPost Tryz.prog fn R .ret a w :=
  bodyPost_ret (results_cell_row hr _ _ g _ C _ _ hp hg Tryz.underlying63 rfl (sizeRat.trans (by rw [hs]))) hd hR
theorem retRatEnd {fn : Func} {R : Ending → World → Prop} {a : Act} {w : World} {p g : Nat} {C : Array Value} (hr : fn.results = #[.cell p 63]) (hp : a.tmps.getD p undef = .pointer (some ⟨g, 0, none⟩))
    (hg : Has w g 63 C) (hs : C.size = 3) (hd : a.defers = []) (hR : R (.returned (.agg C)) w) : bodyPost Tryz.prog fn R .normal a w :=
  bodyPost_end (results_cell_row hr _ _ g _ C _ _ hp hg Tryz.underlying63 rfl (sizeRat.trans (by rw [hs]))) hd hR

/-- What hands back the whole number a as a ratio. -/
def RatPost (w : World) (a : Int) (e : Ending) (w' : World) : Prop := ∃ A n c A' n' c', e = .returned (.agg #[.bool false, .slice A n c, .slice A' n' c']) ∧ RWrds w' A n c (lm a) ∧ RWrds w' A' n' c' [1] ∧ Below w.heap.size w w' ∧ ∀ b, fpS A n b ∨ fpS A' n' b → w.heap.size ≤ b
theorem RWrds.frame {S : Nat → Prop} {w w' : World} {A : Option Addr} {n c : Nat} {xs : List Int} (h : RWrds w A n c xs) (k : Frame' S w w') (hS : ∀ b, fpS A n b → ¬ S b) : RWrds w' A n c xs := (h.on.frame k hS).get
set_option maxRecDepth 100000 in
theorem lowest_one (A A' : Option Addr) (n c n' c' : Nat) (a : Int) (w : World) (h : RWrds w A n c (lm a)) (h' : RWrds w A' n' c' [1]) (ha : 0 ≤ a) (hab : a ≤ 4294967295) :
    Calls Tryz.prog 110 #[.bool false, .slice A n c, .slice A' n' c'] w (RatPost w a) := by
  go_enter Tryz.func110, Tryz.ntmps110
  have hb0 : Below w.heap.size w (w.alloc (.cells #[.bool false, .slice none 0 0, .slice none 0 0] 63)) := (Below.refl _ _).alloc (Nat.le_refl _) _
  have hz0 : w.heap.size < (w.alloc (.cells #[.bool false, .slice none 0 0, .slice none 0 0] 63)).heap.size := by simp
  have hH0 := Has.new w 63 #[.bool false, .slice none 0 0, .slice none 0 0]
  have hg := gcd_one A A' n c n' c' a _ (h.below hb0) (h'.below hb0) ha hab
  go_wp2_with fail
  refine hg.mono ?_
  rintro e w1 ⟨A1, n1, c1, rfl, h1, hb1⟩
  have hz1 := Nat.lt_of_lt_of_le hz0 hb1.size
  have hb01 := Below_trans' hb0 hb0.size hb1
  have hd1 := div_one A A1 n c n1 c1 a w1 (h.below hb01) h1 ha hab
  go_wp2_with fail
  refine hd1.mono ?_
  rintro e w2 ⟨A2, n2, c2, A3, n3, c3, rfl, h2, hb2, hf2⟩
  have hz2 := Nat.lt_of_lt_of_le hz1 hb2.size
  have hb02 := Below_trans' hb01 hb01.size hb2
  have hd2 := div_one A' A1 n' c' n1 c1 1 w2 (by rw [lm_pos (by omega)]; exact h'.below hb02) (h1.below hb2) (by omega) (by omega)
  rw [lm_pos (by omega)] at hd2
  go_wp2_with fail
  refine hd2.mono ?_
  rintro e w3 ⟨A4, n4, c4, A5, n5, c5, rfl, h4, hb3, hf4⟩
  have hb03 := Below_trans' hb02 hb02.size hb3
  have hb12 := Below_trans' hb1 hb1.size hb2
  have hb13 := Below_trans' hb12 hb12.size hb3
  have hf2' := hide hf2
  have hf4' := hide hf4
  clear hf2 hf4
  have hH3 := hH0.below hb13 hH0.lt
  have q1 := hH3.cell 0
  have q2 := hH3.cell 1
  have q3 := hH3.cell 2
  have p1 := hH3.free 0
  have p2 := hH3.free 1
  have p3 := hH3.free 2
  go_wp2
  have k := frame3 w3 w.heap.size (.bool false) (.slice A2 n2 c2) (.slice A4 n4 c4)
  have g2 : ∀ b, fpS A2 n2 b → w.heap.size < b := fun b hb => Nat.lt_of_lt_of_le hz1 (hf2'.out b hb)
  have g4 : ∀ b, fpS A4 n4 b → w.heap.size < b := fun b hb => Nat.lt_of_lt_of_le hz2 (hf4'.out b hb)
  refine retRat rfl rfl (put3 hH3) rfl rfl ⟨A2, n2, c2, A4, n4, c4, rfl, (h2.below hb3).frame k fun b hb e => ?_, h4.frame k fun b hb e => ?_, below3 hb03 (Nat.le_refl _) _ _ _, fun b hb => ?_⟩
  · have := g2 b hb; omega
  · have := g4 b hb; omega
  · rcases hb with hb | hb
    · have := g2 b hb; omega
    · have := g4 b hb; omega
theorem retRat2 {fn : Func} {R : Ending → World → Prop} {a : Act} {w : World} {p q g : Nat} {C : Array Value} {v : Value} (hr : fn.results = #[.cell p 63, .tmp q]) (hp : a.tmps.getD p undef = .pointer (some ⟨g, 0, none⟩))
    (hq : a.tmps.getD q undef = v) (hg : Has w g 63 C) (hs : C.size = 3) (hd : a.defers = []) (hR : R (.returned (.tuple #[.agg C, v])) w) : bodyPost Tryz.prog fn R .ret a w := by
  have hl := run_loadVar_row (P := Tryz.prog) w g _ 63 C (0, 0) _ hg Tryz.underlying63 rfl (sizeRat.trans (by rw [hs]))
  refine bodyPost_ret (v := .tuple #[.agg C, v]) ?_ hd hR
  have hp' : a.tmps[p]?.getD undef = .pointer (some ⟨g, 0, none⟩) := by simpa using hp
  have hq' : a.tmps[q]?.getD undef = v := by simpa using hq
  simp [results, hr, hp', hq', asAddr, hl]
def RatPost2 (w : World) (a : Int) (e : Ending) (w' : World) : Prop := ∃ A n c A' n' c', e = .returned (.tuple #[.agg #[.bool false, .slice A n c, .slice A' n' c'], .int .i64 0]) ∧ RWrds w' A n c (lm a) ∧ RWrds w' A' n' c' [1] ∧ Below w.heap.size w w' ∧ ∀ b, fpS A n b ∨ fpS A' n' b → w.heap.size ≤ b
set_option maxRecDepth 100000 in
theorem rof4_any (a : Int) (w : World) (ha : 0 ≤ a) (hab : a ≤ 4294967295) :
    Calls Tryz.prog 78 #[.int .i64 a, .int .i64 1] w (RatPost2 w a) := by
  have f1 : ¬ a < 0 := by omega
  go_enter Tryz.func78, Tryz.ntmps78
  have hb0 : Below w.heap.size w (w.alloc (.cells #[.bool false, .slice none 0 0, .slice none 0 0] 63)) := (Below.refl _ _).alloc (Nat.le_refl _) _
  have hz0 : w.heap.size < (w.alloc (.cells #[.bool false, .slice none 0 0, .slice none 0 0] 63)).heap.size := by simp
  have hH0 := Has.new w 63 #[.bool false, .slice none 0 0, .slice none 0 0]
  generalize hW : World.alloc w _ = W0 at hb0 hH0 hz0
  go_wp2_with fail
  try rw [hW]
  clear hW
  refine (rfar_any a W0 ha (by omega)).mono ?_
  rintro e w' ⟨rfl, rfl⟩
  go_wp2_with fail
  refine (rof_small a W0 ha hab).mono ?_
  rintro e w1 ⟨A1, n1, c1, rfl, h1, hb1⟩
  go_wp2_with fail
  refine (rfar_any 1 w1 (by omega) (by omega)).mono ?_
  rintro e w' ⟨rfl, rfl⟩
  go_wp2_with fail
  refine (rof_small 1 w1 (by omega) (by omega)).mono ?_
  rintro e w2 ⟨A2, n2, c2, rfl, h2, hb2⟩
  rw [lm_pos (by omega)] at h2
  have hb12 := Below_trans' hb1 hb1.size hb2
  have hb02 := Below_trans' hb0 hb0.size hb12
  have hz2 := Nat.lt_of_lt_of_le hz0 hb12.size
  go_wp2_with fail
  refine (lowest_one A1 A2 n1 c1 n2 c2 a w2 (h1.below hb2) h2 ha hab).mono ?_
  rintro e w3 ⟨A3, n3, c3, A4, n4, c4, rfl, h3, h4, hb3, hf⟩
  have hb13 := Below_trans' hb12 hb12.size hb3
  have hb03 := Below_trans' hb02 hb02.size hb3
  have hf' := hide hf
  clear hf
  have hH3 := hH0.below hb13 hH0.lt
  have q1 := hH3.cell 0
  have q2 := hH3.cell 1
  have q3 := hH3.cell 2
  have p1 := hH3.free 0
  have p2 := hH3.free 1
  have p3 := hH3.free 2
  go_wp2
  have k := frame3 w3 w.heap.size (.bool false) (.slice A3 n3 c3) (.slice A4 n4 c4)
  have g3 : ∀ b, fpS A3 n3 b ∨ fpS A4 n4 b → w.heap.size < b := fun b hb => Nat.lt_of_lt_of_le hz2 (hf'.out b hb)
  refine retRat2 rfl rfl rfl (put3 hH3) rfl rfl ⟨A3, n3, c3, A4, n4, c4, rfl, h3.frame k fun b hb e => ?_, h4.frame k fun b hb e => ?_, below3 hb03 (Nat.le_refl _) _ _ _, fun b hb => Nat.le_of_lt (g3 b hb)⟩
  · have := g3 b (.inl hb); omega
  · have := g3 b (.inr hb); omega
set_option maxRecDepth 100000 in
theorem rwhole_any (a : Int) (w : World) (ha : 0 ≤ a) (hab : a ≤ 4294967295) :
    Calls Tryz.prog 43 #[.int .i64 a] w (RatPost w a) := by
  go_enter Tryz.func43, Tryz.ntmps43
  have hb0 : Below w.heap.size w (w.alloc (.cells #[.bool false, .slice none 0 0, .slice none 0 0] 63)) := (Below.refl _ _).alloc (Nat.le_refl _) _
  have hz0 : w.heap.size < (w.alloc (.cells #[.bool false, .slice none 0 0, .slice none 0 0] 63)).heap.size := by simp
  have hH0 := Has.new w 63 #[.bool false, .slice none 0 0, .slice none 0 0]
  generalize hW : World.alloc w _ = W0 at hb0 hH0 hz0
  go_wp2_with fail
  try rw [hW]
  clear hW
  refine (rof4_any a W0 ha hab).mono ?_
  rintro e w1 ⟨A1, n1, c1, A2, n2, c2, rfl, h1, h2, hb1, hf⟩
  have hb01 := Below_trans' hb0 hb0.size hb1
  have hz1 := Nat.lt_of_lt_of_le hz0 hb1.size
  have hf' := hide hf
  clear hf
  have hH3 := hH0.below hb1 hH0.lt
  have q1 := hH3.cell 0
  have q2 := hH3.cell 1
  have q3 := hH3.cell 2
  have p1 := hH3.free 0
  have p2 := hH3.free 1
  have p3 := hH3.free 2
  go_wp2
  have k := frame3 w1 w.heap.size (.bool false) (.slice A1 n1 c1) (.slice A2 n2 c2)
  have g3 : ∀ b, fpS A1 n1 b ∨ fpS A2 n2 b → w.heap.size < b := fun b hb => Nat.lt_of_lt_of_le hz0 (hf'.out b hb)
  have hb3 := below3 hb01 (Nat.le_refl _) (.bool false) (.slice A1 n1 c1) (.slice A2 n2 c2)
  have hba : ∀ W : World, Below W.heap.size W (W.alloc (.cells #[.bool false, .slice A1 n1 c1, .slice A2 n2 c2] 63)) := fun W => (Below.refl _ _).alloc (Nat.le_refl _) _
  refine retRat rfl rfl ((put3 hH3).alloc _) rfl rfl ⟨A1, n1, c1, A2, n2, c2, rfl, (h1.frame k fun b hb e => ?_).below (hba _), (h2.frame k fun b hb e => ?_).below (hba _), hb3.alloc hb3.size _, fun b hb => Nat.le_of_lt (g3 b hb)⟩
  · have := g3 b (.inl hb); omega
  · have := g3 b (.inr hb); omega

/-- The program's numbers. -/
theorem psize_any (n : Int) (w : World) (h0 : 0 ≤ n) (h1 : n ≤ 9223372036854775807) : Calls Tryz.prog 89 #[.int .i64 n] w fun e w' => e = .returned (.int .u64 n) ∧ w = w' := by
  have f1 : ¬ n < 0 := by omega
  go_enter Tryz.func89, Tryz.ntmps89
  go_wp2
  go_ret
  exact ⟨rfl, rfl⟩
theorem ntrim_two (g : Nat) (a : Int) (w : World) (h : Has w g 150 #[.int .u32 a, .int .u32 0]) :
    Calls Tryz.prog 119 #[.slice (some ⟨g, 0, none⟩) 2 2] w fun e w' => e = .returned (.slice (some ⟨g, 0, none⟩) (lm a).length (lm a).length) ∧ w = w' := by
  have q0 := h.cell 0
  have q1 := h.cell 1
  by_cases ha : a = 0
  · subst ha
    go_enter Tryz.func119, Tryz.ntmps119
    go_wp2
    go_loop [3] (fun m => m = .int .i64 2 ∨ m = .int .i64 1 ∨ m = .int .i64 0) (fun m => (intOf m).toNat)
    case atStart => exact .inl (by go_num)
    case round =>
      rcases hrel with rfl | rfl | rfl
      · go_wp2
        go_round
        case rel => exact .inr (.inl (by go_num))
        case measure => simp [intOf]
      · go_wp2
        go_round
        case rel => exact .inr (.inr (by go_num))
        case measure => simp [intOf]
      · go_wp2
        go_ret
        exact ⟨rfl, rfl⟩
  · have e1 : (a == 0) = false := by simpa using ha
    have e2 := hide (lm_pos ha)
    clear ha
    go_enter Tryz.func119, Tryz.ntmps119
    go_wp2
    go_loop [3] (fun m => m = .int .i64 2 ∨ m = .int .i64 1) (fun m => (intOf m).toNat)
    case atStart => exact .inl (by go_num)
    case round =>
      rcases hrel with rfl | rfl
      · go_wp2
        go_round
        case rel => exact .inr (by go_num)
        case measure => simp [intOf]
      · go_wp2
        go_ret
        exact ⟨by rw [e2.out]; rfl, rfl⟩
theorem nof_any (a : Int) (w : World) (ha : 0 ≤ a) (hab : a ≤ 4294967295) : Calls Tryz.prog 88 #[.int .u64 a] w (WPostF w (lm a)) := by
  have e1 : a / 4294967296 = 0 := Int.ediv_eq_zero_of_lt ha (by omega)
  have e2 : a % 4294967296 = a := Int.emod_eq_of_lt ha (by omega)
  have hH := Has.new w 150 #[.int .u32 a, .int .u32 0]
  have hb : Below w.heap.size w (w.alloc (.cells #[.int .u32 a, .int .u32 0] 150)) := (Below.refl _ _).alloc (Nat.le_refl _) _
  go_enter Tryz.func88, Tryz.ntmps88
  go_wp2_with fail
  refine (ntrim_two w.heap.size a _ hH).mono ?_
  rintro e w' ⟨rfl, rfl⟩
  go_wp2
  go_ret
  refine ⟨_, _, _, rfl, ⟨rfl, Nat.le_refl _, by have := lm_len a; omega, lm_bd ha hab, fun _ => ⟨w.heap.size, 0, rfl, fun i hi => ?_⟩⟩, hb, fun b hb => ?_⟩
  · have hl := lm_len a
    obtain rfl : i = 0 := by omega
    by_cases h0 : a = 0
    · subst h0; simp [lm] at hi
    · rw [lm_pos h0]; exact hH.cell 0
  · obtain ⟨_, off, e⟩ := hb
    cases e
    exact Nat.le_refl _
theorem one_any (w : World) : Calls Tryz.prog 90 #[] w (WPostF w [1]) := by
  have hH := Has.new w 150 #[.int .u32 1]
  go_enter Tryz.func90, Tryz.ntmps90
  go_wp2
  go_ret
  exact ⟨_, 1, 1, rfl, wrds_has1 hH (by omega) (by omega), (Below.refl _ _).alloc (Nat.le_refl _) _, fun b hb => by obtain ⟨_, off, e⟩ := hb; cases e; exact Nat.le_refl _⟩
set_option maxRecDepth 100000 in
theorem pwhole_any (a : Int) (w : World) (ha : 0 ≤ a) (hab : a ≤ 4294967295) :
    Calls Tryz.prog 59 #[.int .i64 a] w (RatPost w a) := by
  have f1 : ¬ a < 0 := by omega
  go_enter Tryz.func59, Tryz.ntmps59
  have hb0 : Below w.heap.size w (w.alloc (.cells #[.bool false, .slice none 0 0, .slice none 0 0] 63)) := (Below.refl _ _).alloc (Nat.le_refl _) _
  have hz0 : w.heap.size < (w.alloc (.cells #[.bool false, .slice none 0 0, .slice none 0 0] 63)).heap.size := by simp
  have hH0 := Has.new w 63 #[.bool false, .slice none 0 0, .slice none 0 0]
  generalize hW : World.alloc w _ = W0 at hb0 hH0 hz0
  go_wp2_with fail
  try rw [hW]
  clear hW
  refine (psize_any a W0 ha (by omega)).mono ?_
  rintro e w' ⟨rfl, rfl⟩
  go_wp2_with fail
  refine (nof_any a W0 ha hab).mono ?_
  rintro e w1 ⟨A1, n1, c1, rfl, h1, hb1, hf1⟩
  have hf1' := hide hf1
  clear hf1
  go_wp2_with fail
  refine (one_any w1).mono ?_
  rintro e w2 ⟨A2, n2, c2, rfl, h2, hb2, hf2⟩
  have hf2' := hide hf2
  clear hf2
  have hb12 := Below_trans' hb1 hb1.size hb2
  have hb02 := Below_trans' hb0 hb0.size hb12
  have hz1 := Nat.lt_of_lt_of_le hz0 hb1.size
  have hH3 := hH0.below hb12 hH0.lt
  have q1 := hH3.cell 0
  have q2 := hH3.cell 1
  have q3 := hH3.cell 2
  have p1 := hH3.free 0
  have p2 := hH3.free 1
  have p3 := hH3.free 2
  go_wp2
  have k := frame3 w2 w.heap.size (.bool false) (.slice A1 n1 c1) (.slice A2 n2 c2)
  have g1 : ∀ b, fpS A1 n1 b → w.heap.size < b := fun b hb => Nat.lt_of_lt_of_le hz0 (hf1'.out b hb)
  have g2 : ∀ b, fpS A2 n2 b → w.heap.size < b := fun b hb => Nat.lt_of_lt_of_le hz1 (hf2'.out b hb)
  refine retRatEnd rfl rfl (put3 hH3) rfl rfl ⟨A1, n1, c1, A2, n2, c2, rfl, (h1.below hb2).frame k fun b hb e => ?_, h2.frame k fun b hb e => ?_, below3 hb02 (Nat.le_refl _) _ _ _, fun b hb => ?_⟩
  · have := g1 b hb; omega
  · have := g2 b hb; omega
  · rcases hb with hb | hb
    · have := g1 b hb; omega
    · have := g2 b hb; omega
end Go.Proofs.YtolbceckbnifmaaGreat
