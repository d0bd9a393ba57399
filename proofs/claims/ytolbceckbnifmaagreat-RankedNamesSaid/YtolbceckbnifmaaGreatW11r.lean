/-
  A runoff under other names, in plain terms.
  Other names: names, Renamed.
  Other names for an outcome: Renamed.
-/
import Derived.Test.YtolbceckbnifmaaGreatL15f
import Derived.Test.YtolbceckbnifmaaGreatSpecNp
import Derived.Test.YtolbceckbnifmaaGreatW15h
import Derived.Test.YtolbceckbnifmaaGreatFlow2
import Derived.Deep.CutRange
namespace Go.Proofs.YtolbceckbnifmaaGreat
open Go.RowKit Go.Proofs

theorem had_ren {p : List Int} {n : Nat} {S : List Int} {l : List Row} (hN : Names p n) (hS : InR n S) (hl : ∀ r ∈ l, ∀ x ∈ r.1, 0 ≤ x ∧ x < n) {x : Int} (hx : 0 ≤ x ∧ x < n) : hadS (inL (imgS p n S)) (renL p l) (nameS p x) = hadS (inL S) l x := by
  unfold hadS renL
  rw [wsum_each]
  refine wsum_congr fun r hr => ?_
  rw [renS_ne (by omega) (by omega), find_img hN hS (hl r hr)]
  rw [Bool.eq_iff_iff, decide_eq_true_eq, decide_eq_true_eq]
  cases hf : r.1.find? (inL S) with
  | none => simp
  | some y =>
    have hy := hl r hr y (List.mem_of_find?_eq_some hf)
    simp only [Option.map_some, Option.some.injEq]
    exact ⟨fun e => hN.inj hy hx e, fun e => by rw [e]⟩
theorem lost_ren {p : List Int} {n : Nat} {S : List Int} {l : List Row} (hN : Names p n) (hS : InR n S) (hl : ∀ r ∈ l, ∀ x ∈ r.1, 0 ≤ x ∧ x < n) : lostS (inL (imgS p n S)) (renL p l) = lostS (inL S) l := by
  unfold lostS renL
  rw [wsum_each]
  refine wsum_congr fun r hr => ?_
  rw [renS_ne (by omega) (by omega), find_img hN hS (hl r hr)]
  cases r.1.find? (inL S) <;> simp
theorem hadL_ren {p : List Int} {n : Nat} {S : List Int} {l : List Row} (hN : Names p n) (hS : InR n S) (hl : ∀ r ∈ l, ∀ x ∈ r.1, 0 ≤ x ∧ x < n) :
    (hadL (inL (imgS p n S)) (renL p l) n).map wholeS = renHad p ((hadL (inL S) l n).map wholeS) := by
  unfold renHad
  rw [List.length_map, length_hadL]
  refine List.ext_getElem? fun i => ?_
  by_cases hi : i < n
  · obtain ⟨h1, h2⟩ := name_idx hN hi
    have e := had_ren hN hS hl (x := (idx p i : Int)) ⟨by omega, by omega⟩
    rw [h2] at e
    rw [List.getElem?_map, get_hadL _ _ hi, List.getElem?_map, List.getElem?_range hi, e]
    simp [List.getD, get_hadL _ _ h1]
  · rw [List.getElem?_eq_none (by rw [List.length_map, length_hadL]; omega), List.getElem?_eq_none (by simp; omega)]
theorem getI_ren {p : List Int} {n : Nat} {S : List Int} {l : List Row} (hN : Names p n) (hS : InR n S) (hl : ∀ r ∈ l, ∀ x ∈ r.1, 0 ≤ x ∧ x < n) {x : Int} (hx : 0 ≤ x ∧ x < n) :
    getI (hadL (inL (imgS p n S)) (renL p l) n) (nameS p x) = getI (hadL (inL S) l n) x := by
  rw [getI_had (hN.name_in hx), getI_had hx, had_ren hN hS hl hx]
theorem sum_ren {p : List Int} {n : Nat} {S : List Int} {l : List Row} (hN : Names p n) (hS : InR n S) (hl : ∀ r ∈ l, ∀ x ∈ r.1, 0 ≤ x ∧ x < n) (hl2 : ∀ r ∈ renL p l, ∀ x ∈ r.1, 0 ≤ x ∧ x < n) :
    (hadL (inL (imgS p n S)) (renL p l) n).sum = (hadL (inL S) l n).sum := by
  have h1 := had_all (φ := inL (imgS p n S)) (n := n) hl2
  have h2 := had_all (φ := inL S) (n := n) hl
  have h3 := lost_ren hN hS hl
  have h4 : totS (renL p l) = totS l := tot_each _ _
  omega
/-- Who wins goes along with the names. -/
theorem win_ren {p : List Int} {n : Nat} {S had had2 : List Int} (hN : Names p n) (hS : S.Sublist (rangeI n)) (h0 : ∀ x ∈ had, 0 ≤ x) (hlen : had.length = n) (hs : had2.sum = had.sum) (hg : ∀ x : Int, 0 ≤ x ∧ x < n → getI had2 (nameS p x) = getI had x) :
    winS (imgS p n S) had2 = (winS S had).map (nameS p) := by
  have hSr : InR n S := (inR_range n).sub hS
  have hln := img_len hN hSr ((nodup_rangeI n).sublist hS)
  unfold winS
  rw [hln, hs]
  by_cases h1 : S.length = 1
  · obtain ⟨a, rfl⟩ := List.length_eq_one_iff.1 h1
    obtain ⟨b, hb⟩ := List.length_eq_one_iff.1 (hln.trans h1)
    have : b = nameS p a := by
      have hm : nameS p a ∈ imgS p n [a] := (mem_img hN hSr).2 ⟨a, by simp, rfl⟩
      rw [hb] at hm; exact (List.mem_singleton.1 hm).symm
    rw [hb, this]; simp
  · have hpr : ∀ c, (decide (S.length = 1) || decide (had.sum < 2 * getI had c)) = decide (had.sum < 2 * getI had c) := fun c => by simp [h1]
    have hpr2 : ∀ c, (decide (S.length = 1) || decide (had.sum < 2 * getI had2 c)) = decide (had.sum < 2 * getI had2 c) := fun c => by simp [h1]
    simp only [hpr, hpr2]
    cases hf : S.find? (fun c => decide (had.sum < 2 * getI had c)) with
    | some x =>
      have hx := List.mem_of_find?_eq_some hf
      have hxp : had.sum < 2 * getI had x := by simpa using List.find?_some hf
      refine find_only ((mem_img hN hSr).2 ⟨x, hx, rfl⟩) (by rw [hg x (hSr x hx)]; exact decide_eq_true hxp) fun c hc hcp => ?_
      obtain ⟨y, hy, rfl⟩ := (mem_img hN hSr).1 hc
      rw [hg y (hSr y hy)] at hcp
      rw [win_one h0 hlen (hSr y hy) (hSr x hx) (of_decide_eq_true hcp) hxp]
    | none =>
      refine List.find?_eq_none.2 fun c hc hcp => ?_
      obtain ⟨y, hy, rfl⟩ := (mem_img hN hSr).1 hc
      rw [hg y (hSr y hy)] at hcp
      exact List.find?_eq_none.1 hf y hy hcp
/-- The count goes along with the names. -/
theorem count_ren {p lot : List Int} {C : Nat} {l : List Row} (hN : Names p C) (h : checkS C 1 l = 0) (hlot : lotS lot C = true) : ∀ (f : Nat) (left : List Int) (rs : List Rnd) (ts : List Row), left.Sublist (rangeI C) → left ≠ [] →
    countS (renL p l) C (lot.map (nameS p)) f (imgS p C left) (rs.map (renRnd p)) (ts.map (renTie p)) = renO p (countS l C lot f left rs ts)
  | 0, left, rs, ts, _, _ => rfl
  | f + 1, left, rs, ts, hsub, hne => by
    have hr := rank_ok h
    have hr2 : RankOK (renL p l) C := rank_ok (ren_check hN h)
    have hS : InR C left := (inR_range C).sub hsub
    have hw := win_ren (had := hadL (inL left) l C) (had2 := hadL (inL (imgS p C left)) (renL p l) C) hN hsub (fun x hx => (hr.hads _ x hx).1) (length_hadL _ _ _) (sum_ren hN hS hr.marks hr2.marks) (fun x hx => getI_ren hN hS hr.marks hx)
    cases hc : winS left (hadL (inL left) l C) with
    | some x =>
      rw [hc] at hw
      rw [countS_some hc, countS_some hw]
      unfold renO
      simp only [List.map_append, List.map_cons, List.map_nil, renRnd, rndS, hadL_ren hN hS hr.marks, lost_ren hN hS hr.marks]
    | none =>
      rw [hc] at hw
      rw [countS_none hc, countS_none hw]
      have hle : leastS (hadL (inL (imgS p C left)) (renL p l) C) (imgS p C left) = imgS p C (leastS (hadL (inL left) l C) left) :=
        best_ren (f := fun c => - getI (hadL (inL left) l C) c) hN hS fun x hx => by rw [getI_ren hN hS hr.marks hx]
      have hsl : (leastS (hadL (inL left) l C) left).Sublist left := bestS_sub _ _
      have hAr := hS.sub hsl
      have hAn : leastS (hadL (inL left) l C) left ≠ [] := bestS_ne hne
      have hla := last_ren (lot := lot) hN hAr (lot_in_range hlot) hAn fun x hx => lot_in hlot (hsub.subset (hsl.subset hx))
      have hzm := lastS_mem (lot := lot) hAn fun x hx => lot_in hlot (hsub.subset (hsl.subset hx))
      have hand : (leastS (hadL (inL left) l C) left).Nodup := ((nodup_rangeI C).sublist hsub).sublist hsl
      rw [hle, hla, out_ren hN hS (hAr _ hzm), tied_ren hN hAr hand, lost_ren hN hS hr.marks]
      have ih := count_ren hN h hlot f (outS left (lastS lot (leastS (hadL (inL left) l C) left))) (rs ++ [rndS (hadL (inL left) l C) (lostS (inL left) l) [] [lastS lot (leastS (hadL (inL left) l C) left)]]) (tiedS ts (leastS (hadL (inL left) l C) left) (lastS lot (leastS (hadL (inL left) l C) left))) ((outS_sub _ _).trans hsub) (List.length_pos_iff.1 (by have h1 := length_outS ((nodup_rangeI C).sublist hsub) (hsl.subset hzm); have h2 : left.length ≠ 1 := fun e => win_of_one e hc; have h3 := List.length_pos_iff.2 hne; omega))
      rw [← ih]
      congr 1
      rw [List.map_append]
      congr 1
      simp only [List.map_cons, List.map_nil, renRnd, rndS, hadL_ren hN hS hr.marks]
theorem count_ren' {p lot : List Int} {C : Nat} {l : List Row} (hN : Names p C) (h : checkS C 1 l = 0) (hlot : lotS lot C = true) : countS (renL p l) C (lot.map (nameS p)) C (rangeI C) [] [] = renO p (countS l C lot C (rangeI C) [] []) := by
  have := count_ren hN h hlot C (rangeI C) [] [] (List.Sublist.refl _) (fun e => by have h1 := congrArg List.length e; rw [length_rangeI] at h1; have := hN.one; simp at h1; omega)
  rwa [img_range hN] at this

end Go.Proofs.YtolbceckbnifmaaGreat

namespace Go.Proofs.YtolbceckbnifmaaGreat
open Go.RowKit Go.Proofs Go.Shelf
attribute [local go_sem] cell?_more cell?_alloc_some cell?_setCell_far frozen?_alloc_some frozen?_more
theorem names_any (A : Option Addr) (n c : Nat) (xs : List Int) (Ap : Option Addr) (np cp : Nat) (perm : List Int) (w : World) (h : RInts w A n c xs) (hp : RInts w Ap np cp perm) (hx : InR np xs) (hn : n ≤ 1000) :
    Calls Tryz.prog 74 #[.slice A n c, .slice Ap np cp] w (IPost w (xs.map (nameS perm))) := by
  have hl := hide h.len
  have Hx := hide hx
  obtain ⟨ys, hys⟩ : ∃ ys, ys = xs.map (nameS perm) := ⟨_, rfl⟩
  have hyl : ys.length = n := by rw [hys, List.length_map]; exact h.len
  rw [← hys]
  have Hys := hide hys
  have Hyl := hide hyl
  clear hx hys hyl
  go_enter Tryz.func74, Tryz.ntmps74
  go_wp2
  go_loopw [5, 6] (fun v i wr => ∃ k : Nat, k ≤ n ∧ i = .int .i64 k ∧ Own wr w.heap.size v (ys.take k) ∧ Below w.heap.size w wr) (fun v i _ => n - (intOf i).toNat)
  case atStart => exact ⟨0, Nat.zero_le _, rfl, Own.nil_ _ _, Below.refl _ _⟩
  case round =>
    obtain ⟨k, hk, rfl, hO, hb⟩ := hrel
    have hz := hb.size
    have hle : (ys.take k).length ≤ 1000 := by rw [List.length_take]; omega
    by_cases hlt : k < n
    · obtain ⟨b, off, v, rfl, hc, hd, hat, _⟩ := (h.below hb).step hlt
      obtain ⟨hv0, hv1⟩ := Hx.out v (List.mem_of_getElem? hat.out)
      obtain ⟨V, rfl⟩ : ∃ V : Nat, v = V := ⟨v.toNat, by omega⟩
      obtain ⟨b2, off2, u, rfl, hc2, _, hat2, _⟩ := (hp.below hb).step (show V < np by omega)
      have hs : Hid (ys.take (k + 1) = ys.take k ++ [u]) := by
        unfold Hid
        rw [List.take_add_one, Hys.out, List.getElem?_map, hat.out]
        simp [nameS, List.getD, hat2.out]
      clear hat hd hat2
      go_wp2_with (at_builtin; refine appInt rfl rfl rfl (hO.below ((Below.refl _ _).alloc (Nat.le_refl _) _)) rfl ((Has.new _ _ _).cell 0) (by omega) (by simp; omega) ?_)
      intro v' w' hO' hg
      go_wp2
      go_roundw
      case rel => exact ⟨k + 1, by omega, by go_num, by rw [hs.out]; exact hO', (hb.alloc hz _).grown hg (by simp; omega) (fun j hj => (hO.lt j hj).1)⟩
      case measure => simp [intOf] <;> omega
    · have e : Hid (ys.take k = ys) := List.take_of_length_le (by rw [Hyl.out]; omega)
      rw [e.out] at hO
      go_wp2
      go_ret
      exact ⟨_, rfl, hO, hb⟩
theorem pnames_any (A : Option Addr) (n c : Nat) (xs : List Int) (Ap : Option Addr) (np cp : Nat) (perm : List Int) (w : World) (h : RInts w A n c xs) (hp : RInts w Ap np cp perm) (hx : InR np xs) (hn : n ≤ 1000) :
    Calls Tryz.prog 39 #[.slice A n c, .slice Ap np cp] w (IPost w (xs.map (nameS perm))) := by
  have hc := names_any A n c xs Ap np cp perm w h hp hx hn
  generalize xs.map (nameS perm) = ys at *
  clear hx
  go_enter Tryz.func39, Tryz.ntmps39
  go_wp2_with fail
  refine hc.mono ?_
  rintro e w1 ⟨v, rfl, hO, hb⟩
  obtain ⟨Av, cv, rfl⟩ := hO.slice
  go_wp2
  go_ret
  exact ⟨_, rfl, hO, hb⟩

/-! An array of ratios that is filled in any order. -/
def zeroC : List Value := [.bool false, .slice none 0 0, .slice none 0 0]
def hadC (p : List Int) (n : Nat) (vf : Nat → List Value) (j : Nat) : List (List Value) := (List.range n).map fun d => if idx p d < j then vf (idx p d) else zeroC
theorem length_hadC (p : List Int) (n : Nat) (vf : Nat → List Value) (j : Nat) : (hadC p n vf j).length = n := by simp [hadC]
theorem hadC_zero (p : List Int) (n : Nat) (vf : Nat → List Value) : hadC p n vf 0 = List.replicate n zeroC := by
  unfold hadC
  refine List.ext_getElem (by simp) fun i h1 h2 => ?_
  simp
theorem hadC_succ {p : List Int} {n : Nat} {vf : Nat → List Value} (hN : Names p n) {j V : Nat} (hv : p[j]? = some (V : Int)) : hadC p n vf (j + 1) = (hadC p n vf j).set V (vf j) := by
  refine List.ext_getElem? fun d => ?_
  have hi := idx_eq hN.nd hv d
  by_cases hd : d < n
  · rw [List.getElem?_set]
    unfold hadC
    rw [List.getElem?_map, List.getElem?_range hd]
    by_cases e : V = d
    · subst e
      rw [if_pos rfl, if_pos (by simpa using hd)]
      simp [hi.2 rfl]
    · rw [if_neg e, List.getElem?_map, List.getElem?_range hd]
      have h1 : idx p d ≠ j := fun h => e (hi.1 h).symm
      have h2 : (idx p d < j + 1) = (idx p d < j) := by rw [eq_iff_iff]; omega
      simp [h2]
  · rw [List.getElem?_eq_none (by rw [length_hadC]; omega), List.getElem?_eq_none (by rw [List.length_set, length_hadC]; omega)]
theorem hadC_three {p : List Int} {n : Nat} {vf : Nat → List Value} (hN : Names p n) (h : ∀ i, i < n → (vf i).length = 3) (j : Nat) : ∀ x ∈ hadC p n vf j, x.length = 3 := by
  intro x hx
  obtain ⟨d, hd, rfl⟩ := List.mem_map.1 hx
  split
  · exact h _ (name_idx hN (List.mem_range.1 hd)).1
  · rfl
theorem flat_get {vs : List (List Value)} (h3 : ∀ x ∈ vs, x.length = 3) {q r : Nat} (hr : r < 3) : vs.flatten[q * 3 + r]? = (vs[q]?).bind (·[r]?) := by
  cases hq : vs[q]? with
  | some x => exact get_flatten h3 hq hr
  | none =>
    have := List.getElem?_eq_none_iff.1 hq
    have hl : vs.flatten.length = vs.length * 3 := by
      rw [List.length_flatten]
      clear hq this
      induction vs with
      | nil => rfl
      | cons a s ih => rw [List.map_cons, List.sum_cons, ih (fun x hx => h3 x (List.mem_cons_of_mem _ hx)), h3 a (List.mem_cons_self ..), List.length_cons]; omega
    rw [List.getElem?_eq_none (by rw [hl]; omega)]; rfl
theorem flat_len {vs : List (List Value)} (h3 : ∀ x ∈ vs, x.length = 3) : vs.flatten.length = vs.length * 3 := by
  rw [List.length_flatten]
  induction vs with
  | nil => rfl
  | cons a s ih => rw [List.map_cons, List.sum_cons, ih (fun x hx => h3 x (List.mem_cons_of_mem _ hx)), h3 a (List.mem_cons_self ..), List.length_cons]; omega
theorem flat_set3 {vs : List (List Value)} (h3 : ∀ x ∈ vs, x.length = 3) (V : Nat) (a b c : Value) : ((vs.flatten.set (V * 3) a).set (V * 3 + 1) b).set (V * 3 + 2) c = (vs.set V [a, b, c]).flatten := by
  have h3' : ∀ x ∈ vs.set V [a, b, c], x.length = 3 := fun x hx => by
    rcases List.mem_or_eq_of_mem_set hx with h | h
    · exact h3 x h
    · subst h; rfl
  refine List.ext_getElem? fun i => ?_
  obtain ⟨q, r, hr, rfl⟩ : ∃ q r, r < 3 ∧ i = q * 3 + r := ⟨i / 3, i % 3, Nat.mod_lt _ (by decide), by omega⟩
  rw [flat_get h3' hr, List.getElem?_set, List.getElem?_set, List.getElem?_set, flat_get h3 hr, List.getElem?_set]
  simp only [List.length_set, flat_len h3]
  by_cases e : V = q
  · subst e
    by_cases hV : V < vs.length
    · have hs : ∃ x, vs[V]? = some x := ⟨_, List.getElem?_eq_getElem hV⟩
      match r, hr with
      | 0, _ => (simp [hV]) <;> omega
      | 1, _ => (simp [hV]) <;> omega
      | 2, _ => (simp [hV]) <;> omega
    · match r, hr with
      | 0, _ => (simp [hV]) <;> omega
      | 1, _ => (simp [hV]) <;> omega
      | 2, _ => (simp [hV]) <;> omega
  · rw [if_neg (by omega), if_neg (by omega), if_neg (by omega), if_neg e]
theorem made3 (n : Nat) : madeCells #[.bool false, .slice none 0 0, .slice none 0 0] (n * 3) = (List.replicate n zeroC).flatten.toArray := by
  have h3 : ∀ x ∈ List.replicate n zeroC, x.length = 3 := fun x hx => by rw [(List.mem_replicate.1 hx).2]; rfl
  refine Array.ext_getElem? fun i => ?_
  obtain ⟨q, r, hr, rfl⟩ : ∃ q r, r < 3 ∧ i = q * 3 + r := ⟨i / 3, i % 3, Nat.mod_lt _ (by decide), by omega⟩
  have e : (List.replicate n zeroC).flatten.toArray[q * 3 + r]? = (List.replicate n zeroC).flatten[q * 3 + r]? := List.getElem?_toArray ..
  rw [e, flat_get h3 hr]
  clear e
  unfold madeCells
  rw [Array.getElem?_map]
  by_cases hq : q < n
  · rw [Array.getElem?_range, if_pos (by omega), List.getElem?_replicate, if_pos hq]
    have : (q * 3 + r) % 3 = r := by omega
    simp only [Option.map_some, Option.bind_some]
    show some (#[Value.bool false, Value.slice none 0 0, Value.slice none 0 0][(q * 3 + r) % 3]!) = _
    rw [this]
    match r, hr with
    | 0, _ => rfl
    | 1, _ => rfl
    | 2, _ => rfl
  · rw [Array.getElem?_range, if_neg (by omega), List.getElem?_replicate, if_neg hq]; rfl
theorem RAgg.fn {α : Type} {E : World → List Value → α → Prop} {size : Nat} {w : World} {A : Option Addr} {n c : Nat} {l : List α} (h : RAgg E size w A n c l) (hn : 0 < n) :
    ∃ (b off : Nat) (vf : Nat → List Value), A = some ⟨b, off, none⟩ ∧ ∀ i, i < n → ∃ x, l[i]? = some x ∧ (vf i).length = size ∧ (∀ j u, (vf i)[j]? = some u → w.cell? ⟨b, off + i * size + j, none⟩ = some u) ∧ E w (vf i) x := by
  obtain ⟨b, off, e, hc⟩ := h.2.2.2 hn
  have h1 : ∀ i, ∃ vs : List Value, i < n → ∃ x, l[i]? = some x ∧ vs.length = size ∧ (∀ j u, vs[j]? = some u → w.cell? ⟨b, off + i * size + j, none⟩ = some u) ∧ E w vs x := fun i => by
    by_cases hi : i < n
    · obtain ⟨vs, x, h1, h2, h3, h4⟩ := hc i hi
      exact ⟨vs, fun _ => ⟨x, h1, h2, h3, h4⟩⟩
    · exact ⟨[], fun h => absurd h hi⟩
  obtain ⟨vf, hvf⟩ := Classical.axiomOfChoice h1
  exact ⟨b, off, vf, e, hvf⟩
theorem erat_on {w : World} {vs : List Value} {x : Rat3} (h : ERat w vs x) : On (fun b => b < w.heap.size) w fun W => ERat W vs x := by
  obtain ⟨A, n, c, A', n', c', e, h1, h2⟩ := h
  exact ((h1.on.and h2.on).imp fun W hW => ⟨A, n, c, A', n', c', e, hW.1, hW.2⟩).wide (fun b hb => hb.elim (h1.on.1 b) (h2.on.1 b)) fun _ hb => hb
theorem on_all {α : Type} {E : World → List Value → α → Prop} {fp : Nat → Prop} {w : World} {vs : List (List Value)} {l : List α} (hf : ∀ b, fp b → b < w.heap.size) (hl : vs.length = l.length) (h : ∀ (i : Nat) (x : List Value) (y : α), vs[i]? = some x → l[i]? = some y → On fp w fun W => E W x y) : On fp w fun W => All2 (E W) vs l :=
  ⟨hf, fun w2 k => ⟨hl, fun i x y hx hy => (h i x y hx hy).2 w2 k⟩⟩
/-- The array, filled. -/
theorem filled {w0 w : World} {g n B : Nat} {p : List Int} {had : List Rat3} {vf : Nat → List Value} (hN : Names p n) (hl : had.length = n) (hb : Below w0.heap.size w0 w) (hg0 : w0.heap.size ≤ g) (hB : B ≤ g) (hg : Has w g 63 (hadC p n vf n).flatten.toArray)
    (hv : ∀ i, i < n → ∃ x, had[i]? = some x ∧ (vf i).length = 3 ∧ ERat w0 (vf i) x) : OAgg ERat 63 3 (fun b => b < w0.heap.size) w B (.slice (some ⟨g, 0, none⟩) n n) (renHad p had) := by
  have h3 := hadC_three hN (fun i hi => let ⟨x, _, h, _⟩ := hv i hi; h) n
  have hlen : (renHad p had).length = n := by simp [renHad, hl]
  have hn10 := hN.le
  refine ⟨hadC p n vf n, h3, ?_, ?_, fun b e hb' => ?_⟩
  · refine ⟨by rw [flat_len h3, length_hadC, hlen], .inr ⟨g, n, (hadC p n vf n).flatten.toArray, by rw [hlen], hB, hg, by rw [hlen]; exact Nat.le_refl _, by unfold maxLen; omega, ?_, ?_⟩⟩
    · rw [List.size_toArray, flat_len h3, length_hadC]
    · rw [List.take_of_length_le (by simp [flat_len h3, length_hadC, hlen])]
  · refine on_all (fun b hb' => Nat.lt_of_lt_of_le hb' hb.size) (by rw [length_hadC, hlen]) fun i x y hx hy => ?_
    have hi : i < n := by have := (List.getElem?_eq_some_iff.1 hx).1; rwa [length_hadC] at this
    obtain ⟨h1, h2⟩ := name_idx hN hi
    obtain ⟨z, hz, _, hE⟩ := hv _ h1
    have e1 : x = vf (idx p i) := by
      unfold hadC at hx
      rw [List.getElem?_map, List.getElem?_range hi] at hx
      simpa [h1] using hx.symm
    have e2 : y = z := by
      unfold renHad at hy
      rw [List.getElem?_map, List.getElem?_range (by omega)] at hy
      simpa [List.getD, hz] using hy.symm
    subst e1 e2
    exact (erat_on hE).below hb
  · have e2 : g = b := Option.some.inj e
    omega
end Go.Proofs.YtolbceckbnifmaaGreat

namespace Go.Proofs.YtolbceckbnifmaaGreat
open Go.RowKit Go.Proofs Go.Shelf
attribute [local go_sem] cell?_more cell?_alloc_some cell?_setCell_far frozen?_alloc_some frozen?_more
/-- An outcome that names know. -/
structure OkO (n : Nat) (o : Outc) : Prop where
  el : InR n o.1
  eln : o.1.length ≤ 1000
  rnd : ∀ r ∈ o.2.1, r.1.length = n ∧ InR n r.2.2.1 ∧ r.2.2.1.length ≤ 1000 ∧ InR n r.2.2.2 ∧ r.2.2.2.length ≤ 1000
  rn : o.2.1.length ≤ 100
  tie : ∀ t ∈ o.2.2, InR n t.1 ∧ t.1.length ≤ 1000 ∧ 0 ≤ t.2 ∧ t.2 < n
  tn : o.2.2.length ≤ 100
def RdPost (w : World) (o : Outc) (e : Ending) (w' : World) : Prop :=
  ∃ Be me de Br mr dr Bv mv dv, e = .returned (.agg #[.slice Be me de, .slice Br mr dr, .slice Bv mv dv]) ∧ ROut w' Be me de Br mr dr Bv mv dv o ∧ Below w.heap.size w w'
theorem retOutEnd {fn : Func} {R : Ending → World → Prop} {a : Act} {w : World} {p g : Nat} {C : Array Value} (hr : fn.results = #[.cell p 39]) (hp : a.tmps.getD p undef = .pointer (some ⟨g, 0, none⟩))
    (hg : Has w g 39 C) (hs : C.size = 3) (hd : a.defers = []) (hR : R (.returned (.agg C)) w) : bodyPost Tryz.prog fn R .ret a w :=
  bodyPost_ret (results_cell_row hr _ _ g _ C _ _ hp hg Tryz.underlying39 rfl (sizeOut.trans (by rw [hs]))) hd hR
theorem imgK_succ (l : List Int) (k : Nat) : (rangeI (k + 1)).filter (inL l) = (rangeI k).filter (inL l) ++ if inL l k = true then [(k : Int)] else [] := by
  rw [rangeI_succ, List.filter_append]
  simp only [List.filter_cons, List.filter_nil]
theorem arr_some {F : List Value} {i : Nat} (h : i < F.length) : ∃ u, F.toArray[i]? = some u := ⟨F[i], by simp [h]⟩
theorem make3 (n : Nat) (hn : n ≤ 1000) (w : World) : (Instr.makeSlice 60 (.int .i64 (n : Int)) (.int .i64 (n : Int))).run Tryz.prog w = .ok (.slice (some ⟨w.heap.size, 0, none⟩) n n) (w.alloc (.cells (List.replicate n zeroC).flatten.toArray 63)) := by
  obtain ⟨i0, hi, hz0, hz1, hz2⟩ := info_parts infoRat
  have hr := run_make (P := Tryz.prog) w 60 63 i0 _ Tryz.underlying60 hi hz0 .i64 .i64 n n (by omega) (Int.le_refl _) (by rw [hz2]; omega) (by omega)
  simp only [Int.toNat_natCast, hz1] at hr
  rw [hr, ← made3 n]
  rfl

set_option maxRecDepth 100000 in
set_option maxHeartbeats 4000000 in
theorem renamed_any (Ae : Option Addr) (ne ce : Nat) (Ar : Option Addr) (nr cr : Nat) (Av : Option Addr) (nv cv : Nat) (o : Outc) (Ap : Option Addr) (np cp : Nat) (perm : List Int) (w : World) (h : ROut w Ae ne ce Ar nr cr Av nv cv o) (hp : RInts w Ap np cp perm) (hN : Names perm np) (ok : OkO np o) :
    Calls Tryz.prog 41 #[.agg #[.slice Ae ne ce, .slice Ar nr cr, .slice Av nv cv], .slice Ap np cp] w (RdPost w (renO perm o)) := by
  obtain ⟨hE, hR, hV⟩ := h
  obtain ⟨el, rs, ts⟩ := o
  dsimp only at hE hR hV
  have hn10 := hN.le
  have hn1 := hN.one
  have HN := hide hN
  have Ok := hide ok
  have hnr : nr ≤ 100 := by have h1 := hR.len; have h2 := ok.rn; dsimp only at h2; omega
  have hnv : nv ≤ 100 := by have h1 := hV.len; have h2 := ok.tn; dsimp only at h2; omega
  have Hrl := hide hR.len
  have Hvl := hide hV.len
  have hne : ne ≤ 1000 := by have h1 := hE.len; have h2 := ok.eln; dsimp only at h2; omega
  clear hN ok
  have hb0 : Below w.heap.size w (w.alloc (.cells #[.slice Ae ne ce, .slice Ar nr cr, .slice Av nv cv] 39)) := below_allocN
  have hO0 := Has.new w 39 #[.slice Ae ne ce, .slice Ar nr cr, .slice Av nv cv]
  generalize hV0 : World.alloc w _ = V at hb0 hO0
  have hb1 : Below V.heap.size V (V.alloc (.cells #[.slice none 0 0, .slice none 0 0, .slice none 0 0] 39)) := below_allocN
  have hQ0 := Has.new V 39 #[.slice none 0 0, .slice none 0 0, .slice none 0 0]
  have hO1 := hO0.below hb1 hO0.lt
  have hgV : w.heap.size < V.heap.size := hO0.lt
  generalize hW0 : World.alloc V _ = W0 at hb1 hQ0 hO1
  have hgW : V.heap.size < W0.heap.size := hQ0.lt
  have hbW := Below_trans' hb0 hb0.size hb1
  have s0 := hO1.cell 0
  have hmk := make3 np (by omega)
  go_enter Tryz.func41, Tryz.ntmps41
  go_wp2_with fail
  try simp only [hV0, hW0]
  clear hV0 hW0
  refine (names_any Ae ne ce el Ap np cp perm W0 (hE.below hbW) (hp.below hbW) Ok.out.el hne).mono ?_
  rintro e w1 ⟨vE, rfl, hOE, hb01⟩
  have hmapb : ∀ l : List Int, InR np l → ∀ x ∈ l.map (nameS perm), -9223372036854775808 ≤ x ∧ x ≤ 9223372036854775807 := fun l hl x hx => by
    obtain ⟨y, hy, rfl⟩ := List.mem_map.1 hx
    have := HN.out.name_in (hl y hy)
    omega
  have Hmapb := hide hmapb
  clear hmapb
  have hEb : ∀ b, vE.ownBlock = some b → W0.heap.size ≤ b := fun b e => (hOE.lt b e).1
  have HEb := hide hEb
  clear hEb
  obtain ⟨AE, cE, rfl⟩ := hOE.slice
  have hRE := hOE.ints (Hmapb.out el Ok.out.el)
  have hfE : ∀ b, fpS AE (el.map (nameS perm)).length b → W0.heap.size ≤ b := fun b hb => HEb.out b (hOE.fps hb)
  generalize hel : el.map (nameS perm) = el' at *
  have Hel := hide hel
  generalize el'.length = nE at *
  have HfE := hide hfE
  clear hel hfE HEb hOE s0 hE
  have hO2 := hO1.below hb01 hO1.lt
  have hQ1 := hQ0.below hb01 hQ0.lt
  have hbw1 := Below_trans' hbW hbW.size hb01
  clear hO0 hO1 hQ0
  go_upto_region 2 with fail
  have hb12 : Below w1.heap.size w1 (w1.alloc (.cells #[.slice AE nE cE, .slice none 0 0, .slice none 0 0] 39)) := below_allocN
  have hG2 := Has.new w1 39 #[.slice AE nE cE, .slice none 0 0, .slice none 0 0]
  generalize World.alloc w1 _ = w2 at hb12 hG2 ⊢
  have hg12 : w1.heap.size < w2.heap.size := hG2.lt
  have hz1 := hbw1.size
  have hz01 := hb01.size
  go_wp2
  go_loopw [6] (fun i wr => ∃ (k : Nat) (rn : Value) (fr : Nat → Prop), k ≤ nr ∧ i = .int .i64 k ∧ Has wr w1.heap.size 39 #[.slice AE nE cE, rn, .slice none 0 0] ∧ OAgg ERnd 65 6 fr wr w2.heap.size rn ((rs.take k).map (renRnd perm)) ∧ Hid (∀ b, fr b → b < w.heap.size ∨ w2.heap.size ≤ b) ∧ w2.heap.size ≤ wr.heap.size ∧ Below w1.heap.size w1 wr) (fun i _ => nr - (intOf i).toNat)
  case atStart => exact ⟨0, _, _, Nat.zero_le _, rfl, hG2, OAgg.nil_ _ _ _ _ _, fun _ h => h.elim, Nat.le_refl _, hb12⟩
  case round =>
    obtain ⟨k, rn, fr, hk, rfl, hG, hOR, hfr, h2r, hb⟩ := hrel
    have hbw := Below_trans' hbw1 hbw1.size hb
    have hOb := hO2.below hb hO2.lt
    have q1 := hOb.cell 1
    by_cases hlt : k < nr
    · obtain ⟨wo, rfl⟩ : ∃ wo : World, wo = wr := ⟨_, rfl⟩
      obtain ⟨bR, oR, vs, x, eR, _, hcR, hER, _, hatR⟩ := hR.step hlt
      obtain ⟨A1, n1, c1, a1, a2, a3, A2, n2, c2, A3, n3, c3, rfl, h5, hL, h7, h9⟩ := hER
      obtain ⟨C1, k1, d1, C2, k2, d2, eqL, g1, g2⟩ := hL
      cases eqL
      have hokx := Ok.out.rnd x (List.mem_of_getElem? hatR.out)
      obtain ⟨had, ⟨ls, ln, ld⟩, elr, outr⟩ := x
      dsimp only at h5 g1 g2 h7 h9 hokx
      obtain ⟨hhl, hei, hen, hoi, hon⟩ := hokx
      obtain rfl : np = n1 := by have := h5.len; omega
      obtain ⟨bH, oH, vf, eH, hvf⟩ := h5.fn (by omega)
      subst eH
      have hn2 : n2 ≤ 1000 := by have := h7.len; omega
      have hn3 : n3 ≤ 1000 := by have := h9.len; omega
      have r0 := keep_cell hbw (hcR 0 _ rfl)
      have r1 := keep_cell hbw (hcR 1 _ rfl)
      have r2 := keep_cell hbw (hcR 2 _ rfl)
      have r3 := keep_cell hbw (hcR 3 _ rfl)
      have r4 := keep_cell hbw (hcR 4 _ rfl)
      have r5 := keep_cell hbw (hcR 5 _ rfl)
      simp only [Nat.add_zero] at r0
      dsimp only at r1
      have Hvf := hide hvf
      have Hhl := hide hhl
      have Hei := hide hei
      have Hoi := hide hoi
      clear hcR hvf hhl hei hoi hen hon
      subst eR
      go_upto_region 6 with fail
      have hb4 : Below wo.heap.size wo (wo.alloc (.cells #[.slice (some ⟨bH, oH, none⟩) np c1, .bool ls, .slice C1 k1 d1, .slice C2 k2 d2, .slice A2 n2 c2, .slice A3 n3 c3] 65)) := below_allocN
      have hX4 := Has.new wo 65 #[.slice (some ⟨bH, oH, none⟩) np c1, .bool ls, .slice C1 k1 d1, .slice C2 k2 d2, .slice A2 n2 c2, .slice A3 n3 c3]
      generalize World.alloc wo _ = w4 at hb4 hX4 ⊢
      clear r0 r1 r2 r3 r4 r5 q1
      have s0 := hX4.cell 0
      go_upto_region 7 with fail
      have hb5 : Below w4.heap.size w4 (w4.alloc (.cells (List.replicate np zeroC).flatten.toArray 63)) := below_allocN
      have hH5 := Has.new w4 63 (List.replicate np zeroC).flatten.toArray
      generalize World.alloc w4 _ = w5 at hb5 hH5 ⊢
      rw [← hadC_zero perm np vf] at hH5
      have hgo : wo.heap.size < w4.heap.size := hX4.lt
      have hg45 : w4.heap.size < w5.heap.size := hH5.lt
      have hbw4 := Below_trans' hbw hbw.size hb4
      have hzo := hb.size
      clear s0
      go_wp2
      go_loopw [9] (fun i wr => ∃ j : Nat, j ≤ np ∧ i = .int .i64 j ∧ Has wr w4.heap.size 63 (hadC perm np vf j).flatten.toArray ∧ Below w4.heap.size w4 wr) (fun i _ => np - (intOf i).toNat)
      case atStart => exact ⟨0, Nat.zero_le _, rfl, hH5, hb5⟩
      case round =>
        obtain ⟨j, hj, rfl, hH, hbj⟩ := hrel
        have hbwr := Below_trans' hbw4 hbw4.size hbj
        have hXr := hX4.below hbj hX4.lt
        have q0 := hXr.cell 0
        by_cases hjn : j < np
        · obtain ⟨bP, oP, v, rfl, hcP, _, hatP, _⟩ := (hp.below hbwr).step hjn
          obtain ⟨hv0, hv1⟩ := HN.out.rng v (List.mem_of_getElem? hatP.out)
          obtain ⟨U, rfl⟩ : ∃ U : Nat, v = U := ⟨v.toNat, by omega⟩
          obtain ⟨y, hy, hy3, hyc, hyE⟩ := Hvf.out j hjn
          obtain ⟨Aw, nw, cw, Aw', nw', cw', hvs, _, _⟩ := hyE
          rw [hvs] at hyc
          have e0 := keep_cell hbwr (hyc 0 _ rfl)
          have e1 := keep_cell hbwr (hyc 1 _ rfl)
          have e2 := keep_cell hbwr (hyc 2 _ rfl)
          simp only [Nat.add_zero] at e0
          have Hs : Hid ((hadC perm np vf (j + 1)).flatten = (((hadC perm np vf j).flatten.set (U * 3) (.bool y.1)).set (U * 3 + 1) (.slice Aw nw cw)).set (U * 3 + 2) (.slice Aw' nw' cw')) := by
            unfold Hid
            rw [hadC_succ HN.out hatP.out, hvs, flat_set3 (hadC_three HN.out (fun i hi => let ⟨x, _, h, _⟩ := Hvf.out i hi; h) j)]
          have Hfl : Hid ((hadC perm np vf j).flatten.length = np * 3) := by
            unfold Hid
            rw [flat_len (hadC_three HN.out (fun i hi => let ⟨x, _, h, _⟩ := Hvf.out i hi; h) j), length_hadC]
          generalize (hadC perm np vf j).flatten = F at hH Hs Hfl
          generalize y.1 = sy at *
          clear hy hy3 hyc hvs hatP
          go_upto_region 11 with fail
          refine wp_region_more_tail 10 (by kernel_rfl) (by kernel_rfl) ?_
          simp only [List.take]
          repeat (go_big_quiet_step (fail))
          refine wpQuiet_nil ?_
          rintro w7 ⟨qq, hw7⟩
          have hb7 := below_of_eq hw7
          clear hw7 qq e0 e1 e2 hcP q0
          have hH7 := hH.below hb7 hH.lt
          obtain ⟨u0, v0⟩ := arr_some (F := F) (i := U * 3) (by rw [Hfl.out]; omega)
          have t0 := (hH7.cell (U * 3)).trans v0
          obtain ⟨u1, v1⟩ := arr_some (F := F) (i := U * 3 + 1) (by rw [Hfl.out]; omega)
          have t1 := (hH7.cell (U * 3 + 1)).trans v1
          obtain ⟨u2, v2⟩ := arr_some (F := F) (i := U * 3 + 2) (by rw [Hfl.out]; omega)
          have t2 := (hH7.cell (U * 3 + 2)).trans v2
          have f0 := hH7.free (U * 3)
          have f1 := hH7.free (U * 3 + 1)
          have f2 := hH7.free (U * 3 + 2)
          have hH8 := ((hH7.put (U * 3) (.bool sy)).put (U * 3 + 1) (.slice Aw nw cw)).put (U * 3 + 2) (.slice Aw' nw' cw')
          have hb8 := (((Below_trans' hbj hbj.size hb7).setCell (p := ⟨w4.heap.size, U * 3, none⟩) (Nat.le_refl _) (.bool sy)).setCell (p := ⟨w4.heap.size, U * 3 + 1, none⟩) (Nat.le_refl _) (.slice Aw nw cw)).setCell (p := ⟨w4.heap.size, U * 3 + 2, none⟩) (Nat.le_refl _) (.slice Aw' nw' cw')
          simp only [List.setIfInBounds_toArray] at hH8
          rw [← Hs.out] at hH8
          go_wp2
          go_roundw
          case rel => exact ⟨j + 1, by omega, by go_num, hH8, hb8⟩
          case measure => simp [intOf] <;> omega
        · obtain rfl : np = j := by omega
          have hfl := filled (B := w4.heap.size) HN.out Hhl.out hbwr hbw4.size (Nat.le_refl _) hH (fun i hi => let ⟨x, h1, h2, _, h4⟩ := Hvf.out i hi; ⟨x, h1, h2, h4⟩)
          have hbor : Below wo.heap.size wo wr := Below_trans' hb4 hb4.size hbj
          have hGr := hG.below hbor hG.lt
          have hORr := hOR.below hbor
          obtain ⟨Arn, crn, rfl⟩ := hOR.slice
          have hrnb : ∀ b, (Value.slice Arn ((rs.take k).map (renRnd perm)).length crn).ownBlock = some b → w2.heap.size ≤ b ∧ b < wo.heap.size := fun b e => hOR.lt e
          have hlk : ((rs.take k).map (renRnd perm)).length ≤ 1000 := by rw [List.length_map, List.length_take]; omega
          have hfrl : ∀ b, fr b → b < wo.heap.size := fun b hb => hOR.fp_lt hb
          generalize ((rs.take k).map (renRnd perm)).length = nrn at hORr hrnb hlk hGr hG
          have Hrnb := hide hrnb
          have Hfrl := hide hfrl
          clear hrnb hfrl hOR hG hH
          have x0 := hXr.cell 1
          have x1 := hXr.cell 2
          have x2 := hXr.cell 3
          have x3 := hXr.cell 4
          have x4 := hXr.cell 5
          have y1 := hGr.cell 1
          go_upto_region 12 with fail
          refine wp_region_flowz [0, 1, 2, 3, 4, 5, 6, 7, 9, 10, 11] [0, 1, 2, 3, 4, 5, 6, 7, 9, 10, 11, 13] (fun w' => ∃ q, w' = More wr q) (by kernel_rfl) (by kernel_rfl) (below_more ((Below.refl wr.heap.size wr).drew)) ?_
          simp only [pickOps, List.getElem?_cons_zero, List.getElem?_cons_succ]
          repeat (go_big_quiet_step (fail))
          refine wpQuiet_nil ?_
          have hdr : Below wr.heap.size wr wr.drew := (Below.refl _ _).drew
          refine flow_one 8 (by kernel_rfl) rfl ?_
          clear x0 x1 x2 x3 x4 y1 q0
          go_wp2_with fail
          refine (names_any A2 n2 c2 elr Ap np cp perm _ ((h7.below hbwr).below hdr) ((hp.below hbwr).below hdr) Hei.out hn2).mono ?_
          rintro e wa ⟨va, rfl, hOa, hba⟩
          have hbra : Below wr.heap.size wr wa := Below_trans' hdr (Nat.le_refl _) hba
          have hOa : Own wa wr.heap.size va (elr.map (nameS perm)) := hOa
          obtain ⟨Aa, ca, rfl⟩ := hOa.slice
          have hRa := hOa.ints (Hmapb.out elr Hei.out)
          have hfa : ∀ b, fpS Aa (elr.map (nameS perm)).length b → wr.heap.size ≤ b := fun b hb => (hOa.lt b (hOa.fps hb)).1
          generalize (elr.map (nameS perm)).length = na at hRa hfa ⊢
          have Hfa := hide hfa
          clear hfa hOa
          go_wp2
          refine FlowPost.mk ⟨below_more hbra, ?_⟩
          refine flow_one 12 (by kernel_rfl) rfl ?_
          go_wp2_with fail
          refine (names_any A3 n3 c3 outr Ap np cp perm wa ((h9.below hbwr).below hbra) ((hp.below hbwr).below hbra) Hoi.out hn3).mono ?_
          rintro e wb ⟨vb, rfl, hOb', hbb⟩
          have hbrb : Below wr.heap.size wr wb := Below_trans' hbra hbra.size hbb
          obtain ⟨Ab, cb, rfl⟩ := hOb'.slice
          have hRb := hOb'.ints (Hmapb.out outr Hoi.out)
          have hfb : ∀ b, fpS Ab (outr.map (nameS perm)).length b → wr.heap.size ≤ b := fun b hb => by have h1 := (hOb'.lt b (hOb'.fps hb)).1; have h2 := hbra.size; omega
          generalize (outr.map (nameS perm)).length = nb at hRb hfb ⊢
          have Hfb := hide hfb
          clear hfb hOb'
          go_wp2
          refine FlowPost.mk ⟨below_more hbrb, ?_⟩
          refine flow_pure [13] (by kernel_rfl) (below_more hbrb) ?_
          simp only [pickOps, List.getElem?_cons_zero, List.getElem?_cons_succ]
          repeat (go_big_quiet_step (fail))
          refine wpQuiet_nil ?_
          refine flow_one 14 (by kernel_rfl) rfl ?_
          go_wp2
          refine FlowPost.mk ⟨below_more (hbrb.alloc hbrb.size _), ?_⟩
          refine flow_rest [15, 16, 17] (by kernel_rfl) ?_
          simp only [pickOps, List.getElem?_cons_zero, List.getElem?_cons_succ]
          have hbwb := Below_trans' hbwr hbwr.size hbrb
          have hlo : ERat w [.bool ls, .slice C1 k1 d1, .slice C2 k2 d2] (ls, ln, ld) := ⟨_, _, _, _, _, _, rfl, g1, g2⟩
          have hEr := (((hfl.below hbrb).on.and ((erat_on hlo).below hbwb)).and ((hRa.below hbb).on.and hRb.on)).imp (R' := fun W' => ERnd W' [.slice (some ⟨w4.heap.size, 0, none⟩) np np, .bool ls, .slice C1 k1 d1, .slice C2 k2 d2, .slice Aa na ca, .slice Ab nb cb] (renRnd perm (had, (ls, ln, ld), elr, outr))) fun W' hW => ⟨_, _, _, _, _, _, _, _, _, _, _, _, rfl, hW.1.1, hW.1.2, hW.2.1, hW.2.2⟩
          have hgx : ∀ b, ((((fun b => b < w.heap.size) b ∨ (Value.slice (some ⟨w4.heap.size, 0, none⟩) np np).ownBlock = some b) ∨ b < w.heap.size) ∨ (fpS Aa na b ∨ fpS Ab nb b)) → b < w.heap.size ∨ wo.heap.size ≤ b := fun b hb => by
            rcases hb with ((hb | hb) | hb) | hb | hb
            · exact .inl hb
            · have e2 : w4.heap.size = b := Option.some.inj hb; omega
            · exact .inl hb
            · have h1 := Hfa.out b hb; have h2 := hbor.size; omega
            · have h1 := Hfb.out b hb; have h2 := hbor.size; omega
          have Hgx := hide hgx
          clear hgx
          obtain ⟨v', w', h41, hA⟩ := app_put_at infoRnd Tryz.underlying36 rfl (by decide) (by decide) 1 (hGr.below hbrb hGr.lt) (hORr.below hbrb) hEr rfl (by simp [Value.oneCell'])
            (fun b e hf => by have h1 := Hrnb.out b e; have h2 := Hgx.out b hf; omega) (fun h => by have h1 := hfr.out _ h; omega) (fun h => by have h1 := Hgx.out _ h; omega) (fun e => by have h1 := Hrnb.out _ e; omega)
            (by have := hbor.size; have := hbrb.size; omega) (by rw [List.length_map, List.length_take]; omega) (below_allocN (o := .cells #[.slice (some ⟨w4.heap.size, 0, none⟩) np np, .bool ls, .slice C1 k1 d1, .slice C2 k2 d2, .slice Aa na ca, .slice Ab nb cb] 65)) (Has.new _ _ _)
          obtain ⟨Av', nv', cv', rfl⟩ : ∃ A n c, v' = .slice A n c := let ⟨A, c, e⟩ := hA.own.slice; ⟨A, _, c, e⟩
          have y1 := hA.hg.cell 1
          have y2 := hA.hg.free 1
          clear hEr
          go_wp2_with (at_builtin; refine list_app rfl rfl rfl rfl h41 ?_)
          have hs : Hid ((rs.take (k + 1)).map (renRnd perm) = (rs.take k).map (renRnd perm) ++ [renRnd perm (had, (ls, ln, ld), elr, outr)]) := by
            unfold Hid; rw [List.take_add_one, hatR.out, List.map_append]; rfl
          go_roundw
          case rel => exact ⟨k + 1, _, _, by omega, by go_num, hA.put, by rw [hs.out]; exact hA.own, fun b hb => by
            rcases hb with hb | hb
            · exact hfr.out b hb
            · have := Hgx.out b hb; omega, by have h1 := hA.fr2.size; have h2 := hbor.size; have h3 := hbrb.size; omega, Frame'.below (Below_trans' hb hb.size (Below_trans' hbor hbor.size hbrb)) hA.fr2 (fun b hb' => by rcases hb' with e | e; omega; have := Hrnb.out b e; omega) (by have h2 := hbor.size; have h3 := hbrb.size; omega)⟩
          case measure => simp [intOf] <;> omega
    · obtain ⟨wz, rfl⟩ : ∃ wz : World, wz = wr := ⟨_, rfl⟩
      have hkr : Hid (rs.take k = rs) := List.take_of_length_le (by rw [Hrl.out]; omega)
      rw [hkr.out] at hOR
      obtain ⟨Arn, crn, rfl⟩ := hOR.slice
      have hrnb : ∀ b, (Value.slice Arn (rs.map (renRnd perm)).length crn).ownBlock = some b → w2.heap.size ≤ b ∧ b < wz.heap.size := fun b e => hOR.lt e
      have Hrnb := hide hrnb
      have hfrl : Hid (∀ b, fr b → b < wz.heap.size) := fun b hb => hOR.fp_lt hb
      generalize hnrn : (rs.map (renRnd perm)).length = nrn at *
      have Hnrn := hide hnrn
      have hHOR := hOR
      have hQz := hQ1.below hb hQ1.lt
      have hREz := hRE.below hb
      have hgz : w1.heap.size < wz.heap.size := hG.lt
      clear hrnb hOR hnrn
      go_wp2
      clear q1 hk hlt
      go_loopw [10] (fun i wr => ∃ (k : Nat) (tn : Value) (ft : Nat → Prop), k ≤ nv ∧ i = .int .i64 k ∧ Has wr w1.heap.size 39 #[.slice AE nE cE, .slice Arn nrn crn, tn] ∧ OAgg ETie 110 2 ft wr wz.heap.size tn ((ts.take k).map (renTie perm)) ∧ Hid (∀ b, ft b → wz.heap.size ≤ b) ∧ Frame' (fun b => b = w1.heap.size) wz wr) (fun i _ => nv - (intOf i).toNat)
      case atStart => exact ⟨0, _, _, Nat.zero_le _, rfl, hG, OAgg.nil_ _ _ _ _ _, fun _ h => h.elim, Frame'.refl _ _⟩
      case round =>
        obtain ⟨k, tn, ft, hk, rfl, hG, hOT, hft, hF⟩ := hrel
        have hbr : Below w1.heap.size w1 wr := Frame'.below hb hF (fun b e => by omega) hb.size
        have hbwr := Below_trans' hbw1 hbw1.size hbr
        have hOb := hO2.below hbr hO2.lt
        have q2 := hOb.cell 2
        by_cases hlt : k < nv
        · obtain ⟨wo, rfl⟩ : ∃ wo : World, wo = wr := ⟨_, rfl⟩
          obtain ⟨bT, oT, vs, x, eT, _, hcT, hET, _, hatT⟩ := hV.step hlt
          obtain ⟨A1, n1, c1, rfl, h5, hx⟩ := hET
          have hokx := Ok.out.tie x (List.mem_of_getElem? hatT.out)
          obtain ⟨among, x⟩ := x
          dsimp only at h5 hx hokx
          obtain ⟨hai, han, hx0, hx1⟩ := hokx
          have hn1' : n1 ≤ 1000 := by have := h5.len; omega
          have Hai := hide hai
          subst eT
          have r0 := keep_cell hbwr (hcT 0 _ rfl)
          have r1 := keep_cell hbwr (hcT 1 _ rfl)
          simp only [Nat.add_zero] at r0
          dsimp only at r1
          clear hai han
          go_wp2_with fail
          refine (names_any A1 n1 c1 among Ap np cp perm wo (h5.below hbwr) (hp.below hbwr) Hai.out hn1').mono ?_
          rintro e wa ⟨va, rfl, hOa, hba⟩
          obtain ⟨Aa, ca, rfl⟩ := hOa.slice
          have hRa := hOa.ints (Hmapb.out among Hai.out)
          generalize (among.map (nameS perm)).length = na at hRa ⊢
          have hbwa := Below_trans' hbwr hbwr.size hba
          have hpa := (hp.below hbwr).below hba
          clear hOa q2 r0 r1
          go_wp2
          go_loopw [12, 13] (fun v i wr => ∃ j : Nat, j ≤ np ∧ i = .int .i64 j ∧ Own wr wa.heap.size v ((rangeI j).filter (inL (among.map (nameS perm)))) ∧ Below wa.heap.size wa wr) (fun v i _ => np - (intOf i).toNat)
          case atStart => exact ⟨0, Nat.zero_le _, rfl, Own.nil_ _ _, Below.refl _ _⟩
          case round =>
            obtain ⟨j, hj, rfl, hOv, hbj⟩ := hrel
            have hzj := hbj.size
            have hlj : ((rangeI j).filter (inL (among.map (nameS perm)))).length ≤ 1000 := Nat.le_trans (List.length_filter_le _ _) (by rw [length_rangeI]; omega)
            by_cases hjn : j < np
            · have hin := in_any Aa na ca (among.map (nameS perm)) j wr (hRa.below hbj)
              have hs := hide (imgK_succ (among.map (nameS perm)) j)
              cases hv : inL (among.map (nameS perm)) (j : Int) with
              | true =>
                rw [hv] at hin
                have Hv := hide hv
                clear hv
                generalize hS : (rangeI j).filter (inL (among.map (nameS perm))) = S at *
                clear hS
                go_wp2_with fail
                refine hin.mono ?_
                rintro e w' ⟨rfl, rfl⟩
                go_wp2_with (at_builtin; refine appInt rfl rfl rfl (hOv.below below_allocN) rfl ((Has.new _ _ _).cell 0) (by omega) (by simp; omega) ?_)
                intro v' w' hO' hg
                go_wp2
                go_roundw
                case rel => exact ⟨j + 1, by omega, by go_num, by rw [hs.out, if_pos Hv.out]; exact hO', (hbj.alloc hzj _).grown hg (by simp; omega) (fun b hb => (hOv.lt b hb).1)⟩
                case measure => simp [intOf] <;> omega
              | false =>
                rw [hv] at hin
                have Hv := hide hv
                clear hv
                go_wp2_with fail
                refine hin.mono ?_
                rintro e w' ⟨rfl, rfl⟩
                go_wp2
                go_roundw
                case rel => exact ⟨j + 1, by omega, by go_num, by rw [hs.out, if_neg (by rw [Hv.out]; simp), List.append_nil]; exact hOv, hbj⟩
                case measure => simp [intOf] <;> omega
            · obtain rfl : np = j := by omega
              obtain ⟨wy, rfl⟩ : ∃ wy : World, wy = wr := ⟨_, rfl⟩
              have hAm : Hid ((rangeI np).filter (inL (among.map (nameS perm))) = imgS perm perm.length among) := by unfold Hid imgS; rw [HN.out.len]
              have hAr : ∀ y ∈ (rangeI np).filter (inL (among.map (nameS perm))), -9223372036854775808 ≤ y ∧ y ≤ 9223372036854775807 := fun y hy => by have := mem_rangeI.1 (List.mem_filter.1 hy).1; omega
              obtain ⟨Ab, cb, rfl⟩ := hOv.slice
              have hRb := hOv.ints hAr
              have hfb : ∀ b, fpS Ab ((rangeI np).filter (inL (among.map (nameS perm)))).length b → wo.heap.size ≤ b := fun b hb => by have h1 := (hOv.lt b (hOv.fps hb)).1; have h2 := hba.size; omega
              generalize (rangeI np).filter (inL (among.map (nameS perm))) = S at *
              generalize S.length = nb at hRb hfb ⊢
              have Hfb := hide hfb
              have hboy : Below wo.heap.size wo wy := Below_trans' hba hba.size hbj
              have hbwy := Below_trans' hbwr hbwr.size hboy
              have hGy := hG.below hboy hG.lt
              have hOTy := hOT.below hboy
              obtain ⟨Atn, ctn, rfl⟩ := hOT.slice
              have Htnb : Hid (∀ b, (Value.slice Atn ((ts.take k).map (renTie perm)).length ctn).ownBlock = some b → wz.heap.size ≤ b ∧ b < wo.heap.size) := fun b e => hOT.lt e
              have hlk : ((ts.take k).map (renTie perm)).length ≤ 1000 := by rw [List.length_map, List.length_take]; omega
              generalize ((ts.take k).map (renTie perm)).length = ntn at *
              have hzo : wz.heap.size ≤ wo.heap.size := hF.size
              have hwxn := HN.out.name_in ⟨hx0, hx1⟩
              have y2 := hGy.cell 2
              have q2 := (hOb.below hboy hOb.lt).cell 2
              have r1 := keep_cell hbwy (hcT 1 _ rfl)
              clear hfb hAr hOv hRa hOT hG
              go_upto_region 23 with fail
              refine wp_region_flowz [0, 1, 2, 3, 4, 5, 6, 7, 8, 10] [0, 1, 2, 3, 4, 5, 6, 7, 8, 10] (fun w' => ∃ q, w' = More wy q) (by kernel_rfl) (by kernel_rfl) (below_more ((Below.refl wy.heap.size wy).drew)) ?_
              simp only [pickOps, List.getElem?_cons_zero, List.getElem?_cons_succ]
              repeat (go_big_quiet_step (fail))
              refine wpQuiet_nil ?_
              refine flow_one 9 (by kernel_rfl) rfl ?_
              have hbc : Below wy.heap.size wy (wy.alloc (.cells #[.int .i64 x] 3)).drew := ((Below.refl _ _).alloc (Nat.le_refl _) _).drew
              have hNc : Has (wy.alloc (.cells #[.int .i64 x] 3)).drew wy.heap.size 3 #[.int .i64 x] := (Has.new wy 3 #[.int .i64 x]).drew
              clear y2 q2 r1
              go_wp2
              generalize World.drew _ = wc at hbc hNc ⊢
              refine FlowPost.mk ⟨below_more hbc, ?_⟩
              refine flow_one 11 (by kernel_rfl) rfl ?_
              go_wp2_with fail
              refine (names_any (some ⟨wy.heap.size, 0, none⟩) 1 1 [x] Ap np cp perm wc (lit_ints hNc hx) ((hpa.below hbj).below hbc) (fun y hy => by rw [List.mem_singleton.1 hy]; exact ⟨hx0, hx1⟩) (by omega)).mono ?_
              rintro e wd ⟨vd, rfl, hOd, hbd⟩
              have hbyd := Below_trans' hbc hbc.size hbd
              have hOd1 : Own wd wc.heap.size vd [nameS perm x] := hOd
              obtain ⟨Ad, cd, rfl⟩ := hOd1.slice
              obtain ⟨bd, od, xd, ed, hcd, _, hatd, _⟩ := (hOd1.ints (fun y hy => by rw [List.mem_singleton.1 hy]; omega)).step (show 0 < [nameS perm x].length by simp)
              subst ed
              obtain rfl : xd = nameS perm x := by simpa using hatd.out.symm
              simp only [Nat.add_zero] at hcd
              have hNl : [nameS perm x].length = 1 := rfl
              rw [hNl]
              clear hOd hOd1 hatd hNl hNc
              go_wp2
              refine FlowPost.mk ⟨below_more hbyd, ?_⟩
              refine flow_one 12 (by kernel_rfl) rfl ?_
              go_wp2
              refine FlowPost.mk ⟨below_more hbyd, ?_⟩
              refine flow_one 13 (by kernel_rfl) rfl ?_
              go_wp2
              refine FlowPost.mk ⟨below_more hbyd, ?_⟩
              refine flow_one 14 (by kernel_rfl) rfl ?_
              go_wp2
              refine FlowPost.mk ⟨below_more hbyd, ?_⟩
              refine flow_one 15 (by kernel_rfl) rfl ?_
              go_wp2
              refine FlowPost.mk ⟨below_more (hbyd.alloc hbyd.size _), ?_⟩
              refine flow_rest [16, 17, 18] (by kernel_rfl) ?_
              simp only [pickOps, List.getElem?_cons_zero, List.getElem?_cons_succ]
              have hEt := ((hRb.below hbyd).on).imp (R' := fun W' => ETie W' [.slice Ab nb cb, .int .i64 (nameS perm x)] (renTie perm (among, x))) fun W' hW => ⟨_, _, _, rfl, by unfold renTie; rw [← hAm.out]; exact hW, by unfold I64; show _ ≤ nameS perm x ∧ nameS perm x ≤ _; omega⟩
              obtain ⟨v', w', h41, hA⟩ := app_put_at infoTie Tryz.underlying37 rfl (by decide) (by decide) 2 (hGy.below hbyd hGy.lt) (hOTy.below hbyd) hEt rfl (by simp [Value.oneCell'])
                (fun b e hf => by have h1 := Htnb.out b e; have h2 := Hfb.out b hf; omega) (fun h => by have h1 := hft.out _ h; omega) (fun h => by have h1 := Hfb.out _ h; omega) (fun e => by have h1 := Htnb.out _ e; omega)
                (by have := hboy.size; have := hbyd.size; omega) (by rw [List.length_map, List.length_take]; omega) (below_allocN (o := .cells #[.slice Ab nb cb, .int .i64 (nameS perm x)] 110)) (Has.new _ _ _)
              have hs : Hid ((ts.take (k + 1)).map (renTie perm) = (ts.take k).map (renTie perm) ++ [renTie perm (among, x)]) := by
                unfold Hid; rw [List.take_add_one, hatT.out, List.map_append]; rfl
              obtain ⟨Av', nv', cv', rfl⟩ : ∃ A n c, v' = .slice A n c := let ⟨A, c, e⟩ := hA.own.slice; ⟨A, _, c, e⟩
              have y1 := hA.hg.cell 2
              have y2 := hA.hg.free 2
              clear hEt
              go_wp2_with (at_builtin; refine list_app rfl rfl rfl rfl h41 ?_)
              go_roundw
              case rel => exact ⟨k + 1, _, _, by omega, by go_num, hA.put, by rw [hs.out]; exact hA.own, fun b hb => by
                rcases hb with hb | hb
                · exact hft.out b hb
                · have := Hfb.out b hb; omega, (((hF.trans (Frame'.of_below (Below_trans' hboy hboy.size hbyd))).mono fun _ _ h => .inl h).trans hA.fr2).mono fun b hb h => h.resolve_right fun e => by have := Htnb.out b e; omega⟩
              case measure => simp [intOf] <;> omega
        · obtain ⟨wy, rfl⟩ : ∃ wy : World, wy = wr := ⟨_, rfl⟩
          have hkt : Hid (ts.take k = ts) := List.take_of_length_le (by rw [Hvl.out]; omega)
          rw [hkt.out] at hOT
          obtain ⟨Atn, ctn, rfl⟩ := hOT.slice
          have Htnb : Hid (∀ b, (Value.slice Atn (ts.map (renTie perm)).length ctn).ownBlock = some b → wz.heap.size ≤ b) := fun b e => (hOT.lt e).1
          generalize (ts.map (renTie perm)).length = ntn at *
          have hQ := hF.has hQz (fun e => by omega)
          have y0 := hG.cell 0
          have y1 := hG.cell 1
          have y2 := hG.cell 2
          have z0 := hQ.cell 0
          have z1 := hQ.cell 1
          have z2 := hQ.cell 2
          have f0 := hQ.free 0
          have f1 := hQ.free 1
          have f2 := hQ.free 2
          have hP := put3 (x' := .slice AE nE cE) (y' := .slice Arn nrn crn) (z' := .slice Atn ntn ctn) hQ
          have kF := frame3 wy V.heap.size (.slice AE nE cE) (.slice Arn nrn crn) (.slice Atn ntn ctn)
          go_wp2
          refine retOutEnd rfl rfl hP rfl rfl ⟨AE, nE, cE, Arn, nrn, crn, Atn, ntn, ctn, rfl, ⟨?_, ?_, ?_⟩, Frame'.below hbwr kF (fun b e => by omega) hbwr.size⟩
          · show RInts _ AE nE cE (el.map (nameS perm))
            rw [Hel.out]
            exact ((hREz.on.frame hF (fun b hb e => by have h1 := hRE.on.1 b hb; omega)).frame kF (fun b hb e => by have h1 := HfE.out b hb; omega)).get
          · exact ((hHOR.frame hF (fun b hb e => by have h1 := hfr.out b hb; omega) (fun b hb e => by have h1 := Hrnb.out b hb; omega)).frame kF (fun b hb e => by have h1 := hfr.out b hb; omega) (fun b hb e => by have h1 := Hrnb.out b hb; omega)).reads
          · exact (hOT.frame kF (fun b hb e => by have h1 := hft.out b hb; omega) (fun b hb e => by have h1 := Htnb.out b hb; omega)).reads
end Go.Proofs.YtolbceckbnifmaaGreat
