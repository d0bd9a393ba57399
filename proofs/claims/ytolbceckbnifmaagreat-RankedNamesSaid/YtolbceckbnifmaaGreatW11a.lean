/-
  The reference's In, All, Alike, Least, Last, Without: of numbers.
  The reference's Alike, Least and Tied.
  Whole numbers as ratios: slices of them; a tie more.
-/
import Derived.Test.YtolbceckbnifmaaGreatAgg
import Derived.Test.YtolbceckbnifmaaGreatMem3
import Derived.Test.YtolbceckbnifmaaGreatW8i
import Derived.Test.YtolbceckbnifmaaGreatW3b
namespace Go.Proofs.YtolbceckbnifmaaGreat
open Go.RowKit Go.Proofs
attribute [local go_sem] cell?_more cell?_alloc_some cell?_setCell_far frozen?_alloc_some frozen?_more
/-- What hands back numbers of its own. -/
def IPost (w : World) (xs : List Int) (e : Ending) (w' : World) : Prop := ∃ v, e = .returned v ∧ Own w' w.heap.size v xs ∧ Below w.heap.size w w'
theorem inL_cons (a : Int) (l : List Int) (x : Int) : inL (a :: l) x = (decide (x = a) || inL l x) := by unfold inL; simp [List.mem_cons]
theorem inL_nil (x : Int) : inL [] x = false := by unfold inL; simp

theorem in_any (A : Option Addr) (n c : Nat) (xs : List Int) (x : Int) (w : World) (h : RInts w A n c xs) :
    Calls Tryz.prog 31 #[.slice A n c, .int .i64 x] w fun e w' => e = .returned (.bool (inL xs x)) ∧ w = w' := by
  have hn := h.le
  go_enter Tryz.func31, Tryz.ntmps31
  go_wp2
  go_loop [5] (fun i => ∃ k : Nat, k ≤ n ∧ i = .int .i64 k ∧ Hid (inL xs x = inL (xs.drop k) x)) (fun i => n - (intOf i).toNat)
  case atStart => exact ⟨0, Nat.zero_le _, rfl, by simp [Hid]⟩
  case round =>
    obtain ⟨k, hk, rfl, hq⟩ := hrel
    by_cases hlt : k < n
    · obtain ⟨b, off, v, rfl, hc, hd, hat, _⟩ := h.step hlt
      have hq2 : Hid (inL xs x = (decide (x = v) || inL (xs.drop (k + 1)) x)) := by unfold Hid; rw [hq.out, hd.out, inL_cons]
      clear hat hd hq
      by_cases hv : v = x
      · have hz : (v == x) = true := by simp [hv]
        have Hv := hide hv
        clear hv
        go_wp2
        go_ret
        exact ⟨ret_b (by rw [hq2.out]; simp [Hv.out]), rfl⟩
      · have hz : (v == x) = false := by simp [hv]
        have Hv := hide hv
        clear hv
        go_wp2
        go_round
        case rel => exact ⟨k + 1, by omega, by go_num, by unfold Hid; rw [hq2.out]; simp [Ne.symm Hv.out]⟩
        case measure => simp [intOf] <;> omega
    · have hd := hide (h.done hlt)
      go_wp2
      go_ret
      exact ⟨ret_b (by rw [hq.out, hd.out, inL_nil]), rfl⟩

/-- All the candidates, by the reference. -/
theorem rall_any (n : Nat) (w : World) (hn : n ≤ 1000) : Calls Tryz.prog 32 #[.int .i64 n] w (IPost w (rangeI n)) := by
  go_enter Tryz.func32, Tryz.ntmps32
  go_wp2
  go_loopw [3, 4] (fun v i wr => ∃ k : Nat, k ≤ n ∧ i = .int .i64 k ∧ Own wr w.heap.size v (rangeI k) ∧ Below w.heap.size w wr) (fun v i _ => n - (intOf i).toNat)
  case atStart => exact ⟨0, Nat.zero_le _, rfl, Own.nil_ _ _, Below.refl _ _⟩
  case round =>
    obtain ⟨k, hk, rfl, hO, hb⟩ := hrel
    have hz := hb.size
    by_cases hlt : k < n
    · go_wp2_with (at_builtin; refine appInt rfl rfl rfl (hO.below ((Below.refl _ _).alloc (Nat.le_refl _) _)) rfl ((Has.new _ _ _).cell 0) (by rw [length_rangeI]; omega) (by simp; omega) ?_)
      intro v' w' hO' hg
      go_wp2
      go_roundw
      case rel => exact ⟨k + 1, by omega, by go_num, by rw [rangeI_succ]; exact hO', (hb.alloc hz _).grown hg (by simp; omega) (fun j hj => (hO.lt j hj).1)⟩
      case measure => simp [intOf] <;> omega
    · obtain rfl : k = n := by omega
      go_wp2
      go_ret
      exact ⟨_, rfl, hO, hb⟩
/-- All the candidates, by the program. -/
theorem pall_any (n : Nat) (w : World) (hn : n ≤ 1000) : Calls Tryz.prog 52 #[.int .i64 n] w (IPost w (rangeI n)) := by
  go_enter Tryz.func52, Tryz.ntmps52
  go_wp2
  go_loopw [2, 5] (fun v i wr => ∃ k : Nat, k ≤ n ∧ i = .int .i64 k ∧ Own wr w.heap.size v (rangeI k) ∧ Below w.heap.size w wr) (fun v i _ => n - (intOf i).toNat)
  case atStart => exact ⟨0, Nat.zero_le _, rfl, Own.nil_ _ _, Below.refl _ _⟩
  case round =>
    obtain ⟨k, hk, rfl, hO, hb⟩ := hrel
    have hz := hb.size
    by_cases hlt : k < n
    · go_wp2_with (at_builtin; refine appInt rfl rfl rfl (hO.below ((Below.refl _ _).alloc (Nat.le_refl _) _)) rfl ((Has.new _ _ _).cell 0) (by rw [length_rangeI]; omega) (by simp; omega) ?_)
      intro v' w' hO' hg
      go_wp2
      go_roundw
      case rel => exact ⟨k + 1, by omega, by go_num, by rw [rangeI_succ]; exact hO', (hb.alloc hz _).grown hg (by simp; omega) (fun j hj => (hO.lt j hj).1)⟩
      case measure => simp [intOf] <;> omega
    · obtain rfl : k = n := by omega
      go_wp2
      go_ret
      exact ⟨_, rfl, hO, hb⟩

/-- All but one. -/
theorem without_any (A : Option Addr) (n c : Nat) (xs : List Int) (x : Int) (w : World) (h : RInts w A n c xs) (hn : n ≤ 1000) :
    Calls Tryz.prog 33 #[.slice A n c, .int .i64 x] w (IPost w (outS xs x)) := by
  have hl := hide h.len
  have hlen : ∀ k, (outS (xs.take k) x).length ≤ k := fun k => Nat.le_trans (outS_sub _ _).length_le (by rw [List.length_take]; omega)
  have hnx : ∀ k v, xs[k]? = some v → outS (xs.take (k + 1)) x = outS (xs.take k) x ++ if v = x then [] else [v] := fun k v hv => by
    unfold outS
    rw [List.take_add_one, hv, List.filter_append]
    congr 1
    by_cases e : v = x <;> simp [e]
  have Hlen := hide hlen
  have Hnx := hide hnx
  clear hlen hnx
  go_enter Tryz.func33, Tryz.ntmps33
  go_wp2
  go_loopw [5, 6] (fun v i wr => ∃ k : Nat, k ≤ n ∧ i = .int .i64 k ∧ Own wr w.heap.size v (outS (xs.take k) x) ∧ Below w.heap.size w wr) (fun v i _ => n - (intOf i).toNat)
  case atStart => exact ⟨0, Nat.zero_le _, rfl, Own.nil_ _ _, Below.refl _ _⟩
  case round =>
    obtain ⟨k, hk, rfl, hO, hb⟩ := hrel
    have hz := hb.size
    have hle := Hlen.out k
    by_cases hlt : k < n
    · obtain ⟨b, off, v, rfl, hc, hd, hat, _⟩ := (h.below hb).step hlt
      have hs := hide (Hnx.out k v hat.out)
      clear hat hd
      by_cases hv : v = x
      · have hz : (v != x) = false := by simp [hv]
        have Hv := hide hv
        clear hv
        go_wp2
        go_roundw
        case rel => exact ⟨k + 1, by omega, by go_num, by rw [hs.out, if_pos Hv.out, List.append_nil]; exact hO, hb⟩
        case measure => simp [intOf] <;> omega
      · have hz' : (v != x) = true := by simp [hv]
        have Hv := hide hv
        clear hv
        go_wp2_with (at_builtin; refine appInt rfl rfl rfl (hO.below ((Below.refl _ _).alloc (Nat.le_refl _) _)) rfl ((Has.new _ _ _).cell 0) (by omega) (by simp; omega) ?_)
        intro v' w' hO' hg
        go_wp2
        go_roundw
        case rel => exact ⟨k + 1, by omega, by go_num, by rw [hs.out, if_neg Hv.out]; exact hO', (hb.alloc hz _).grown hg (by simp; omega) (fun j hj => (hO.lt j hj).1)⟩
        case measure => simp [intOf] <;> omega
    · have e : Hid (xs.take k = xs) := List.take_of_length_le (by rw [hl.out]; omega)
      rw [e.out] at hO
      go_wp2
      go_ret
      exact ⟨_, rfl, hO, hb⟩

theorem lastS_step {lot among : List Int} {k : Nat} {v : Int} (h : lot[k]? = some v) : lastS (lot.take (k + 1)) among = if inL among v = true then v else lastS (lot.take k) among := by
  unfold lastS
  rw [List.take_add_one, h, List.reverse_append]
  simp only [Option.toList_some, List.reverse_cons, List.reverse_nil, List.nil_append, List.cons_append, List.find?_cons]
  cases inL among v <;> simp
end Go.Proofs.YtolbceckbnifmaaGreat

namespace Go.Proofs.YtolbceckbnifmaaGreat
open Go.RowKit Go.Proofs
attribute [local go_sem] cell?_more cell?_alloc_some cell?_setCell_far frozen?_alloc_some frozen?_more
theorem Own.made (w : World) (B n : Nat) (hB : B ≤ w.heap.size) (hn : n ≤ 1000000) : Own (w.alloc (.cells (madeCells #[.int .i64 0] n) 3)) B (.slice (some ⟨w.heap.size, 0, none⟩) n n) (List.replicate n 0) := by
  unfold Own
  have := World.ownsRow_lit (base := B) (e := 3) (size := 1) w (madeCells #[.int .i64 0] n) n hB (by unfold maxLen; omega) (by rw [size_madeCells]; simp)
  rw [toList_madeCells_one] at this
  simpa using this

/-- Is c alike, as far as the first j of among tell? -/
def alikeB (among has : List Int) (c : Int) (j : Nat) : Bool := inL among c && (among.take j).all fun k => decide (getI has k ≤ getI has c)
theorem alikeB_zero (among has : List Int) (c : Int) : alikeB among has c 0 = inL among c := by simp [alikeB]
theorem alikeB_succ {among has : List Int} {c : Int} {j : Nat} {v : Int} (h : among[j]? = some v) : alikeB among has c (j + 1) = (alikeB among has c j && decide (getI has v ≤ getI has c)) := by
  unfold alikeB
  rw [List.take_add_one, h, List.all_append]
  simp [Bool.and_assoc]
theorem alikeB_all (among has : List Int) (c : Int) {j : Nat} (h : among.length ≤ j) : alikeB among has c j = (inL among c && among.all fun k => decide (getI has k ≤ getI has c)) := by
  unfold alikeB; rw [List.take_of_length_le h]
def alikeT (among has : List Int) (k : Nat) : List Int := (rangeI k).filter fun c => alikeB among has c among.length
theorem alikeT_succ (among has : List Int) (k : Nat) : alikeT among has (k + 1) = alikeT among has k ++ if alikeB among has k among.length = true then [(k : Int)] else [] := by
  unfold alikeT
  rw [rangeI_succ, List.filter_append]
  congr 1
  simp only [List.filter_cons, List.filter_nil]
theorem alikeT_all (among has : List Int) : alikeT among has has.length = alikeS among has := by
  unfold alikeT alikeS
  exact List.filter_congr fun c _ => alikeB_all among has c (Nat.le_refl _)
theorem length_alikeT (among has : List Int) (k : Nat) : (alikeT among has k).length ≤ k := Nat.le_trans (List.length_filter_le _ _) (by rw [length_rangeI]; exact Nat.le_refl _)
theorem getI_of {h : List Int} {V : Nat} {x : Int} (e : h[V]? = some x) : getI h (V : Int) = x := by unfold getI; simp [List.getD, e]

/-- The first k turned. -/
def negT (has : List Int) (k : Nat) : List Int := (List.range has.length).map fun i => if i < k then - has.getD i 0 else 0
theorem length_negT (has : List Int) (k : Nat) : (negT has k).length = has.length := by simp [negT]
theorem negT_zero (has : List Int) : negT has 0 = List.replicate has.length 0 := by
  unfold negT
  refine List.ext_getElem (by simp) fun i h1 h2 => ?_
  simp
theorem negT_succ {has : List Int} {k : Nat} {v : Int} (h : has[k]? = some v) : negT has (k + 1) = (negT has k).set k (-v) := by
  refine List.ext_getElem? fun i => ?_
  have hk : k < has.length := (List.getElem?_eq_some_iff.1 h).1
  by_cases hi : i < has.length
  · by_cases e : i = k
    · subst e
      rw [List.getElem?_set_self (by rw [length_negT]; exact hi)]
      simp [negT, hi, List.getD]
      exact Option.some.inj ((List.getElem?_eq_getElem hi).symm.trans h)
    · rw [List.getElem?_set_ne (Ne.symm e)]
      simp only [negT, List.getElem?_map, List.getElem?_range hi, Option.map_some, Option.some.injEq]
      by_cases e2 : i < k
      · rw [if_pos (by omega), if_pos e2]
      · rw [if_neg (by omega), if_neg e2]
  · rw [List.getElem?_eq_none (by rw [length_negT]; omega), List.getElem?_eq_none (by rw [List.length_set, length_negT]; omega)]
theorem getI_neg (has : List Int) (c : Int) : getI (negT has has.length) c = - getI has c := by
  unfold getI negT
  by_cases h : c.toNat < has.length
  · simp [List.getD, h]
  · simp [List.getD, h]
theorem least_alike {among has : List Int} (h : among.Sublist (rangeI has.length)) : alikeS among (negT has has.length) = leastS has among := by
  rw [alike_best (by rw [length_negT]; exact h)]
  unfold leastS bestS
  refine List.filter_congr fun x _ => ?_
  simp only [getI_neg]

end Go.Proofs.YtolbceckbnifmaaGreat

namespace Go.Proofs.YtolbceckbnifmaaGreat
open Go.RowKit Go.Proofs
attribute [local go_sem] cell?_more cell?_alloc_some cell?_setCell_far frozen?_alloc_some frozen?_more
/-- What hands back a slice of structs, all in blocks of its own. -/
def APost {α : Type} (E : World → List Value → α → Prop) (e : TypeId) (size : Nat) (w : World) (l : List α) (en : Ending) (w' : World) : Prop :=
  ∃ v fp, en = .returned v ∧ OAgg E e size fp w' w.heap.size v l ∧ (∀ b, fp b → w.heap.size ≤ b) ∧ Below w.heap.size w w'
theorem rat_on {w : World} {A : Option Addr} {n c : Nat} {A' : Option Addr} {n' c' : Nat} {a : Int} (h : RWrds w A n c (lm a)) (h' : RWrds w A' n' c' [1]) :
    On (fun b => fpS A n b ∨ fpS A' n' b) w fun W => ERat W [.bool false, .slice A n c, .slice A' n' c'] (wholeS a) :=
  (h.on.and h'.on).imp fun _ hW => ⟨A, n, c, A', n', c', rfl, hW.1, hW.2⟩
theorem cells3 {w : World} {g : Nat} {t : TypeId} {x y z : Value} (h : Has w g t #[x, y, z]) : ∀ j u, [x, y, z][j]? = some u → w.cell? ⟨g, j, none⟩ = some u := fun j u hj => by
  rw [h.cell j, ← Array.getElem?_toList]; exact hj
theorem cells2 {w : World} {g : Nat} {t : TypeId} {x y : Value} (h : Has w g t #[x, y]) : ∀ j u, [x, y][j]? = some u → w.cell? ⟨g, j, none⟩ = some u := fun j u hj => by
  rw [h.cell j, ← Array.getElem?_toList]; exact hj
theorem cells6 {w : World} {g : Nat} {t : TypeId} {x y z p q r : Value} (h : Has w g t #[x, y, z, p, q, r]) : ∀ j u, [x, y, z, p, q, r][j]? = some u → w.cell? ⟨g, j, none⟩ = some u := fun j u hj => by
  rw [h.cell j, ← Array.getElem?_toList]; exact hj

set_option maxRecDepth 100000 in
theorem rwholes_any (A : Option Addr) (n c : Nat) (xs : List Int) (w : World) (h : RInts w A n c xs) (hn : n ≤ 1000) (hx : ∀ x ∈ xs, 0 ≤ x ∧ x ≤ 4294967295) :
    Calls Tryz.prog 37 #[.slice A n c] w (APost ERat 63 3 w (xs.map wholeS)) := by
  have hl := hide h.len
  have Hx := hide hx
  clear hx
  have hle := h.le
  go_enter Tryz.func37, Tryz.ntmps37
  go_wp2
  go_loopw [3, 4] (fun v i wr => ∃ (k : Nat) (fp : Nat → Prop), k ≤ n ∧ i = .int .i64 k ∧ OAgg ERat 63 3 fp wr w.heap.size v ((xs.take k).map wholeS) ∧ Hid (∀ b, fp b → w.heap.size ≤ b) ∧ Below w.heap.size w wr) (fun v i _ => n - (intOf i).toNat)
  case atStart => exact ⟨0, _, Nat.zero_le _, rfl, OAgg.nil_ _ _ _ _ _, fun _ h => h.elim, Below.refl _ _⟩
  case round =>
    obtain ⟨k, fp, hk, rfl, hO, hf, hb⟩ := hrel
    have hz := hb.size
    have hlk : ((xs.take k).map wholeS).length ≤ 1000 := by rw [List.length_map, List.length_take]; omega
    by_cases hlt : k < n
    · obtain ⟨b, off, y, rfl, hc, _, hat, _⟩ := (h.below hb).step hlt
      have hyb := Hx.out y (List.mem_of_getElem? hat.out)
      have hs : Hid ((xs.take (k + 1)).map wholeS = (xs.take k).map wholeS ++ [wholeS y]) := by unfold Hid; rw [List.take_add_one, hat.out, List.map_append]; rfl
      clear hat
      go_wp2_with fail
      refine (rwhole_any y wr hyb.1 hyb.2).mono ?_
      rintro e w6 ⟨A1, n1, c1, A2, n2, c2, rfl, h1, h2, hb6, hf6⟩
      have hb16 := Below_trans' hb hz hb6
      have hba : Below w6.heap.size w6 (w6.alloc (.cells #[.bool false, .slice A1 n1 c1, .slice A2 n2 c2] 63)) := (Below.refl _ _).alloc (Nat.le_refl _) _
      obtain ⟨v', w', h41, h42, h43, h44⟩ := run_appAgg infoRat Tryz.underlying60 rfl (by decide) (by decide) 60 ((hO.below hb6).below hba) (cells3 (Has.new w6 63 #[.bool false, .slice A1 n1 c1, .slice A2 n2 c2])) rfl (by simp [Value.oneCell']) ((rat_on h1 h2).below hba)
        (fun b hv hx => by have := hO.lt hv; have := hf6 b hx; omega) (by simp; omega) (by have := hb16.size; simp; omega)
      have hf' := hide fun b (hb : fp b ∨ (fpS A1 n1 b ∨ fpS A2 n2 b)) => hb.elim (hf.out b) fun hb => Nat.le_trans hz (hf6 b hb)
      have hb' : Below w.heap.size w w' := (hb16.alloc hb16.size _).grown h43 (by have := hb16.size; simp; omega) (fun j hj => (hO.lt hj).1)
      clear hf6 h44 h43
      go_wp2_with (at_builtin; refine list_app rfl rfl rfl rfl h41 ?_)
      clear h41
      go_roundw
      case rel => exact ⟨k + 1, _, by omega, by go_num, by rw [hs.out]; exact h42, hf', hb'⟩
      case measure => simp [intOf] <;> omega
    · have e : Hid (xs.take k = xs) := List.take_of_length_le (by rw [hl.out]; omega)
      rw [e.out] at hO
      go_wp2
      go_ret
      exact ⟨_, fp, rfl, hO, hf, hb⟩
set_option maxRecDepth 100000 in
theorem pwholes_any (A : Option Addr) (n c : Nat) (xs : List Int) (w : World) (h : RInts w A n c xs) (hn : n ≤ 1000) (hx : ∀ x ∈ xs, 0 ≤ x ∧ x ≤ 4294967295) :
    Calls Tryz.prog 58 #[.slice A n c] w (APost ERat 63 3 w (xs.map wholeS)) := by
  have hl := hide h.len
  have Hx := hide hx
  clear hx
  have hle := h.le
  go_enter Tryz.func58, Tryz.ntmps58
  go_wp2
  go_loopw [2, 7] (fun v i wr => ∃ (k : Nat) (fp : Nat → Prop), k ≤ n ∧ i = .int .i64 k ∧ OAgg ERat 63 3 fp wr w.heap.size v ((xs.take k).map wholeS) ∧ Hid (∀ b, fp b → w.heap.size ≤ b) ∧ Below w.heap.size w wr) (fun v i _ => n - (intOf i).toNat)
  case atStart => exact ⟨0, _, Nat.zero_le _, rfl, OAgg.nil_ _ _ _ _ _, fun _ h => h.elim, Below.refl _ _⟩
  case round =>
    obtain ⟨k, fp, hk, rfl, hO, hf, hb⟩ := hrel
    have hz := hb.size
    have hlk : ((xs.take k).map wholeS).length ≤ 1000 := by rw [List.length_map, List.length_take]; omega
    by_cases hlt : k < n
    · obtain ⟨b, off, y, rfl, hc, _, hat, _⟩ := (h.below hb).step hlt
      have hyb := Hx.out y (List.mem_of_getElem? hat.out)
      have hs : Hid ((xs.take (k + 1)).map wholeS = (xs.take k).map wholeS ++ [wholeS y]) := by unfold Hid; rw [List.take_add_one, hat.out, List.map_append]; rfl
      clear hat
      go_wp2_with fail
      refine (pwhole_any y wr hyb.1 hyb.2).mono ?_
      rintro e w6 ⟨A1, n1, c1, A2, n2, c2, rfl, h1, h2, hb6, hf6⟩
      have hb16 := Below_trans' hb hz hb6
      have hba : Below w6.heap.size w6 (w6.alloc (.cells #[.bool false, .slice A1 n1 c1, .slice A2 n2 c2] 63)) := (Below.refl _ _).alloc (Nat.le_refl _) _
      obtain ⟨v', w', h41, h42, h43, h44⟩ := run_appAgg infoRat Tryz.underlying60 rfl (by decide) (by decide) 60 ((hO.below hb6).below hba) (cells3 (Has.new w6 63 #[.bool false, .slice A1 n1 c1, .slice A2 n2 c2])) rfl (by simp [Value.oneCell']) ((rat_on h1 h2).below hba)
        (fun b hv hx => by have := hO.lt hv; have := hf6 b hx; omega) (by simp; omega) (by have := hb16.size; simp; omega)
      have hf' := hide fun b (hb : fp b ∨ (fpS A1 n1 b ∨ fpS A2 n2 b)) => hb.elim (hf.out b) fun hb => Nat.le_trans hz (hf6 b hb)
      have hb' : Below w.heap.size w w' := (hb16.alloc hb16.size _).grown h43 (by have := hb16.size; simp; omega) (fun j hj => (hO.lt hj).1)
      clear hf6 h44 h43
      go_wp2_with (at_builtin; refine list_app rfl rfl rfl rfl h41 ?_)
      clear h41
      go_roundw
      case rel => exact ⟨k + 1, _, by omega, by go_num, by rw [hs.out]; exact h42, hf', hb'⟩
      case measure => simp [intOf] <;> omega
    · have e : Hid (xs.take k = xs) := List.take_of_length_le (by rw [hl.out]; omega)
      rw [e.out] at hO
      go_wp2
      go_ret
      exact ⟨_, fp, rfl, hO, hf, hb⟩

theorem infoTie : (Tryz.prog.info? 110).map (fun i => (i.zero, i.size, i.bytes)) = some (some (.agg #[.slice none 0 0, .int .i64 0]), 2, 32) := by kernel_rfl
/-- Ties, one more perhaps. -/
def TPost (w : World) (B : Nat) (v : Value) (fp : Nat → Prop) (fa : Nat → Prop) (ts : List Row) (among : List Int) (x : Int) (e : Ending) (w' : World) : Prop :=
  ∃ v' fp', e = .returned v' ∧ OAgg ETie 110 2 fp' w' B v' (tiedS ts among x) ∧ (∀ b, fp' b → fp b ∨ fa b) ∧ (v'.ownBlock = v.ownBlock ∨ ∃ b, v'.ownBlock = some b ∧ w.heap.size ≤ b) ∧ Frame' (fun b => v.ownBlock = some b) w w'
set_option maxRecDepth 100000 in
theorem tied_any (B : Nat) (v : Value) (fp : Nat → Prop) (ts : List Row) (A : Option Addr) (n c : Nat) (among : List Int) (x : Int) (w : World) (hB : B ≤ w.heap.size) (hO : OAgg ETie 110 2 fp w B v ts) (h : RInts w A n c among) (hv : ∀ b, v.ownBlock = some b → ¬ fpS A n b) (hx : I64 x) (hts : ts.length ≤ 1000) :
    Calls Tryz.prog 35 #[v, .slice A n c, .int .i64 x] w (TPost w B v fp (fpS A n) ts among x) := by
  have hl := h.len
  have hxx := hide hx
  clear hx
  by_cases h2 : n < 2
  · have f1 : (n : Int) < 2 := by omega
    have e : Hid (tiedS ts among x = ts) := by unfold tiedS; exact if_pos (by omega)
    obtain ⟨Av, cv, rfl⟩ := hO.slice
    go_enter Tryz.func35, Tryz.ntmps35
    go_wp2
    go_ret
    exact ⟨_, fp, rfl, by rw [e.out]; exact hO, fun b hb => .inl hb, .inl rfl, Frame'.refl _ _⟩
  · have f1 : ¬ (n : Int) < 2 := by omega
    have e : Hid (tiedS ts among x = ts ++ [(among, x)]) := by unfold tiedS; exact if_neg (by omega)
    have hba : Below w.heap.size w (w.alloc (.cells #[.slice A n c, .int .i64 x] 110)) := (Below.refl _ _).alloc (Nat.le_refl _) _
    obtain ⟨v', w', h41, h42, h43, h44⟩ := run_appAgg infoTie Tryz.underlying37 rfl (by decide) (by decide) 37 (hO.below hba) (cells2 (Has.new w 110 #[.slice A n c, .int .i64 x])) rfl (by simp [Value.oneCell'])
      ((h.on.imp (R' := fun W => ETie W [.slice A n c, .int .i64 x] (among, x)) fun W hW => ⟨A, n, c, rfl, hW, hxx.out⟩).below hba) hv (by omega) (by simp; omega)
    obtain ⟨Av, cv, rfl⟩ := hO.slice
    clear hl
    go_enter Tryz.func35, Tryz.ntmps35
    go_wp2_with (at_builtin; refine list_app rfl rfl rfl rfl h41 ?_)
    clear h41
    go_wp2
    go_ret
    refine ⟨v', _, rfl, by rw [e.out]; exact h42, fun b hb => hb, ?_, (Frame'.of_below hba).trans ((Frame'.of_grown h43).mono fun b _ hb => hb.symm)⟩
    rcases h44 with h44 | h44
    · exact .inl h44
    · exact .inr ⟨_, h44, by simp⟩
end Go.Proofs.YtolbceckbnifmaaGreat
