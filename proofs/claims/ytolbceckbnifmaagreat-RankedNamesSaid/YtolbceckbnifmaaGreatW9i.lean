/-
  The program's Twin.
  The library's BinarySearchFunc over rows; the program's place.
  The library's Insert of one row.
  The program's put.
  The program's whole, both, Sum.
  The program's Sum.
-/
import Derived.Test.YtolbceckbnifmaaGreatW9f
import Derived.Deep.RegionHeld3
import Derived.Test.YtolbceckbnifmaaGreatSpecA
import Derived.Maps.AppendAt
import Derived.Laws.CopyOwn
import Derived.Laws.Externs
import Derived.Deep.RegionWith
namespace Go.Proofs.YtolbceckbnifmaaGreat
open Go.RowKit Go.Proofs
attribute [local go_sem] cell?_more cell?_alloc_some cell?_setCell_far frozen?_alloc_some frozen?_more

/-- What Twin leaves: a profile whose rows are its own. -/
def TwinPost (w : World) (c k : Int) (l : List Row) (e : Ending) (w' : World) : Prop :=
  ∃ v, e = .returned (.agg #[.int .i64 c, .int .u8 k, v]) ∧ ORows w' w.heap.size v l ∧ Below w.heap.size w w'

end Go.Proofs.YtolbceckbnifmaaGreat

namespace Go.Proofs.YtolbceckbnifmaaGreat
open Go.RowKit Go.Proofs
attribute [local go_sem] cell?_more cell?_alloc_some cell?_setCell_far frozen?_alloc_some frozen?_more

/-- Are there ballots of the marks m? -/
def foundS (l : List Row) (m : List Int) : Bool := match l[plS l m]? with | some r => decide (r.1 = m) | none => false

theorem ret_ib {a a' : Int} {b b' : Bool} (h1 : a = a') (h2 : b = b') : Ending.returned (.tuple #[.int .i64 a, .bool b]) = .returned (.tuple #[.int .i64 a', .bool b']) := by rw [h1, h2]

theorem place1_any (Am : Option Addr) (nm cm : Nat) (ms : List Int) (y : Int) (A : Option Addr) (n c : Nat) (m : List Int) (w : World) (h : RInts w Am nm cm ms) (h' : RInts w A n c m) :
    Calls Tryz.prog 151 #[.agg #[.slice Am nm cm, .int .i64 y], .slice A n c] w fun e w' => e = .returned (.int .i64 (cmpL ms m)) ∧ Below w.heap.size w w' := by
  have hb0 : Below w.heap.size w (w.alloc (.cells #[.slice Am nm cm, .int .i64 y] 80)) := (Below.refl _ _).alloc (Nat.le_refl _) _
  go_enter Tryz.func151, Tryz.ntmps151
  go_wp2_with (go_at_call 96; refine (compareL_any _ _ _ _ _ _ ms m _ (h.below hb0) (h'.below hb0)).mono ?_; rintro e w' ⟨rfl, rfl⟩)
  go_ret
  exact ⟨rfl, hb0⟩

set_option maxHeartbeats 1000000 in
theorem bsf_any (A : Option Addr) (n c : Nat) (l : List Row) (A' : Option Addr) (n' c' : Nat) (m : List Int) (w : World) (h : RRows w A n c l) (h' : RInts w A' n' c' m) (hn : n ≤ 1000000) (hasc : Asc l) :
    Calls Tryz.prog 150 #[.slice A n c, .slice A' n' c', .func (.func 151) #[] #[]] w fun e w' => e = .returned (.tuple #[.int .i64 (plS l m), .bool (foundS l m)]) ∧ Below w.heap.size w w' := by
  have hl := h.len
  have Hasc := hide hasc
  clear hasc
  go_enter Tryz.func150, Tryz.ntmps150
  go_wp2_with fail
  go_loopw [9, 10] (fun i j wr => ∃ (a b : Nat), a ≤ b ∧ b ≤ n ∧ i = .int .i64 a ∧ j = .int .i64 b ∧ Hid (∀ k r, k < a → l[k]? = some r → cmpL r.1 m < 0) ∧ Hid (∀ k r, b ≤ k → l[k]? = some r → 0 ≤ cmpL r.1 m) ∧ Below w.heap.size w wr) (fun i j _ => (intOf j - intOf i).toNat)
  case atStart => exact ⟨0, n, Nat.zero_le _, Nat.le_refl _, rfl, rfl, fun k r hk => absurd hk (by omega), fun k r hk hr => absurd (List.getElem?_eq_some_iff.1 hr).1 (by omega), Below.refl _ _⟩
  case round =>
    obtain ⟨a, b, hab, hbn, rfl, rfl, hlo, hhi, hb⟩ := hrel
    by_cases hlt : a < b
    · have b1 : (a : Int) < (b : Int) := by omega
      have hd1 : a ≤ (a + b) / 2 := by omega
      have hd2 : (a + b) / 2 < b := by omega
      obtain ⟨bb, off, Am, nm, cm, ms, y, rfl, hc0, hm0, hc1, hdr, hat, hy⟩ := (h.below hb).step (show (a + b) / 2 < n by omega)
      go_wp2_with fail
      refine (place1_any Am nm cm ms y A' n' c' m wr hm0 (h'.below hb)).mono ?_
      rintro e w2 ⟨rfl, hbw⟩
      have hb2 := Below_trans' hb hb.size hbw
      by_cases hc : cmpL ms m < 0
      · have Hlo : Hid (∀ k r, k < (a + b) / 2 + 1 → l[k]? = some r → cmpL r.1 m < 0) := fun k r hk hr => by
          by_cases e : k = (a + b) / 2
          · subst e; rw [hat.out] at hr; cases hr; exact hc
          · exact cmpL_trans (Hasc.out.lt (show k < (a + b) / 2 by omega) hr hat.out) hc
        clear hlo
        go_wp2
        go_roundw
        case rel => exact ⟨(a + b) / 2 + 1, b, by omega, hbn, by go_num, rfl, Hlo, hhi, hb2⟩
        case measure => simp [intOf] <;> omega
      · have Hhi : Hid (∀ k r, (a + b) / 2 ≤ k → l[k]? = some r → 0 ≤ cmpL r.1 m) := fun k r hk hr => by
          by_cases e : k = (a + b) / 2
          · subst e; rw [hat.out] at hr; cases hr; exact Int.not_lt.1 hc
          · refine Int.not_lt.1 fun hh => ?_
            exact hc (cmpL_trans (Hasc.out.lt (show (a + b) / 2 < k by omega) hat.out hr) hh)
        clear hhi
        go_wp2
        go_roundw
        case rel => exact ⟨a, (a + b) / 2, by omega, by omega, rfl, by go_num, hlo, Hhi, hb2⟩
        case measure => simp [intOf] <;> omega
    · obtain rfl : a = b := by omega
      have hpl : Hid (plS l m = a) := plS_eq (by omega) hlo.out (fun r hr => Int.not_lt.2 (hhi.out a r (Nat.le_refl _) hr))
      clear hlo hhi
      by_cases han : a < n
      · have b1 : (a : Int) < (n : Int) := by omega
        have b2 : (0 : Int) ≤ (a : Int) := by omega
        obtain ⟨bb, off, Am, nm, cm, ms, y, rfl, hc0, hm0, hc1, hdr, hat, hy⟩ := (h.below hb).step han
        have hfo : Hid (foundS l m = decide (cmpL ms m = 0)) := by
          unfold Hid foundS
          rw [hpl.out, hat.out]
          simp only
          by_cases e : ms = m
          · rw [decide_eq_true e, decide_eq_true (cmpL_zero.2 e)]
          · rw [decide_eq_false e, decide_eq_false (fun h => e (cmpL_zero.1 h))]
        go_wp2_with fail
        refine (place1_any Am nm cm ms y A' n' c' m wr hm0 (h'.below hb)).mono ?_
        rintro e w2 ⟨rfl, hbw⟩
        have hb2 := Below_trans' hb hb.size hbw
        go_wp2
        go_ret2
        exact ⟨ret_ib (by rw [hpl.out]) (by rw [hfo.out]; rfl), hb2⟩
      · have b1 : ¬ (a : Int) < (n : Int) := by omega
        have hfo : Hid (foundS l m = false) := by
          unfold Hid foundS
          rw [hpl.out, List.getElem?_eq_none (by omega)]
        go_wp2
        go_ret2
        exact ⟨ret_ib (by rw [hpl.out]) (by rw [hfo.out]), hb⟩

theorem place9_any (c k : Int) (A : Option Addr) (n cp : Nat) (l : List Row) (A' : Option Addr) (n' c' : Nat) (m : List Int) (w : World) (h : RRows w A n cp l) (h' : RInts w A' n' c' m) (hn : n ≤ 1000000) (hasc : Asc l) :
    Calls Tryz.prog 137 #[.agg #[.int .i64 c, .int .u8 k, .slice A n cp], .slice A' n' c'] w fun e w' => e = .returned (.tuple #[.int .i64 (plS l m), .bool (foundS l m)]) ∧ Below w.heap.size w w' := by
  have hb0 : Below w.heap.size w (w.alloc (.cells #[.int .i64 c, .int .u8 k, .slice A n cp] 27)) := (Below.refl _ _).alloc (Nat.le_refl _) _
  have Hasc := hide hasc
  clear hasc
  go_enter Tryz.func137, Tryz.ntmps137
  go_wp2_with fail
  refine (bsf_any A n cp l A' n' c' m _ (h.below hb0) (h'.below hb0) hn Hasc.out).mono ?_
  rintro e w1 ⟨rfl, hbw⟩
  go_wp2
  go_ret2
  exact ⟨rfl, Below_trans' hb0 hb0.size hbw⟩
end Go.Proofs.YtolbceckbnifmaaGreat

namespace Go.Proofs.YtolbceckbnifmaaGreat
open Go.RowKit Go.Proofs
attribute [local go_sem] cell?_more cell?_alloc_some cell?_setCell_far frozen?_alloc_some frozen?_more

section
variable {ops : Array Oper} {rest : List Oper} {o : Oper} {a : Act} {w : World} {Q : Exit → Act → World → Prop}
/-- A copy whose run is known. -/
theorem wpList_copy_eq (hgd : o.guard = none) (d s : Operand) (t t' : TypeId) (ho : o.op = .call { callee := .builtin .copy, args := #[d, s], argTypes := #[t, t'] }) (v u : Value) (hd : a.eval d = v) (hs : a.eval s = u) {v' : Value} {w' : World}
    (hr : (Builtin.copy_ #[t, t'] o.type #[v, u]).run Tryz.prog w = .ok v' w') (h : wpList Tryz.prog ops Q rest (a.put o.dst v') w') : wpList Tryz.prog ops Q (o :: rest) a w :=
  wpList_plain hgd fun _ hK => by
    unfold Oper.wp execOp
    simp only [ho, resolve, invoke, builtin, Sem.run_bind, Sem.run_pure, Result.andThen_ok, List.map_toArray, List.map_cons, List.map_nil, hd, hs, hr]
    exact hK _ _ h
end

/-- copy at elements of two cells. -/
theorem run_copy2 (w : World) (ty : TypeId) (g off dLen dCap : Nat) (ad : Addr) (sLen sCap : Nat) (cur : Array Value) (t : TypeId) (cs : List Value) (hg : Has w g t cur) (hn : cs.length = Nat.min sLen dLen * 2)
    (hsrc : ∀ j v, cs[j]? = some v → w.cell? (ad.add j) = some v) (hfit : off + cs.length ≤ cur.size) (h1 : ∀ v ∈ cs, v.oneCell' = true) :
    (Builtin.copy_ #[25, 25] ty #[.slice (some ⟨g, off, none⟩) dLen dCap, .slice (some ad) sLen sCap]).run Tryz.prog w = .ok (goInt (Nat.min sLen dLen)) (w.setRow g (splice cur.toList off cs).toArray) := by
  have hl := run_loadCells_list (P := Tryz.prog) w ad cs hsrc
  have hst := run_storeCells_at Tryz.prog g off t cs 0 cur w hg (by simpa using hfit) h1
  obtain ⟨i0, hi, _, hz1, _⟩ := info_parts infoR
  rw [hn] at hl
  unfold splice
  simp [Builtin.copy_, run_underlying Tryz.underlying25, Builtin.lenOf, Builtin.firstCells, sizeOf, typeInfo, hi, hz1, hl, hst, List.append_assoc]

/-- append of zero rows where there is no room. -/
theorem run_append_zeros (w : World) (ty : TypeId) (b : Addr) (sLen sCap : Nat) (olds : List Value) (hlo : olds.length = sLen * 2) (holds : ∀ j v, olds[j]? = some v → w.cell? (b.add j) = some v) (n : Nat) (z : Int) (hzn : z = (n : Int)) (h0 : 0 < n) (hg : sCap < sLen + n) (hb : sLen + n ≤ 1000001) :
    (Builtin.append_ #[25, 3] ty #[.slice (some b) sLen sCap, .int .i64 z]).run Tryz.prog w =
      .ok (.slice (some ⟨w.heap.size, 0, none⟩) (sLen + n) (grownCap w (sLen + n) sCap 80))
        (w.drew.alloc (.cells (olds.toArray ++ Builtin.zeroCells #[.slice none 0 0, .int .i64 0] n ++ Builtin.zeroCells #[.slice none 0 0, .int .i64 0] (grownCap w (sLen + n) sCap 80 - (sLen + n))) 80)) := by
  obtain ⟨i0, hi, hz0, hz1, hz2⟩ := info_parts infoR
  subst hzn
  have hn : ¬ (sLen + n ≤ sCap) := by omega
  have hw : IntKind.i64.wrap (n : Int) = n := IntWalk.i64_in _ (by omega)
  have h63' : ¬ (9223372036854775807 < ((sLen : Int) + (n : Int))) := by omega
  have h48' : ¬ (281474976710656 < Builtin.nextslicecap (sLen + n) sCap * 32) := by
    have := growslice_fits (bytes := 32) hg (by omega); omega
  have h48i : ¬ (281474976710656 < (n : Int) * 32) := by omega
  have hneg : ¬ ((n : Int) < 0) := by omega
  have hns : ¬ (n * 2 = 0) := by omega
  have hf := run_firstCells_some (P := Tryz.prog) w.drew 2 sLen b sLen sCap olds hlo (by simpa using holds)
  simp [Builtin.append_, run_underlying Tryz.underlying25, run_underlying Tryz.underlying3, sizeOf, typeInfo, zeroValue, hi, hz0, hz1, hz2, asInt, asIntOf, hw, hn, hneg, hns, h63', h48', h48i, Question.forced, hf, newRow, grownCap, Value.cells]

/-- What Insert leaves: the slice with the new cells in their place. -/
def InsPost (w : World) (B : Nat) (v : Value) (n i : Nat) (xs ys : List Value) (e : Ending) (w' : World) : Prop :=
  ∃ v', e = .returned v' ∧ w'.ownsRow B 80 2 v' (n + 1) (xs.take (i * 2) ++ (ys ++ xs.drop (i * 2))) ∧ w.grownBy w' v.ownBlock ∧ (v'.ownBlock = v.ownBlock ∨ ∃ g, v'.ownBlock = some g ∧ w.heap.size ≤ g)

theorem two_cells {w : World} {gx : Nat} {u z : Value} (h0 : w.cell? ⟨gx, 0, none⟩ = some u) (h1 : w.cell? ⟨gx, 1, none⟩ = some z) : ∀ j x, ([u, z] : List Value)[j]? = some x → w.cell? ((⟨gx, 0, none⟩ : Addr).add j) = some x := by
  intro j x hj
  match j, hj with
  | 0, hj => simp at hj; subst hj; exact h0
  | 1, hj => simp at hj; subst hj; exact h1
theorem two_one {u : Value} (hu : u.oneCell' = true) (y : Int) : ∀ x ∈ ([u, .int .i64 y] : List Value), x.oneCell' = true := by
  intro x hx
  simp only [List.mem_cons, List.not_mem_nil, or_false] at hx
  rcases hx with rfl | rfl
  · exact hu
  · rfl

theorem splice_ins (xs ys rest : List Value) (k m : Nat) (hk : k + 2 ≤ m) (hx : xs.length = m) (hy : ys.length = 2) (_hr : 2 ≤ rest.length) :
    (splice (splice (xs ++ rest) (k + 2) (xs.drop k)) k ys).take (m + 2) = xs.take k ++ (ys ++ xs.drop k) := by
  unfold splice
  have hd : (xs.drop k).length = m - k := by simp [hx]
  have h1 : (xs ++ rest).take (k + 2) = xs.take (k + 2) := by rw [List.take_append_of_le_length (by omega)]
  rw [h1, hy, hd]
  have h2 : (xs.take (k + 2) ++ (xs.drop k ++ (xs ++ rest).drop (k + 2 + (m - k)))).take k = xs.take k := by
    rw [List.take_append_of_le_length (by simp; omega), List.take_take, Nat.min_eq_left (by omega)]
  have h3 : (xs.take (k + 2) ++ (xs.drop k ++ (xs ++ rest).drop (k + 2 + (m - k)))).drop (k + 2) = xs.drop k ++ (xs ++ rest).drop (k + 2 + (m - k)) := by
    rw [List.drop_append_of_le_length (by simp; omega), List.drop_eq_nil_of_le (by simp; omega)]; rfl
  rw [h2, h3]
  rw [← List.append_assoc ys, ← List.append_assoc (xs.take k), List.take_append_of_le_length (by simp; omega), List.take_of_length_le (by simp; omega)]

theorem splice_new (Z xs ys : List Value) (k m : Nat) (hx : xs.length = m) (hk : k ≤ m) (hy : ys.length = 2) (hZ : Z.take k = xs.take k) (_hl : m + 2 ≤ Z.length) :
    (splice (splice Z k ys) (k + 2) (xs.drop k)).take (m + 2) = xs.take k ++ (ys ++ xs.drop k) := by
  unfold splice
  have hd : (xs.drop k).length = m - k := by simp [hx]
  rw [hy, hd, hZ]
  have hkl : (xs.take k).length = k := by simp; omega
  have h2 : (xs.take k ++ (ys ++ Z.drop (k + 2))).take (k + 2) = xs.take k ++ ys := by
    rw [← List.append_assoc, List.take_append_of_le_length (by simp; omega), List.take_of_length_le (by simp; omega)]
  rw [h2, ← List.append_assoc (xs.take k ++ ys), List.take_append_of_le_length (by simp; omega), List.take_of_length_le (by simp; omega), List.append_assoc]
theorem grown_setRow {w w1 : World} {g : Nat} (h : w.grownBy w1 (some g)) (D : Array Value) : w.grownBy (w1.setRow g D) (some g) :=
  ⟨h.os, h.tape, h.output, by simpa using h.size, fun k hk hn => (setRow_other w1 g k D (fun e => hn (by rw [e]))).trans (h.block k hk hn)⟩
theorem grown_newRow {w w1 : World} {r : Option Nat} {g : Nat} (h : w.grownBy w1 r) (hg : w.heap.size ≤ g) (D : Array Value) : w.grownBy (w1.setRow g D) r :=
  ⟨h.os, h.tape, h.output, by simpa using h.size, fun k hk hn => (setRow_other w1 g k D (by omega)).trans (h.block k hk hn)⟩

set_option maxRecDepth 100000 in
set_option maxHeartbeats 2000000 in
theorem insert_end (v : Value) (B n gx : Nat) (xs : List Value) (u : Value) (y : Int) (w : World) (hown : w.ownsRow B 80 2 v n xs) (hn : n ≤ 1000000) (hB : B ≤ w.heap.size) (hx : Has w gx 80 #[u, .int .i64 y]) (hu : u.oneCell' = true) :
    Calls Tryz.prog 138 #[v, .int .i64 n, .slice (some ⟨gx, 0, none⟩) 1 1] w (InsPost w B v n n xs [u, .int .i64 y]) := by
  obtain ⟨i0, hi, hz0, hz1, hz2⟩ := info_parts infoR
  have hlx := hide hown.1
  have hc0 : w.cell? ⟨gx, 0, none⟩ = some u := hx.cell 0
  have hc1 : w.cell? ⟨gx, 1, none⟩ = some (.int .i64 y) := hx.cell 1
  obtain ⟨A, c, rfl, hnc, hcm, hA⟩ : ∃ A c, v = .slice A n c ∧ n ≤ c ∧ c ≤ 9223372036854775807 ∧ (0 < n → ∃ g, A = some ⟨g, 0, none⟩) := by
    rcases hown.2 with ⟨e, e2⟩ | ⟨g, cap, cur, e, _, _, h1, h2, _⟩
    · exact ⟨none, 0, by rw [e, e2], by omega, by omega, fun h => by omega⟩
    · exact ⟨_, cap, e, h1, by unfold maxLen at h2; omega, fun _ => ⟨g, rfl⟩⟩
  by_cases hcn : c = n
  · have hcn := hcn.symm
    subst hcn
    go_enter Tryz.func138, Tryz.ntmps138
    go_wp2_with (at_builtin; refine wpList_append_own_at _ rfl _ _ 25 rfl B 80 i0 (.agg #[.slice none 0 0, .int .i64 0]) 2 32 Tryz.underlying25 hi hz0 hz1 hz2 rfl (by decide) _ n xs rfl hown ⟨gx, 0, none⟩ 1 1 [u, .int .i64 y] rfl rfl (two_cells hc0 hc1) (two_one hu y) (by unfold maxLen; omega) (by omega) hB ?_)
    intro v' w' h1 h2 _ h3
    go_wp2
    go_ret
    refine ⟨v', rfl, ?_, h2, ?_⟩
    · rw [List.take_of_length_le (by rw [hlx.out]; exact Nat.le_refl _), List.drop_eq_nil_of_le (by rw [hlx.out]; exact Nat.le_refl _), List.append_nil]; exact h1
    · exact h3.imp id fun e => ⟨_, e, Nat.le_refl _⟩
  · go_enter Tryz.func138, Tryz.ntmps138
    go_wp2_with (at_builtin; refine wpList_append_own_at _ rfl _ _ 25 rfl B 80 i0 (.agg #[.slice none 0 0, .int .i64 0]) 2 32 Tryz.underlying25 hi hz0 hz1 hz2 rfl (by decide) _ n xs rfl hown ⟨gx, 0, none⟩ 1 1 [u, .int .i64 y] rfl rfl (two_cells hc0 hc1) (two_one hu y) (by unfold maxLen; omega) (by omega) hB ?_)
    intro v' w' h1 h2 _ h3
    go_wp2
    go_ret
    refine ⟨v', rfl, ?_, h2, ?_⟩
    · rw [List.take_of_length_le (by rw [hlx.out]; exact Nat.le_refl _), List.drop_eq_nil_of_le (by rw [hlx.out]; exact Nat.le_refl _), List.append_nil]; exact h1
    · exact h3.imp id fun e => ⟨_, e, Nat.le_refl _⟩

set_option maxRecDepth 100000 in
set_option maxHeartbeats 2000000 in
theorem insert_room (g cap : Nat) (_cur : Array Value) (B n i gx : Nat) (xs : List Value) (u : Value) (y : Int) (w : World) (hown : w.ownsRow B 80 2 (.slice (some ⟨g, 0, none⟩) n cap) n xs) (hn : n ≤ 1000000) (hin : i < n) (_hB : B ≤ w.heap.size) (hx : Has w gx 80 #[u, .int .i64 y]) (hu : u.oneCell' = true) (hne : gx ≠ g) (hroom : n + 1 ≤ cap) (h1 : ∀ x ∈ xs, x.oneCell' = true) :
    Calls Tryz.prog 138 #[.slice (some ⟨g, 0, none⟩) n cap, .int .i64 i, .slice (some ⟨gx, 0, none⟩) 1 1] w (InsPost w B (.slice (some ⟨g, 0, none⟩) n cap) n i xs [u, .int .i64 y]) := by
  obtain ⟨cur, hB2, hg, hnc, hcm, hcs, ht⟩ : ∃ cur, B ≤ g ∧ Has w g 80 cur ∧ n ≤ cap ∧ cap ≤ maxLen ∧ cur.size = cap * 2 ∧ cur.toList.take (n * 2) = xs := by
    rcases hown.2 with ⟨e, e2⟩ | ⟨g', cap', cur, e, hb, hg, r⟩
    · cases e
    · cases e; exact ⟨cur, hb, hg, r⟩
  have hlx := hown.1
  replace hcm : cap ≤ 9223372036854775807 := by unfold maxLen at hcm; omega
  have hc0 : w.cell? ⟨gx, 0, none⟩ = some u := hx.cell 0
  have hc1 : w.cell? ⟨gx, 1, none⟩ = some (.int .i64 y) := hx.cell 1
  have hmin : Nat.min 1 (n + 1 - i) = 1 := Nat.min_eq_left (by omega)
  have hi1 : ¬ ((i : Int) = (n : Int)) := by omega
  have hi2 : ¬ (cap = i) := by omega
  have hi3 : (i : Int) ≤ (n : Int) := by omega
  have hr1 : ¬ ((cap : Int) < (n : Int) + 1) := by omega
  have hw1 : IntKind.i64.wrap ((n : Int) + 1) = (n : Int) + 1 := IntWalk.i64_in _ (by omega)
  have hw2 : IntKind.i64.wrap ((i : Int) + 1) = (i : Int) + 1 := IntWalk.i64_in _ (by omega)
  have hs0 : w.shape? gx = some (80, 2) := by unfold Has at hx; simp [World.shape?, hx]
  have hs1 : w.shape? g = some (80, cap * 2) := by unfold Has at hg; simp [World.shape?, hg, hcs]
  have hf0 := hx.free 0
  have hf2 := hx.free 2
  have hov : ∀ off lb cb, (callFunc 152 #[.slice (some ⟨gx, 0, none⟩) 1 1, .slice (some ⟨g, off, none⟩) lb cb]).run Tryz.prog w = .ok (.value (.bool false)) w := fun off lb cb => by
    rw [run_callFunc_extern Tryz.func152 (by kernel_rfl) (by kernel_rfl) (by kernel_rfl) (e := Extern.SlicesOverlaps.overlaps #[25, 25] #[4]) (by kernel_rfl),
      Lib.run_overlaps_apart w 25 4 80 Tryz.underlying25 2 Tryz.sizeOf80 ⟨gx, 0, none⟩ ⟨g, off, none⟩ 1 1 lb cb hne 80 80 2 (cap * 2) hs0 hs1 (by omega) hf0 hf2]
    rfl
  have hi4 : ¬ (cap = i + 1) := by omega
  have hi5 : (i : Int) + 1 ≤ (n : Int) + 1 := by omega
  have hi6 : (0 : Int) ≤ (i : Int) + 1 := by omega
  have hi7 : ((i : Int) + 1).toNat = i + 1 := by omega
  have hi8 : (i : Int) ≤ (n : Int) + 1 := by omega
  have hi9 : i ≤ n := by omega
  go_enter Tryz.func138, Tryz.ntmps138
  go_wp2_with (simp only [hov])
  have hgd : Has w.drew g 80 cur := hg
  have hcl : cur.toList.length = cap * 2 := by simp [hcs]
  obtain ⟨C1, hC1⟩ : ∃ C1, C1 = splice cur.toList ((i + 1) * 2) (xs.drop (i * 2)) := ⟨_, rfl⟩
  have hl1 : C1.length = cap * 2 := by rw [hC1, length_splice _ _ _ (by rw [List.length_drop, hlx]; omega), hcl]
  have HC1 := hide hC1
  have hcp1 : ∀ ty dL dC sL sC, Nat.min sL dL = n - i → (Builtin.copy_ #[25, 25] ty #[.slice (some ⟨g, (i + 1) * 2, none⟩) dL dC, .slice (some ⟨g, i * 2, none⟩) sL sC]).run Tryz.prog w.drew = .ok (goInt (n - i : Nat)) (w.drew.setRow g C1.toArray) := fun ty dL dC sL sC hm => by
    rw [hC1, ← hm]
    refine run_copy2 w.drew ty g ((i + 1) * 2) _ dC ⟨g, i * 2, none⟩ _ sC cur _ (xs.drop (i * 2)) hgd ?_ ?_ ?_ ?_
    · rw [List.length_drop, hlx, hm]; omega
    · intro j v hj
      rw [List.getElem?_drop] at hj
      have := hown.cells (g := g) rfl _ _ hj
      have e1 : (⟨g, 0, none⟩ : Addr).add (i * 2 + j) = ⟨g, i * 2 + j, none⟩ := by unfold Addr.add; split <;> simp_all
      have e2 : (⟨g, i * 2, none⟩ : Addr).add j = ⟨g, i * 2 + j, none⟩ := by unfold Addr.add; split <;> simp_all
      rw [e1] at this
      rw [e2]; exact this
    · rw [List.length_drop, hlx]; omega
    · exact fun x hx => h1 x (List.mem_of_mem_drop hx)
  have hcpb := fun ty dC sC => hcp1 ty (n - i) dC (n + 1 - i) sC (by show min _ _ = _; omega)
  clear hcp1 hC1
  refine wp_region_still_tail 8 (by kernel_rfl) (by kernel_rfl) ?_
  simp only [List.take_succ_cons, List.take_zero, List.drop_succ_cons, List.drop_zero]
  change wpStill _ _ (World.drew _) _ _ _
  repeat still_step
  refine wpStill_nil ?_
  go_upto_region 16 with (refine wpList_copy_eq rfl _ _ _ _ rfl _ _ rfl rfl (hcpb _ _ _) ?_)
  clear hcpb
  have hgr0 : w.grownBy w.drew (some g) := ⟨rfl, rfl, rfl, Nat.le_refl _, fun _ _ _ => rfl⟩
  have hgr1 := grown_setRow hgr0 C1.toArray
  have hg1 : Has (w.drew.setRow g C1.toArray) g 80 C1.toArray := hgd.setRow _
  have hx1 : Has (w.drew.setRow g C1.toArray) gx 80 #[u, .int .i64 y] := Has.farRow (w := w.drew) hx hne _
  generalize w.drew.setRow g C1.toArray = W1 at hgr1 hg1 hx1 ⊢
  have hd0 : W1.cell? ⟨gx, 0, none⟩ = some u := hx1.cell 0
  have hd1 : W1.cell? ⟨gx, 1, none⟩ = some (.int .i64 y) := hx1.cell 1
  have hcp : ∀ ty dC sC, (Builtin.copy_ #[25, 25] ty #[.slice (some ⟨g, i * 2, none⟩) (n + 1 - i) dC, .slice (some ⟨gx, 0, none⟩) 1 sC]).run Tryz.prog W1 = .ok (goInt (Nat.min 1 (n + 1 - i))) (W1.setRow g (splice C1 (i * 2) [u, .int .i64 y]).toArray) := fun ty dC sC =>
    run_copy2 W1 ty g (i * 2) _ dC ⟨gx, 0, none⟩ _ sC C1.toArray _ [u, .int .i64 y] hg1 (by show 2 = Nat.min 1 (n + 1 - i) * 2; rw [hmin]) (two_cells hd0 hd1) (by show i * 2 + 2 ≤ _; rw [List.size_toArray, hl1]; omega) (two_one hu y)
  clear hgr0 hs0 hs1 hf0 hf2 hov
  go_upto_region 17 with (refine wpList_copy_eq rfl _ _ _ _ rfl _ _ rfl rfl (hcp _ _ _) ?_)
  go_wp2
  go_ret
  refine ⟨_, rfl, ⟨?_, .inr ⟨g, cap, _, rfl, hB2, hg1.setRow _, hroom, by unfold maxLen; omega, ?_, ?_⟩⟩, grown_setRow hgr1 _, .inl rfl⟩
  · simp [hlx]; omega
  · show (splice C1 (i * 2) [u, .int .i64 y]).toArray.size = cap * 2
    rw [List.size_toArray, length_splice _ _ _ (by show i * 2 + 2 ≤ _; rw [hl1]; omega), hl1]
  · show List.take ((n + 1) * 2) (splice C1 (i * 2) [u, .int .i64 y]) = _
    rw [HC1.out, show (i + 1) * 2 = i * 2 + 2 by omega, show (n + 1) * 2 = n * 2 + 2 by omega]
    have hsp : cur.toList = xs ++ cur.toList.drop (n * 2) := by rw [← ht, List.take_append_drop]
    rw [hsp]
    exact splice_ins xs [u, .int .i64 y] _ (i * 2) (n * 2) (by omega) hlx rfl (by rw [List.length_drop, hcl]; omega)

set_option maxRecDepth 100000 in
set_option maxHeartbeats 2000000 in
theorem insert_grow (g cap : Nat) (_cur : Array Value) (B n i gx : Nat) (xs : List Value) (u : Value) (y : Int) (w : World) (hown : w.ownsRow B 80 2 (.slice (some ⟨g, 0, none⟩) n cap) n xs) (hn : n ≤ 1000000) (hin : i < n) (hB : B ≤ w.heap.size) (hx : Has w gx 80 #[u, .int .i64 y]) (hu : u.oneCell' = true) (_hne : gx ≠ g) (hroom : ¬ n + 1 ≤ cap) (h1 : ∀ x ∈ xs, x.oneCell' = true) :
    Calls Tryz.prog 138 #[.slice (some ⟨g, 0, none⟩) n cap, .int .i64 i, .slice (some ⟨gx, 0, none⟩) 1 1] w (InsPost w B (.slice (some ⟨g, 0, none⟩) n cap) n i xs [u, .int .i64 y]) := by
  obtain ⟨cur, hB2, hg, hnc, hcm, hcs, ht⟩ : ∃ cur, B ≤ g ∧ Has w g 80 cur ∧ n ≤ cap ∧ cap ≤ maxLen ∧ cur.size = cap * 2 ∧ cur.toList.take (n * 2) = xs := by
    rcases hown.2 with ⟨e, e2⟩ | ⟨g', cap', cur, e, hb, hg, r⟩
    · cases e
    · cases e; exact ⟨cur, hb, hg, r⟩
  have hlx := hown.1
  replace hcm : cap ≤ 9223372036854775807 := by unfold maxLen at hcm; omega
  have hc0 : w.cell? ⟨gx, 0, none⟩ = some u := hx.cell 0
  have hc1 : w.cell? ⟨gx, 1, none⟩ = some (.int .i64 y) := hx.cell 1
  have hmin : Nat.min 1 (n + 1 - i) = 1 := Nat.min_eq_left (by omega)
  have hi1 : ¬ ((i : Int) = (n : Int)) := by omega
  have hi2 : ¬ (cap = i) := by omega
  have hi3 : (i : Int) ≤ (n : Int) := by omega
  have hr1 : (cap : Int) < (n : Int) + 1 := by omega
  have happ := fun ty => run_append_zeros w ty ⟨g, 0, none⟩ i cap (xs.take (i * 2)) (by rw [List.length_take, hlx]; omega) (fun j v hj => hown.cells (g := g) rfl j v (by
    have hlt := (List.getElem?_eq_some_iff.1 hj).1
    rw [List.length_take] at hlt
    rwa [List.getElem?_take_of_lt (by omega)] at hj)) (n + 1 - i) ((n : Int) + 1 - i) (by omega) (by omega) (by omega) (by omega)
  have hgc := grownCap_ge w (i + (n + 1 - i)) cap 80
  rw [show i + (n + 1 - i) = n + 1 by omega] at happ hgc
  have hgm : grownCap w (n + 1) cap 80 ≤ 9223372036854775807 := by
    have := grownCap_le_maxLen w (n + 1) cap 80 (by unfold maxLen; omega); unfold maxLen at this; omega
  generalize grownCap w (n + 1) cap 80 = nc at happ hgc hgm
  obtain ⟨Z, hZ⟩ : ∃ Z : Array Value, Z = (xs.take (i * 2)).toArray ++ Builtin.zeroCells #[.slice none 0 0, .int .i64 0] (n + 1 - i) ++ Builtin.zeroCells #[.slice none 0 0, .int .i64 0] (nc - (n + 1)) := ⟨_, rfl⟩
  rw [← hZ] at happ
  have HZ := hide hZ
  clear hZ
  have hZt : Hid (Z.toList.take (i * 2) = xs.take (i * 2) ∧ Z.size = nc * 2) := by
    unfold Hid
    rw [HZ.out]
    refine ⟨?_, ?_⟩
    · simp only [Array.toList_append, List.append_assoc]
      rw [List.take_append_of_le_length (by simp [hlx]; omega), List.take_of_length_le (by simp; omega)]
    · simp only [Array.size_append, size_zeroCells, List.size_toArray, List.length_take, hlx, List.length_cons, List.length_nil]
      omega
  have hZn : Has (w.alloc (.cells Z 80)).drew w.heap.size 80 Z := Has.new w _ _
  have hgr1 : w.grownBy (w.alloc (.cells Z 80)).drew (some g) := ⟨rfl, rfl, rfl, by simp, fun k hk _ => heap_alloc_old w _ hk⟩
  have hbZ : Below w.heap.size w (w.alloc (.cells Z 80)).drew := ⟨rfl, rfl, rfl, by simp, fun k hk => heap_alloc_old w _ hk⟩
  have hn1 : ¬ (nc = i) := by omega
  have hn2 : ¬ (nc = i + 1) := by omega
  have hn3 : (i : Int) ≤ (n : Int) + 1 := by omega
  have hx1 := hx.below hbZ hx.lt
  have hd0 : (w.alloc (.cells Z 80)).drew.cell? ⟨gx, 0, none⟩ = some u := hx1.cell 0
  have hd1 : (w.alloc (.cells Z 80)).drew.cell? ⟨gx, 1, none⟩ = some (.int .i64 y) := hx1.cell 1
  have hgl := hg.lt
  have hxl := hx.lt
  go_enter Tryz.func138, Tryz.ntmps138
  go_upto_region 10 with (at_builtin; refine Lib.wpList_append_run _ rfl _ _ _ _ rfl _ _ rfl rfl _ _ (happ _) ?_)
  generalize hH : w.heap.size = h at hZn hgr1 hbZ hx1 hgl hxl ⊢
  generalize (w.alloc (.cells Z 80)).drew = W1 at hZn hgr1 hbZ hx1 hd0 hd1 ⊢
  have hcp : ∀ ty dC sC, (Builtin.copy_ #[25, 25] ty #[.slice (some ⟨h, i * 2, none⟩) (n + 1 - i) dC, .slice (some ⟨gx, 0, none⟩) 1 sC]).run Tryz.prog W1 = .ok (goInt (Nat.min 1 (n + 1 - i))) (W1.setRow h (splice Z.toList (i * 2) [u, .int .i64 y]).toArray) := fun ty dC sC =>
    run_copy2 W1 ty h (i * 2) _ dC ⟨gx, 0, none⟩ _ sC Z _ [u, .int .i64 y] hZn (by show 2 = Nat.min 1 (n + 1 - i) * 2; rw [hmin]) (two_cells hd0 hd1) (by show i * 2 + 2 ≤ _; rw [hZt.out.2]; omega) (two_one hu y)
  go_upto_region 11 with (refine wpList_copy_eq rfl _ _ _ _ rfl _ _ rfl rfl (hcp _ _ _) ?_)
  obtain ⟨Z1, hZ1⟩ : ∃ Z1, Z1 = splice Z.toList (i * 2) [u, .int .i64 y] := ⟨_, rfl⟩
  have hZl : Z.toList.length = nc * 2 := by rw [Array.length_toList, hZt.out.2]
  have hl1 : Z1.length = nc * 2 := by rw [hZ1, length_splice _ _ _ (by show i * 2 + 2 ≤ _; rw [hZl]; omega), hZl]
  have HZ1 := hide hZ1
  rw [← hZ1]
  clear hZ1 hcp
  have hZ2 : Has (W1.setRow h Z1.toArray) h 80 Z1.toArray := hZn.setRow _
  have hgr2 : w.grownBy (W1.setRow h Z1.toArray) (some g) := grown_newRow hgr1 (by omega) _
  have hb2 : Below h w (W1.setRow h Z1.toArray) := below_setRow hbZ (Nat.le_refl _) _
  generalize W1.setRow h Z1.toArray = W2 at hZ2 hgr2 hb2 ⊢
  have hcp2 : ∀ ty dC sC, (Builtin.copy_ #[25, 25] ty #[.slice (some ⟨h, (i + 1) * 2, none⟩) (n - i) dC, .slice (some ⟨g, i * 2, none⟩) (n - i) sC]).run Tryz.prog W2.drew = .ok (goInt (Nat.min (n - i) (n - i))) (W2.drew.setRow h (splice Z1 ((i + 1) * 2) (xs.drop (i * 2))).toArray) := fun ty dC sC => by
    refine run_copy2 W2.drew ty h ((i + 1) * 2) _ dC ⟨g, i * 2, none⟩ _ sC Z1.toArray _ (xs.drop (i * 2)) hZ2 ?_ ?_ ?_ ?_
    · rw [List.length_drop, hlx, show Nat.min (n - i) (n - i) = n - i from Nat.min_self _]; omega
    · intro j v hj
      rw [List.getElem?_drop] at hj
      have := hown.cells (g := g) rfl _ _ hj
      have e1 : (⟨g, 0, none⟩ : Addr).add (i * 2 + j) = ⟨g, i * 2 + j, none⟩ := by unfold Addr.add; split <;> simp_all
      have e2 : (⟨g, i * 2, none⟩ : Addr).add j = ⟨g, i * 2 + j, none⟩ := by unfold Addr.add; split <;> simp_all
      rw [e1] at this
      rw [e2]
      exact (hb2.cell (p := ⟨g, i * 2 + j, none⟩) hgl).trans this
    · rw [List.length_drop, hlx, List.size_toArray, hl1]; omega
    · exact fun x hx => h1 x (List.mem_of_mem_drop hx)
  have hi6 : (0 : Int) ≤ (i : Int) + 1 := by omega
  have hi7 : ((i : Int) + 1).toNat = i + 1 := by omega
  have hi5 : (i : Int) + 1 ≤ (n : Int) + 1 := by omega
  have hi9 : i ≤ n := by omega
  have hw2 : IntKind.i64.wrap ((i : Int) + 1) = (i : Int) + 1 := IntWalk.i64_in _ (by omega)
  refine wp_region_still_tail 8 (by kernel_rfl) (by kernel_rfl) ?_
  simp only [List.take_succ_cons, List.take_zero, List.drop_succ_cons, List.drop_zero]
  change wpStill _ _ (World.drew _) _ _ _
  repeat still_step
  refine wpStill_nil ?_
  go_upto_region 12 with (refine wpList_copy_eq rfl _ _ _ _ rfl _ _ rfl rfl (hcp2 _ _ _) ?_)
  clear hcp2
  go_wp2
  go_ret
  have hgr0 : w.grownBy W2.drew (some g) := ⟨hgr2.os, hgr2.tape, hgr2.output, hgr2.size, hgr2.block⟩
  refine ⟨_, rfl, ⟨?_, .inr ⟨h, nc, _, rfl, by omega, Has.setRow (w := W2.drew) hZ2 _, by omega, by unfold maxLen; omega, ?_, ?_⟩⟩, grown_newRow hgr0 (by omega) _, .inr ⟨h, rfl, by omega⟩⟩
  · simp [hlx]; omega
  · show (splice Z1 ((i + 1) * 2) (xs.drop (i * 2))).toArray.size = nc * 2
    rw [List.size_toArray, length_splice _ _ _ (by rw [List.length_drop, hlx, hl1]; omega), hl1]
  · show List.take ((n + 1) * 2) (splice Z1 ((i + 1) * 2) (xs.drop (i * 2))) = _
    rw [HZ1.out, show (i + 1) * 2 = i * 2 + 2 by omega, show (n + 1) * 2 = n * 2 + 2 by omega]
    exact splice_new Z.toList xs [u, .int .i64 y] (i * 2) (n * 2) hlx (by omega) rfl hZt.out.1 (by rw [hZl]; omega)

/-- Insert of one row, wherever. -/
theorem insert_any (v : Value) (B n i gx : Nat) (xs : List Value) (u : Value) (y : Int) (w : World) (hown : w.ownsRow B 80 2 v n xs) (hn : n ≤ 1000000) (hin : i ≤ n) (hB : B ≤ w.heap.size) (hx : Has w gx 80 #[u, .int .i64 y]) (hu : u.oneCell' = true)
    (hne : v.ownBlock ≠ some gx) (h1 : ∀ x ∈ xs, x.oneCell' = true) :
    Calls Tryz.prog 138 #[v, .int .i64 i, .slice (some ⟨gx, 0, none⟩) 1 1] w (InsPost w B v n i xs [u, .int .i64 y]) := by
  by_cases e : i = n
  · subst e; exact insert_end v B i gx xs u y w hown hn hB hx hu
  · rcases hown.2 with ⟨e1, e2⟩ | ⟨g, cap, cur, rfl, _⟩
    · omega
    · have hne : gx ≠ g := fun h => hne (by rw [h]; rfl)
      by_cases hroom : n + 1 ≤ cap
      · exact insert_room g cap cur B n i gx xs u y w hown hn (by omega) hB hx hu hne hroom h1
      · exact insert_grow g cap cur B n i gx xs u y w hown hn (by omega) hB hx hu hne hroom h1
end Go.Proofs.YtolbceckbnifmaaGreat

namespace Go.Proofs.YtolbceckbnifmaaGreat
open Go.RowKit Go.Proofs
attribute [local go_sem] cell?_more cell?_alloc_some cell?_setCell_far frozen?_alloc_some frozen?_more

/-- What put and drop leave: the profile behind the pointer has the rows l', its own. -/
def PutPost (w : World) (g B : Nat) (c k : Int) (v : Value) (l' : List Row) (v' : Value) (w' : World) : Prop :=
  Has w' g 27 #[.int .i64 c, .int .u8 k, v'] ∧ ORows w' B v' l' ∧ Frame' (fun b => b = g ∨ some b = v.ownBlock) w w'

theorem foundS_true {l : List Row} {m : List Int} (h : foundS l m = true) : ∃ z, l[plS l m]? = some (m, z) := by
  unfold foundS at h
  split at h
  · rename_i r e
    have := of_decide_eq_true h
    exact ⟨r.2, by rw [e, ← this]⟩
  · cases h
theorem foundS_false {l : List Row} {m : List Int} (h : foundS l m = false) : ∀ z, l[plS l m]? ≠ some (m, z) := by
  intro z hz
  unfold foundS at h
  rw [hz] at h
  simp at h

theorem flat_set2 (cs : List (Value × Row)) : ∀ (t : Nat) (x : Value × Row) (y : Int), cs[t]? = some x → (cs.flatMap cell2).set (t * 2 + 1) (.int .i64 y) = (cs.set t (x.1, (x.2.1, y))).flatMap cell2 := by
  induction cs with
  | nil => intro t x u h; simp at h
  | cons a r ih =>
    intro t x u h
    cases t with
    | zero => simp at h; subst h; simp [List.flatMap_cons, cell2]
    | succ t =>
      have := ih t x u (by simpa using h)
      rw [List.flatMap_cons, List.set_cons_succ, List.flatMap_cons, ← this, show (t + 1) * 2 + 1 = t * 2 + 1 + 1 + 1 by omega]
      simp [cell2]
theorem owns_slice {w : World} {B n : Nat} {v : Value} {t : TypeId} {s : Nat} {xs : List Value} (h : w.ownsRow B t s v n xs) : ∃ A n' c, v = .slice A n' c := by
  rcases h.2 with ⟨e, _⟩ | ⟨g, cap, cur, e, _⟩
  · exact ⟨_, _, _, e⟩
  · exact ⟨_, _, _, e⟩
/-- The count of a row is changed. -/
theorem ORows.setMany {w : World} {B g n cap t : Nat} {l : List Row} {m : List Int} {z y : Int} (h : ORows w B (.slice (some ⟨g, 0, none⟩) n cap) l) (hn : l.length = n) (ht : l[t]? = some (m, z)) (hy : I64 y) :
    ORows (w.setCell ⟨g, t * 2 + 1, none⟩ (.int .i64 y)) B (.slice (some ⟨g, 0, none⟩) n cap) (l.set t (m, y)) := by
  obtain ⟨cs, e, h1, h2⟩ := h
  rw [hn] at h1
  have hx : ∃ u, cs[t]? = some (u, (m, z)) := by
    rw [← e, List.getElem?_map] at ht
    cases hc : cs[t]? with
    | none => rw [hc] at ht; cases ht
    | some x => rw [hc] at ht; cases x; simp at ht; subst ht; exact ⟨_, rfl⟩
  obtain ⟨u, hx⟩ := hx
  obtain ⟨h3, h4⟩ := h1.stored (t * 2 + 1) (.int .i64 y)
  rw [flat_set2 cs t _ y hx] at h3
  have k : Frame' (fun b => b = g) w (w.setCell ⟨g, t * 2 + 1, none⟩ (.int .i64 y)) := Frame'.setCell (p := ⟨g, t * 2 + 1, none⟩) (Frame'.refl (fun b => b = g) w) (.inl rfl) _
  refine ⟨cs.set t (u, (m, y)), by rw [← e, List.map_set], by rw [List.length_set, hn]; exact h3, fun c hc => ?_⟩
  rcases List.mem_or_eq_of_mem_set hc with hc | rfl
  · exact ⟨(h2 c hc).1.frame k (fun b _ hb e => hb (by rw [e]; rfl)), (h2 c hc).2⟩
  · exact ⟨(h2 _ (List.mem_of_getElem? hx)).1.frame k (fun b _ hb e => hb (by rw [e]; rfl)), hy⟩

theorem cells_ins (cs : List (Value × Row)) (p : Nat) (u : Value) (m : List Int) (y : Int) :
    (cs.flatMap cell2).take (p * 2) ++ ([u, .int .i64 y] ++ (cs.flatMap cell2).drop (p * 2)) = (cs.take p ++ (u, (m, y)) :: cs.drop p).flatMap cell2 := by
  rw [take_cell2, drop_cell2, List.flatMap_append, List.flatMap_cons]
  rfl
theorem put_end {w w1 w2 w3 : World} {g B n c2 : Nat} {c k y : Int} {v v3 : Value} {l : List Row} {ms : List Int} {A2 : Option Addr} {o : Obj} {cs : List (Value × Row)} (hgB : g < B) (hB1 : B ≤ w1.heap.size) (hbw : Below w.heap.size w w1) (hb2 : Below w1.heap.size w1 w2)
    (hcs : cs.map (·.2) = l) (hmk : ∀ x ∈ cs, OMarks w1 B v.ownBlock x.1 x.2.1 ∧ I64 x.2.2) (hol : ∀ k, v.ownBlock = some k → B ≤ k ∧ k < w1.heap.size) (hy : I64 y)
    (hr2 : RInts w2 A2 n c2 ms) (hf2 : 0 < n → ∃ b, A2 = some ⟨b, 0, none⟩ ∧ w1.heap.size ≤ b ∧ ∀ i, i < n → w2.frozen? ⟨b, 0 + i, none⟩ = false)
    (hown3 : w3.ownsRow B 80 2 v3 (l.length + 1) ((cs.flatMap cell2).take (plS l ms * 2) ++ ([.slice A2 n c2, .int .i64 y] ++ (cs.flatMap cell2).drop (plS l ms * 2))))
    (hgr3 : (w2.alloc o).grownBy w3 v.ownBlock) (hat3 : v3.ownBlock = v.ownBlock ∨ ∃ g, v3.ownBlock = some g ∧ (w2.alloc o).heap.size ≤ g)
    (hP3 : Has w3 g 27 #[.int .i64 c, .int .u8 k, v]) (hput : putS l ms y = l.take (plS l ms) ++ (ms, y) :: l.drop (plS l ms)) :
    PutPost w g B c k v (putS l ms y) v3 (w3.setCell ⟨g, 2, none⟩ v3) := by
  have hba : Below w2.heap.size w2 (w2.alloc o) := (Below.refl _ _).alloc (Nat.le_refl _) o
  have k1 : Frame' (fun _ => False) w1 (w2.alloc o) := (Frame'.of_below hb2).trans (Frame'.of_below (S := fun _ => False) (Below_trans' (Below.refl _ _) (Nat.le_refl _) hba) |>.mono (fun _ _ h => h))
  have k3 := Frame'.of_grown hgr3
  have k4 : Frame' (fun b => b = g) w3 (w3.setCell ⟨g, 2, none⟩ v3) := Frame'.setCell (p := ⟨g, 2, none⟩) (Frame'.refl (fun b => b = g) w3) (.inl rfl) v3
  have hz2 := hb2.size
  have hother : ∀ b, b < (w2.alloc o).heap.size → some b = v3.ownBlock → some b = v.ownBlock := fun b hb e => by
    rcases hat3 with e2 | ⟨g', e2, hg'⟩
    · rw [e, e2]
    · rw [e2] at e; cases e; omega
  have keep : ∀ u xs, OMarks (w2.alloc o) B v.ownBlock u xs → OMarks (w3.setCell ⟨g, 2, none⟩ v3) B v3.ownBlock u xs := fun u xs h => by
    have h1 := h.frame k3 (fun b _ hb e => hb e)
    have h2 : OMarks w3 B v3.ownBlock u xs := by
      obtain ⟨A, n', c', e, r, f⟩ := h
      obtain ⟨A', n'', c'', e', r', f'⟩ := h1
      rw [e] at e'
      cases e'
      refine ⟨A, n', c', e, r', fun hn => ?_⟩
      obtain ⟨b, off, e1, e2, e3, e4⟩ := f hn
      obtain ⟨b', off', e1', _, _, e4'⟩ := f' hn
      rw [e1] at e1'
      cases e1'
      obtain ⟨b'', off'', e1'', hc⟩ := r.2.2.2.2 hn
      rw [e1] at e1''
      cases e1''
      exact ⟨b, off, e1, e2, fun e5 => e3 (hother b (World.block_lt_of_cell? _ _ (hc 0 hn)) e5), e4'⟩
    exact h2.frame k4 (fun b hb _ e => by omega)
  refine ⟨hP3.put 2 v3, ⟨cs.take (plS l ms) ++ (.slice A2 n c2, (ms, y)) :: cs.drop (plS l ms), ?_, ?_, ?_⟩, ?_⟩
  · rw [hput, ← hcs, List.map_append, List.map_cons, List.map_take, List.map_drop]
  · rw [← cells_ins]
    have hl : (putS l ms y).length = l.length + 1 := by rw [hput]; have := plS_le l ms; simp; omega
    rw [hl]
    exact owns_frame hown3 k4 (fun b hb e => by
      rcases hat3 with e2 | ⟨g', e2, hg'⟩
      · have := (hol b (by rw [← e2]; exact hb)).1; omega
      · rw [e2] at hb; cases hb; simp at hg'; omega)
  · intro x hx
    have hin : x = (.slice A2 n c2, (ms, y)) ∨ x ∈ cs := by
      rcases List.mem_append.1 hx with h | h
      · exact .inr (List.mem_of_mem_take h)
      · rcases List.mem_cons.1 h with h | h
        · exact .inl h
        · exact .inr (List.mem_of_mem_drop h)
    rcases hin with rfl | hin
    · refine ⟨keep _ _ ?_, hy⟩
      have : OMarks w2 B v.ownBlock (.slice A2 n c2) ms := ⟨A2, n, c2, rfl, hr2, fun hn => by
        obtain ⟨b, e, hb, hz⟩ := hf2 hn
        exact ⟨b, 0, e, by omega, fun e => by have := (hol b e.symm).2; omega, hz⟩⟩
      exact this.frame (Frame'.of_below (S := fun _ => False) hba) (fun _ _ _ h => h)
    · exact ⟨keep _ _ ((hmk x hin).1.frame k1 (fun _ _ _ h => h)), (hmk x hin).2⟩
  · have f1 : Frame' (fun b => b = g ∨ some b = v.ownBlock) w (w2.alloc o) := (Frame'.of_below hbw).trans ((Frame'.of_below hb2).trans (Frame'.of_below hba))
    exact (f1.trans (k3.mono fun b _ h => .inr h)).trans (k4.mono fun b _ h => .inl h)

set_option maxRecDepth 100000 in
set_option maxHeartbeats 2000000 in
theorem put_any (c k : Int) (v : Value) (l : List Row) (g B : Nat) (A : Option Addr) (n cp : Nat) (ms : List Int) (y : Int) (w : World) (hP : Has w g 27 #[.int .i64 c, .int .u8 k, v]) (hO : ORows w B v l) (hgB : g < B) (hB : B ≤ w.heap.size)
    (hasc : Asc l) (hll : l.length ≤ 1000) (hm : RInts w A n cp ms) (hn : n ≤ 1000000) (hy : I64 y) (hz : ∀ z, l[plS l ms]? = some (ms, z) → I64 (z + y)) :
    Calls Tryz.prog 109 #[.pointer (some ⟨g, 0, none⟩), .slice A n cp, .int .i64 y] w fun e w' => e = .returned (.tuple #[]) ∧ ∃ v', PutPost w g B c k v (putS l ms y) v' w' := by
  obtain ⟨A1, n1, c1, rfl⟩ : ∃ A1 n1 c1, v = .slice A1 n1 c1 := by
    rcases hO.slice with ⟨e, _⟩ | ⟨g', cap, cur, e, _⟩
    · exact ⟨none, 0, 0, e⟩
    · exact ⟨_, _, _, e⟩
  have hrow := hO.rows
  have hl1 := hrow.len
  have p0 : w.cell? ⟨g, 0, none⟩ = some (.int .i64 c) := hP.cell 0
  have p1 : w.cell? ⟨g, 1, none⟩ = some (.int .u8 k) := hP.cell 1
  have p2 : w.cell? ⟨g, 2, none⟩ = some (.slice A1 n1 c1) := hP.cell 2
  have hpl := plS_le l ms
  have Hasc := hide hasc
  have Hz := hide hz
  clear hasc hz
  go_enter Tryz.func109, Tryz.ntmps109
  go_wp2_with fail
  refine (place9_any c k A1 n1 c1 l A n cp ms w hrow hm (by omega) Hasc.out).mono ?_
  rintro e w1 ⟨rfl, hbw⟩
  have hP1 := hP.below hbw hP.lt
  have hO1 := hO.below hbw
  have hm1 := hm.below hbw
  have hB1 : B ≤ w1.heap.size := Nat.le_trans hB hbw.size
  have p2 : w1.cell? ⟨g, 2, none⟩ = some (.slice A1 n1 c1) := hP1.cell 2
  clear p0 p1
  cases hf : foundS l ms with
  | true =>
    obtain ⟨z, hat⟩ := foundS_true hf
    have hput := hide (putS_is (y := y) hat)
    have hI := Hz.out z hat
    have hlt := (List.getElem?_eq_some_iff.1 hat).1
    obtain ⟨gr, rfl, hgr⟩ : ∃ gr, A1 = some ⟨gr, 0, none⟩ ∧ B ≤ gr := by
      rcases hO1.slice with ⟨e, e2⟩ | ⟨g', cap, cur, e, hb, _⟩
      · rw [e2] at hlt; simp at hlt
      · cases e; exact ⟨g', rfl, hb⟩
    obtain ⟨b, off, Am, nm, cm, ms', y', eA, hc0, hm0, hc1, hd, hat', hy'⟩ := hO1.rows.step (k := plS l ms) (by omega)
    cases eA
    have hat2 := hat'.out
    rw [hat] at hat2
    cases hat2
    have hfr : w1.frozen? ⟨gr, plS l ms * 2 + 1, none⟩ = false := by
      obtain ⟨cs, e, h1, _⟩ := hO1
      rw [hl1] at h1
      exact h1.frozenAt _
    rw [Nat.zero_add] at hc1
    have hOs := hO1.setMany hl1 hat hI
    have hPs := hP1.far (p := ⟨gr, plS l ms * 2 + 1, none⟩) (by show g ≠ gr; omega) (.int .i64 (z + y))
    have hFs := Frame'.setCell (p := ⟨gr, plS l ms * 2 + 1, none⟩) (Frame'.of_below (S := fun b => b = g ∨ some b = some gr) hbw) (.inl (.inr rfl)) (.int .i64 (z + y))
    rw [← hput.out] at hOs
    have hplt : (plS l ms : Int) < (n1 : Int) := by omega
    have hsum : IntKind.i64.wrap (z + y) = z + y := IntWalk.i64_in _ ⟨hI.1, hI.2⟩
    generalize plS l ms = pl at *
    clear hput hat Hz Hasc hf hd hat'
    go_wp2
    refine bodyPost_ret (results_none rfl _ _ _) rfl ?_
    exact ⟨rfl, _, hPs, hOs, hFs⟩
  | false =>
    have hput := hide (putS_new (y := y) (foundS_false hf))
    obtain ⟨cs, hcs, hown, hmk⟩ := hO1
    have Hcs := hide hcs
    have Hmk := hide hmk
    clear hcs hmk hf Hz Hasc
    have hgl := hP1.lt
    have hm1d : RInts w1.drew A n cp ms := hm1
    have hone := hide (one_cell2 (cs := cs) fun i x hx => by
      obtain ⟨A', n', c', e, _⟩ := (Hmk.out x (List.mem_of_getElem? hx)).1
      exact ⟨A', n', c', e⟩)
    have hol := hown.lt
    go_wp2_with fail
    have hP1g := hP1.lt
    have hneg : ¬ (some g = (Value.slice A1 n1 c1).ownBlock) := fun e => by have := (hol g e.symm).1; omega
    have hll' : l.length ≤ 1000000 := by omega
    go_region_with (first
      | (go_at_call 85; refine (cloneI_any A n cp ms _ hm1d hn).mono ?_; rintro e w2 ⟨A2, c2, rfl, hr2, hf2, hb2⟩; have hb2' := undrew hb2; have hown2 := owns_frame hown (Frame'.of_below (S := fun _ => False) hb2') (fun _ _ h => h); have hP2 := hP1.below hb2' hP1g; have p2' : w2.cell? ⟨g, 2, none⟩ = some (.slice A1 n1 c1) := hP2.cell 2; have hne2 : (Value.slice A1 n1 c1).ownBlock ≠ some w2.heap.size := (fun e => by have h1 := (hol _ e).2; have h2 := hb2'.size; omega); have hB3 : B ≤ w2.heap.size := Nat.le_trans hB1 hb2'.size)
      | (go_at_call 138; refine (insert_any (.slice A1 n1 c1) B l.length (plS l ms) _ (cs.flatMap cell2) (.slice A2 n c2) y _ (hown2.alloc _) hll' hpl (Nat.le_trans hB3 (by simp)) (Has.new _ _ _) rfl hne2 hone.out).mono ?_; rintro e w3 ⟨v3, rfl, hown3, hgr3, hat3⟩; obtain ⟨A3, n3, c3, rfl⟩ := owns_slice hown3; have hP3 := (Frame'.of_grown hgr3).has (hP2.alloc _) hneg; have q2 : w3.cell? ⟨g, 2, none⟩ = some (.slice A1 n1 c1) := hP3.cell 2; have qf := hP3.free 2))
    all_goals
      refine bodyPost_end (results_none rfl _ _ _) rfl ?_
      exact ⟨rfl, _, put_end hgB hB1 hbw hb2' Hcs.out Hmk.out hol hy hr2 hf2 hown3 hgr3 hat3 hP3 hput.out⟩
end Go.Proofs.YtolbceckbnifmaaGreat

namespace Go.Proofs.YtolbceckbnifmaaGreat
open Go.RowKit Go.Proofs
attribute [local go_sem] cell?_more cell?_alloc_some cell?_setCell_far frozen?_alloc_some frozen?_more

/-- A profile and an error are handed back. -/
def PPost (w : World) (r : PR) (e : Ending) (w' : World) : Prop :=
  ∃ A n cp, e = .returned (.tuple #[.agg #[.int .i64 r.c, .int .u8 r.k, .slice A n cp], .int .i64 r.err]) ∧ RRows w' A n cp r.l ∧ Below w.heap.size w w'


/-- What whole hands back: its argument, or an error. -/
def WholePost (w : World) (c k : Int) (A : Option Addr) (n cp : Nat) (l : List Row) (e : Ending) (w' : World) : Prop :=
  (if checkS c k l = 0 then e = .returned (.tuple #[.agg #[.int .i64 c, .int .u8 k, .slice A n cp], .int .i64 0]) else e = .returned (.tuple #[.agg #[.int .i64 0, .int .u8 0, .slice none 0 0], .int .i64 (checkS c k l)])) ∧ Below w.heap.size w w'

end Go.Proofs.YtolbceckbnifmaaGreat

namespace Go.Proofs.YtolbceckbnifmaaGreat
open Go.RowKit Go.Proofs
attribute [local go_sem] cell?_more cell?_alloc_some cell?_setCell_far frozen?_alloc_some frozen?_more

theorem row_small {c k : Int} {l : List Row} (h : checkS c k l = 0) {x : Row} (hx : x ∈ l) : x.1.length ≤ 10 ∧ 0 < x.2 ∧ x.2 ≤ 1000000 := by
  obtain ⟨h1, h2, h3, h4, h5, h6, h7, h8, h9⟩ := check_iff.1 h
  have hb := h9 x hx
  refine ⟨?_, h8 x hx, Int.le_trans (le_tot h8 hx) h6⟩
  unfold bcheckS at hb
  split at hb
  · cases hb
  split at hb
  · rename_i hf
    unfold fineS at hf
    split at hf
    · simp only [Bool.and_eq_true, decide_eq_true_eq] at hf; omega
    split at hf
    · simp only [Bool.and_eq_true, List.all_eq_true] at hf
      have hn : x.1.Nodup := of_decide_eq_true hf.2
      have := hn.length_le_of_subset (fun z hz => mem_rangeI.2 (show 0 ≤ z ∧ z < ((10 : Nat) : Int) from by have := inR_iff.1 (hf.1.1 z hz); omega))
      rwa [length_rangeI] at this
    split at hf
    · simp only [Bool.and_eq_true, List.all_eq_true] at hf
      have hn : x.1.Nodup := of_decide_eq_true hf.2
      have := hn.length_le_of_subset (fun z hz => mem_rangeI.2 (show 0 ≤ z ∧ z < ((10 : Nat) : Int) from by have := inR_iff.1 (hf.1 z hz); omega))
      rwa [length_rangeI] at this
    · cases hf
  · cases hb

/-- A profile of its own and an error are handed back. -/
def PPostO (w : World) (r : PR) (e : Ending) (w' : World) : Prop :=
  ∃ A n cp, e = .returned (.tuple #[.agg #[.int .i64 r.c, .int .u8 r.k, .slice A n cp], .int .i64 r.err]) ∧ ORows w' w.heap.size (.slice A n cp) r.l ∧ Below w.heap.size w w'

end Go.Proofs.YtolbceckbnifmaaGreat
