/-
  The library's Insert of one row.
-/
import Derived.Test.YthkkadmgcicedaaGreatW9h
import Derived.Maps.AppendAt
import Derived.Laws.CopyOwn
import Derived.Laws.Externs
namespace Go.Proofs.YthkkadmgcicedaaGreat
open Go.RowKit Go.Proofs
attribute [local go_sem] cell?_more cell?_alloc_some cell?_setCell_far frozen?_alloc_some frozen?_more

section
variable {ops : Array Oper} {rest : List Oper} {o : Oper} {a : Act} {w : World} {Q : Exit → Act → World → Prop}
/-- A copy whose run is known. -/
theorem wpList_copy_eq (hgd : o.guard = none) (d s : Operand) (t t' : TypeId) (ho : o.op = .call { callee := .builtin .copy, args := #[d, s], argTypes := #[t, t'] }) (v u : Value) (hd : a.eval d = v) (hs : a.eval s = u) {v' : Value} {w' : World}
    (hr : (Builtin.copy_ #[t, t'] o.type #[v, u]).run Tryz.prog w = .ok v' w') (h : wpList Tryz.prog ops Q rest (a.put o.dst v') w') : wpList Tryz.prog ops Q (o :: rest) a w :=
  wpList_plain hgd fun _ hK => by
    unfold Oper.wp execOp
    simp only [ho, resolve, invoke, builtin, Sem.run_bind, Sem.run_pure, Result.andThen_ok, List.map_toArray, List.map_cons, List.map_nil, hd, hs, hr]
    exact hK _ _ h
end

/-- copy at elements of two cells. -/
theorem run_copy2 (w : World) (ty : TypeId) (g off dLen dCap : Nat) (ad : Addr) (sLen sCap : Nat) (cur : Array Value) (t : TypeId) (cs : List Value) (hg : Has w g t cur) (hn : cs.length = Nat.min sLen dLen * 2)
    (hsrc : ∀ j v, cs[j]? = some v → w.cell? (ad.add j) = some v) (hfit : off + cs.length ≤ cur.size) (h1 : ∀ v ∈ cs, v.oneCell' = true) :
    (Builtin.copy_ #[22, 22] ty #[.slice (some ⟨g, off, none⟩) dLen dCap, .slice (some ad) sLen sCap]).run Tryz.prog w = .ok (goInt (Nat.min sLen dLen)) (w.setRow g (splice cur.toList off cs).toArray) := by
  have hl := run_loadCells_list (P := Tryz.prog) w ad cs hsrc
  have hst := run_storeCells_at Tryz.prog g off t cs 0 cur w hg (by simpa using hfit) h1
  obtain ⟨i0, hi, _, hz1, _⟩ := info_parts infoR
  rw [hn] at hl
  unfold splice
  simp [Builtin.copy_, run_underlying Tryz.underlying22, Builtin.lenOf, Builtin.firstCells, sizeOf, typeInfo, hi, hz1, hl, hst, List.append_assoc]

/-- append of zero rows where there is no room. -/
theorem run_append_zeros (w : World) (ty : TypeId) (b : Addr) (sLen sCap : Nat) (olds : List Value) (hlo : olds.length = sLen * 2) (holds : ∀ j v, olds[j]? = some v → w.cell? (b.add j) = some v) (n : Nat) (z : Int) (hzn : z = (n : Int)) (h0 : 0 < n) (hg : sCap < sLen + n) (hb : sLen + n ≤ 1000001) :
    (Builtin.append_ #[22, 3] ty #[.slice (some b) sLen sCap, .int .i64 z]).run Tryz.prog w =
      .ok (.slice (some ⟨w.heap.size, 0, none⟩) (sLen + n) (grownCap w (sLen + n) sCap 45))
        (w.drew.alloc (.cells (olds.toArray ++ Builtin.zeroCells #[.slice none 0 0, .int .i64 0] n ++ Builtin.zeroCells #[.slice none 0 0, .int .i64 0] (grownCap w (sLen + n) sCap 45 - (sLen + n))) 45)) := by
  obtain ⟨i0, hi, hz0, hz1, hz2⟩ := info_parts infoR
  subst hzn
  have hn : ¬ (sLen + n ≤ sCap) := by omega
  have hw : IntKind.i64.wrap (n : Int) = n := IntWalk.i64_in _ (by omega)
  have h63' : ¬ (9223372036854775807 < ((sLen : Int) + (n : Int))) := by omega
  have h48' : ¬ (281474976710656 < Builtin.nextslicecap (sLen + n) sCap * 32) := by
    have := growslice_fits (bytes := 32) hg (by omega); omega
  have h48i : ¬ (281474976710656 < (n : Int) * 32) := by omega
  have hneg : ¬ ((n : Int) < 0) := by omega
  have hns : ¬ (n * 2 = 0) := by omega
  have hf := run_firstCells_some (P := Tryz.prog) w.drew 2 sLen b sLen sCap olds hlo (by simpa using holds)
  simp [Builtin.append_, run_underlying Tryz.underlying22, run_underlying Tryz.underlying3, sizeOf, typeInfo, zeroValue, hi, hz0, hz1, hz2, asInt, asIntOf, hw, hn, hneg, hns, h63', h48', h48i, Question.forced, hf, newRow, grownCap, Value.cells]

/-- What Insert leaves: the slice with the new cells in their place. -/
def InsPost (w : World) (B : Nat) (v : Value) (n i : Nat) (xs ys : List Value) (e : Ending) (w' : World) : Prop :=
  ∃ v', e = .returned v' ∧ w'.ownsRow B 45 2 v' (n + 1) (xs.take (i * 2) ++ (ys ++ xs.drop (i * 2))) ∧ w.grownBy w' v.ownBlock ∧ (v'.ownBlock = v.ownBlock ∨ ∃ g, v'.ownBlock = some g ∧ w.heap.size ≤ g)

theorem two_cells {w : World} {gx : Nat} {u z : Value} (h0 : w.cell? ⟨gx, 0, none⟩ = some u) (h1 : w.cell? ⟨gx, 1, none⟩ = some z) : ∀ j x, ([u, z] : List Value)[j]? = some x → w.cell? ((⟨gx, 0, none⟩ : Addr).add j) = some x := by
  intro j x hj
  match j, hj with
  | 0, hj => simp at hj; subst hj; exact h0
  | 1, hj => simp at hj; subst hj; exact h1
theorem two_one {u : Value} (hu : u.oneCell' = true) (y : Int) : ∀ x ∈ ([u, .int .i64 y] : List Value), x.oneCell' = true := by
  intro x hx
  simp only [List.mem_cons, List.not_mem_nil, or_false] at hx
  rcases hx with rfl | rfl
  · exact hu
  · rfl

theorem splice_ins (xs ys rest : List Value) (k m : Nat) (hk : k + 2 ≤ m) (hx : xs.length = m) (hy : ys.length = 2) (_hr : 2 ≤ rest.length) :
    (splice (splice (xs ++ rest) (k + 2) (xs.drop k)) k ys).take (m + 2) = xs.take k ++ (ys ++ xs.drop k) := by
  unfold splice
  have hd : (xs.drop k).length = m - k := by simp [hx]
  have h1 : (xs ++ rest).take (k + 2) = xs.take (k + 2) := by rw [List.take_append_of_le_length (by omega)]
  rw [h1, hy, hd]
  have h2 : (xs.take (k + 2) ++ (xs.drop k ++ (xs ++ rest).drop (k + 2 + (m - k)))).take k = xs.take k := by
    rw [List.take_append_of_le_length (by simp; omega), List.take_take, Nat.min_eq_left (by omega)]
  have h3 : (xs.take (k + 2) ++ (xs.drop k ++ (xs ++ rest).drop (k + 2 + (m - k)))).drop (k + 2) = xs.drop k ++ (xs ++ rest).drop (k + 2 + (m - k)) := by
    rw [List.drop_append_of_le_length (by simp; omega), List.drop_eq_nil_of_le (by simp; omega)]; rfl
  rw [h2, h3]
  rw [← List.append_assoc ys, ← List.append_assoc (xs.take k), List.take_append_of_le_length (by simp; omega), List.take_of_length_le (by simp; omega)]

theorem splice_new (Z xs ys : List Value) (k m : Nat) (hx : xs.length = m) (hk : k ≤ m) (hy : ys.length = 2) (hZ : Z.take k = xs.take k) (_hl : m + 2 ≤ Z.length) :
    (splice (splice Z k ys) (k + 2) (xs.drop k)).take (m + 2) = xs.take k ++ (ys ++ xs.drop k) := by
  unfold splice
  have hd : (xs.drop k).length = m - k := by simp [hx]
  rw [hy, hd, hZ]
  have hkl : (xs.take k).length = k := by simp; omega
  have h2 : (xs.take k ++ (ys ++ Z.drop (k + 2))).take (k + 2) = xs.take k ++ ys := by
    rw [← List.append_assoc, List.take_append_of_le_length (by simp; omega), List.take_of_length_le (by simp; omega)]
  rw [h2, ← List.append_assoc (xs.take k ++ ys), List.take_append_of_le_length (by simp; omega), List.take_of_length_le (by simp; omega), List.append_assoc]
theorem grown_setRow {w w1 : World} {g : Nat} (h : w.grownBy w1 (some g)) (D : Array Value) : w.grownBy (w1.setRow g D) (some g) :=
  ⟨h.os, h.tape, h.output, by simpa using h.size, fun k hk hn => (setRow_other w1 g k D (fun e => hn (by rw [e]))).trans (h.block k hk hn)⟩
theorem grown_newRow {w w1 : World} {r : Option Nat} {g : Nat} (h : w.grownBy w1 r) (hg : w.heap.size ≤ g) (D : Array Value) : w.grownBy (w1.setRow g D) r :=
  ⟨h.os, h.tape, h.output, by simpa using h.size, fun k hk hn => (setRow_other w1 g k D (by omega)).trans (h.block k hk hn)⟩

set_option maxRecDepth 100000 in
set_option maxHeartbeats 2000000 in
theorem insert_end (v : Value) (B n gx : Nat) (xs : List Value) (u : Value) (y : Int) (w : World) (hown : w.ownsRow B 45 2 v n xs) (hn : n ≤ 1000000) (hB : B ≤ w.heap.size) (hx : Has w gx 45 #[u, .int .i64 y]) (hu : u.oneCell' = true) :
    Calls Tryz.prog 98 #[v, .int .i64 n, .slice (some ⟨gx, 0, none⟩) 1 1] w (InsPost w B v n n xs [u, .int .i64 y]) := by
  obtain ⟨i0, hi, hz0, hz1, hz2⟩ := info_parts infoR
  have hlx := hide hown.1
  have hc0 : w.cell? ⟨gx, 0, none⟩ = some u := hx.cell 0
  have hc1 : w.cell? ⟨gx, 1, none⟩ = some (.int .i64 y) := hx.cell 1
  obtain ⟨A, c, rfl, hnc, hcm, hA⟩ : ∃ A c, v = .slice A n c ∧ n ≤ c ∧ c ≤ 9223372036854775807 ∧ (0 < n → ∃ g, A = some ⟨g, 0, none⟩) := by
    rcases hown.2 with ⟨e, e2⟩ | ⟨g, cap, cur, e, _, _, h1, h2, _⟩
    · exact ⟨none, 0, by rw [e, e2], by omega, by omega, fun h => by omega⟩
    · exact ⟨_, cap, e, h1, by unfold maxLen at h2; omega, fun _ => ⟨g, rfl⟩⟩
  by_cases hcn : c = n
  · have hcn := hcn.symm
    subst hcn
    go_enter Tryz.func98, Tryz.ntmps98
    go_wp2_with (at_builtin; refine wpList_append_own_at _ rfl _ _ 22 rfl B 45 i0 (.agg #[.slice none 0 0, .int .i64 0]) 2 32 Tryz.underlying22 hi hz0 hz1 hz2 rfl (by decide) _ n xs rfl hown ⟨gx, 0, none⟩ 1 1 [u, .int .i64 y] rfl rfl (two_cells hc0 hc1) (two_one hu y) (by unfold maxLen; omega) (by omega) hB ?_)
    intro v' w' h1 h2 _ h3
    go_wp2
    go_ret
    refine ⟨v', rfl, ?_, h2, ?_⟩
    · rw [List.take_of_length_le (by rw [hlx.out]; exact Nat.le_refl _), List.drop_eq_nil_of_le (by rw [hlx.out]; exact Nat.le_refl _), List.append_nil]; exact h1
    · exact h3.imp id fun e => ⟨_, e, Nat.le_refl _⟩
  · go_enter Tryz.func98, Tryz.ntmps98
    go_wp2_with (at_builtin; refine wpList_append_own_at _ rfl _ _ 22 rfl B 45 i0 (.agg #[.slice none 0 0, .int .i64 0]) 2 32 Tryz.underlying22 hi hz0 hz1 hz2 rfl (by decide) _ n xs rfl hown ⟨gx, 0, none⟩ 1 1 [u, .int .i64 y] rfl rfl (two_cells hc0 hc1) (two_one hu y) (by unfold maxLen; omega) (by omega) hB ?_)
    intro v' w' h1 h2 _ h3
    go_wp2
    go_ret
    refine ⟨v', rfl, ?_, h2, ?_⟩
    · rw [List.take_of_length_le (by rw [hlx.out]; exact Nat.le_refl _), List.drop_eq_nil_of_le (by rw [hlx.out]; exact Nat.le_refl _), List.append_nil]; exact h1
    · exact h3.imp id fun e => ⟨_, e, Nat.le_refl _⟩

set_option maxRecDepth 100000 in
set_option maxHeartbeats 2000000 in
theorem insert_room (g cap : Nat) (_cur : Array Value) (B n i gx : Nat) (xs : List Value) (u : Value) (y : Int) (w : World) (hown : w.ownsRow B 45 2 (.slice (some ⟨g, 0, none⟩) n cap) n xs) (hn : n ≤ 1000000) (hin : i < n) (_hB : B ≤ w.heap.size) (hx : Has w gx 45 #[u, .int .i64 y]) (hu : u.oneCell' = true) (hne : gx ≠ g) (hroom : n + 1 ≤ cap) (h1 : ∀ x ∈ xs, x.oneCell' = true) :
    Calls Tryz.prog 98 #[.slice (some ⟨g, 0, none⟩) n cap, .int .i64 i, .slice (some ⟨gx, 0, none⟩) 1 1] w (InsPost w B (.slice (some ⟨g, 0, none⟩) n cap) n i xs [u, .int .i64 y]) := by
  obtain ⟨cur, hB2, hg, hnc, hcm, hcs, ht⟩ : ∃ cur, B ≤ g ∧ Has w g 45 cur ∧ n ≤ cap ∧ cap ≤ maxLen ∧ cur.size = cap * 2 ∧ cur.toList.take (n * 2) = xs := by
    rcases hown.2 with ⟨e, e2⟩ | ⟨g', cap', cur, e, hb, hg, r⟩
    · cases e
    · cases e; exact ⟨cur, hb, hg, r⟩
  have hlx := hown.1
  replace hcm : cap ≤ 9223372036854775807 := by unfold maxLen at hcm; omega
  have hc0 : w.cell? ⟨gx, 0, none⟩ = some u := hx.cell 0
  have hc1 : w.cell? ⟨gx, 1, none⟩ = some (.int .i64 y) := hx.cell 1
  have hmin : Nat.min 1 (n + 1 - i) = 1 := Nat.min_eq_left (by omega)
  have hi1 : ¬ ((i : Int) = (n : Int)) := by omega
  have hi2 : ¬ (cap = i) := by omega
  have hi3 : (i : Int) ≤ (n : Int) := by omega
  have hr1 : ¬ ((cap : Int) < (n : Int) + 1) := by omega
  have hw1 : IntKind.i64.wrap ((n : Int) + 1) = (n : Int) + 1 := IntWalk.i64_in _ (by omega)
  have hw2 : IntKind.i64.wrap ((i : Int) + 1) = (i : Int) + 1 := IntWalk.i64_in _ (by omega)
  have hs0 : w.shape? gx = some (45, 2) := by unfold Has at hx; simp [World.shape?, hx]
  have hs1 : w.shape? g = some (45, cap * 2) := by unfold Has at hg; simp [World.shape?, hg, hcs]
  have hf0 := hx.free 0
  have hf2 := hx.free 2
  have hov : ∀ off lb cb, (callFunc 113 #[.slice (some ⟨gx, 0, none⟩) 1 1, .slice (some ⟨g, off, none⟩) lb cb]).run Tryz.prog w = .ok (.value (.bool false)) w := fun off lb cb => by
    rw [run_callFunc_extern Tryz.func113 (by kernel_rfl) (by kernel_rfl) (by kernel_rfl) (e := Extern.SlicesOverlaps.overlaps #[22, 22] #[4]) (by kernel_rfl),
      Lib.run_overlaps_apart w 22 4 45 Tryz.underlying22 2 Tryz.sizeOf45 ⟨gx, 0, none⟩ ⟨g, off, none⟩ 1 1 lb cb hne 45 45 2 (cap * 2) hs0 hs1 (by omega) hf0 hf2]
    rfl
  have hi4 : ¬ (cap = i + 1) := by omega
  have hi5 : (i : Int) + 1 ≤ (n : Int) + 1 := by omega
  have hi6 : (0 : Int) ≤ (i : Int) + 1 := by omega
  have hi7 : ((i : Int) + 1).toNat = i + 1 := by omega
  have hi8 : (i : Int) ≤ (n : Int) + 1 := by omega
  have hi9 : i ≤ n := by omega
  go_enter Tryz.func98, Tryz.ntmps98
  go_wp2_with (simp only [hov])
  have hgd : Has w.drew g 45 cur := hg
  have hcl : cur.toList.length = cap * 2 := by simp [hcs]
  obtain ⟨C1, hC1⟩ : ∃ C1, C1 = splice cur.toList ((i + 1) * 2) (xs.drop (i * 2)) := ⟨_, rfl⟩
  have hl1 : C1.length = cap * 2 := by rw [hC1, length_splice _ _ _ (by rw [List.length_drop, hlx]; omega), hcl]
  have HC1 := hide hC1
  have hcp1 : ∀ ty dL dC sL sC, Nat.min sL dL = n - i → (Builtin.copy_ #[22, 22] ty #[.slice (some ⟨g, (i + 1) * 2, none⟩) dL dC, .slice (some ⟨g, i * 2, none⟩) sL sC]).run Tryz.prog w.drew = .ok (goInt (n - i : Nat)) (w.drew.setRow g C1.toArray) := fun ty dL dC sL sC hm => by
    rw [hC1, ← hm]
    refine run_copy2 w.drew ty g ((i + 1) * 2) _ dC ⟨g, i * 2, none⟩ _ sC cur _ (xs.drop (i * 2)) hgd ?_ ?_ ?_ ?_
    · rw [List.length_drop, hlx, hm]; omega
    · intro j v hj
      rw [List.getElem?_drop] at hj
      have := hown.cells (g := g) rfl _ _ hj
      have e1 : (⟨g, 0, none⟩ : Addr).add (i * 2 + j) = ⟨g, i * 2 + j, none⟩ := by unfold Addr.add; split <;> simp_all
      have e2 : (⟨g, i * 2, none⟩ : Addr).add j = ⟨g, i * 2 + j, none⟩ := by unfold Addr.add; split <;> simp_all
      rw [e1] at this
      rw [e2]; exact this
    · rw [List.length_drop, hlx]; omega
    · exact fun x hx => h1 x (List.mem_of_mem_drop hx)
  have hcpb := fun ty dC sC => hcp1 ty (n - i) dC (n + 1 - i) sC (by show min _ _ = _; omega)
  clear hcp1 hC1
  refine wp_region_still_tail 8 (by kernel_rfl) (by kernel_rfl) ?_
  simp only [List.take_succ_cons, List.take_zero, List.drop_succ_cons, List.drop_zero]
  change wpStill _ _ (World.drew _) _ _ _
  repeat still_step
  refine wpStill_nil ?_
  go_upto_region 16 with (refine wpList_copy_eq rfl _ _ _ _ rfl _ _ rfl rfl (hcpb _ _ _) ?_)
  clear hcpb
  have hgr0 : w.grownBy w.drew (some g) := ⟨rfl, rfl, rfl, Nat.le_refl _, fun _ _ _ => rfl⟩
  have hgr1 := grown_setRow hgr0 C1.toArray
  have hg1 : Has (w.drew.setRow g C1.toArray) g 45 C1.toArray := hgd.setRow _
  have hx1 : Has (w.drew.setRow g C1.toArray) gx 45 #[u, .int .i64 y] := Has.farRow (w := w.drew) hx hne _
  generalize w.drew.setRow g C1.toArray = W1 at hgr1 hg1 hx1 ⊢
  have hd0 : W1.cell? ⟨gx, 0, none⟩ = some u := hx1.cell 0
  have hd1 : W1.cell? ⟨gx, 1, none⟩ = some (.int .i64 y) := hx1.cell 1
  have hcp : ∀ ty dC sC, (Builtin.copy_ #[22, 22] ty #[.slice (some ⟨g, i * 2, none⟩) (n + 1 - i) dC, .slice (some ⟨gx, 0, none⟩) 1 sC]).run Tryz.prog W1 = .ok (goInt (Nat.min 1 (n + 1 - i))) (W1.setRow g (splice C1 (i * 2) [u, .int .i64 y]).toArray) := fun ty dC sC =>
    run_copy2 W1 ty g (i * 2) _ dC ⟨gx, 0, none⟩ _ sC C1.toArray _ [u, .int .i64 y] hg1 (by show 2 = Nat.min 1 (n + 1 - i) * 2; rw [hmin]) (two_cells hd0 hd1) (by show i * 2 + 2 ≤ _; rw [List.size_toArray, hl1]; omega) (two_one hu y)
  clear hgr0 hs0 hs1 hf0 hf2 hov
  go_upto_region 17 with (refine wpList_copy_eq rfl _ _ _ _ rfl _ _ rfl rfl (hcp _ _ _) ?_)
  go_wp2
  go_ret
  refine ⟨_, rfl, ⟨?_, .inr ⟨g, cap, _, rfl, hB2, hg1.setRow _, hroom, by unfold maxLen; omega, ?_, ?_⟩⟩, grown_setRow hgr1 _, .inl rfl⟩
  · simp [hlx]; omega
  · show (splice C1 (i * 2) [u, .int .i64 y]).toArray.size = cap * 2
    rw [List.size_toArray, length_splice _ _ _ (by show i * 2 + 2 ≤ _; rw [hl1]; omega), hl1]
  · show List.take ((n + 1) * 2) (splice C1 (i * 2) [u, .int .i64 y]) = _
    rw [HC1.out, show (i + 1) * 2 = i * 2 + 2 by omega, show (n + 1) * 2 = n * 2 + 2 by omega]
    have hsp : cur.toList = xs ++ cur.toList.drop (n * 2) := by rw [← ht, List.take_append_drop]
    rw [hsp]
    exact splice_ins xs [u, .int .i64 y] _ (i * 2) (n * 2) (by omega) hlx rfl (by rw [List.length_drop, hcl]; omega)

set_option maxRecDepth 100000 in
set_option maxHeartbeats 2000000 in
theorem insert_grow (g cap : Nat) (_cur : Array Value) (B n i gx : Nat) (xs : List Value) (u : Value) (y : Int) (w : World) (hown : w.ownsRow B 45 2 (.slice (some ⟨g, 0, none⟩) n cap) n xs) (hn : n ≤ 1000000) (hin : i < n) (hB : B ≤ w.heap.size) (hx : Has w gx 45 #[u, .int .i64 y]) (hu : u.oneCell' = true) (_hne : gx ≠ g) (hroom : ¬ n + 1 ≤ cap) (h1 : ∀ x ∈ xs, x.oneCell' = true) :
    Calls Tryz.prog 98 #[.slice (some ⟨g, 0, none⟩) n cap, .int .i64 i, .slice (some ⟨gx, 0, none⟩) 1 1] w (InsPost w B (.slice (some ⟨g, 0, none⟩) n cap) n i xs [u, .int .i64 y]) := by
  obtain ⟨cur, hB2, hg, hnc, hcm, hcs, ht⟩ : ∃ cur, B ≤ g ∧ Has w g 45 cur ∧ n ≤ cap ∧ cap ≤ maxLen ∧ cur.size = cap * 2 ∧ cur.toList.take (n * 2) = xs := by
    rcases hown.2 with ⟨e, e2⟩ | ⟨g', cap', cur, e, hb, hg, r⟩
    · cases e
    · cases e; exact ⟨cur, hb, hg, r⟩
  have hlx := hown.1
  replace hcm : cap ≤ 9223372036854775807 := by unfold maxLen at hcm; omega
  have hc0 : w.cell? ⟨gx, 0, none⟩ = some u := hx.cell 0
  have hc1 : w.cell? ⟨gx, 1, none⟩ = some (.int .i64 y) := hx.cell 1
  have hmin : Nat.min 1 (n + 1 - i) = 1 := Nat.min_eq_left (by omega)
  have hi1 : ¬ ((i : Int) = (n : Int)) := by omega
  have hi2 : ¬ (cap = i) := by omega
  have hi3 : (i : Int) ≤ (n : Int) := by omega
  have hr1 : (cap : Int) < (n : Int) + 1 := by omega
  have happ := fun ty => run_append_zeros w ty ⟨g, 0, none⟩ i cap (xs.take (i * 2)) (by rw [List.length_take, hlx]; omega) (fun j v hj => hown.cells (g := g) rfl j v (by
    have hlt := (List.getElem?_eq_some_iff.1 hj).1
    rw [List.length_take] at hlt
    rwa [List.getElem?_take_of_lt (by omega)] at hj)) (n + 1 - i) ((n : Int) + 1 - i) (by omega) (by omega) (by omega) (by omega)
  have hgc := grownCap_ge w (i + (n + 1 - i)) cap 45
  rw [show i + (n + 1 - i) = n + 1 by omega] at happ hgc
  have hgm : grownCap w (n + 1) cap 45 ≤ 9223372036854775807 := by
    have := grownCap_le_maxLen w (n + 1) cap 45 (by unfold maxLen; omega); unfold maxLen at this; omega
  generalize grownCap w (n + 1) cap 45 = nc at happ hgc hgm
  obtain ⟨Z, hZ⟩ : ∃ Z : Array Value, Z = (xs.take (i * 2)).toArray ++ Builtin.zeroCells #[.slice none 0 0, .int .i64 0] (n + 1 - i) ++ Builtin.zeroCells #[.slice none 0 0, .int .i64 0] (nc - (n + 1)) := ⟨_, rfl⟩
  rw [← hZ] at happ
  have HZ := hide hZ
  clear hZ
  have hZt : Hid (Z.toList.take (i * 2) = xs.take (i * 2) ∧ Z.size = nc * 2) := by
    unfold Hid
    rw [HZ.out]
    refine ⟨?_, ?_⟩
    · simp only [Array.toList_append, List.append_assoc]
      rw [List.take_append_of_le_length (by simp [hlx]; omega), List.take_of_length_le (by simp; omega)]
    · simp only [Array.size_append, size_zeroCells, List.size_toArray, List.length_take, hlx, List.length_cons, List.length_nil]
      omega
  have hZn : Has (w.alloc (.cells Z 45)).drew w.heap.size 45 Z := Has.new w _ _
  have hgr1 : w.grownBy (w.alloc (.cells Z 45)).drew (some g) := ⟨rfl, rfl, rfl, by simp, fun k hk _ => heap_alloc_old w _ hk⟩
  have hbZ : Below w.heap.size w (w.alloc (.cells Z 45)).drew := ⟨rfl, rfl, rfl, by simp, fun k hk => heap_alloc_old w _ hk⟩
  have hn1 : ¬ (nc = i) := by omega
  have hn2 : ¬ (nc = i + 1) := by omega
  have hn3 : (i : Int) ≤ (n : Int) + 1 := by omega
  have hx1 := hx.below hbZ hx.lt
  have hd0 : (w.alloc (.cells Z 45)).drew.cell? ⟨gx, 0, none⟩ = some u := hx1.cell 0
  have hd1 : (w.alloc (.cells Z 45)).drew.cell? ⟨gx, 1, none⟩ = some (.int .i64 y) := hx1.cell 1
  have hgl := hg.lt
  have hxl := hx.lt
  go_enter Tryz.func98, Tryz.ntmps98
  go_upto_region 10 with (at_builtin; refine Lib.wpList_append_run _ rfl _ _ _ _ rfl _ _ rfl rfl _ _ (happ _) ?_)
  generalize hH : w.heap.size = h at hZn hgr1 hbZ hx1 hgl hxl ⊢
  generalize (w.alloc (.cells Z 45)).drew = W1 at hZn hgr1 hbZ hx1 hd0 hd1 ⊢
  have hcp : ∀ ty dC sC, (Builtin.copy_ #[22, 22] ty #[.slice (some ⟨h, i * 2, none⟩) (n + 1 - i) dC, .slice (some ⟨gx, 0, none⟩) 1 sC]).run Tryz.prog W1 = .ok (goInt (Nat.min 1 (n + 1 - i))) (W1.setRow h (splice Z.toList (i * 2) [u, .int .i64 y]).toArray) := fun ty dC sC =>
    run_copy2 W1 ty h (i * 2) _ dC ⟨gx, 0, none⟩ _ sC Z _ [u, .int .i64 y] hZn (by show 2 = Nat.min 1 (n + 1 - i) * 2; rw [hmin]) (two_cells hd0 hd1) (by show i * 2 + 2 ≤ _; rw [hZt.out.2]; omega) (two_one hu y)
  go_upto_region 11 with (refine wpList_copy_eq rfl _ _ _ _ rfl _ _ rfl rfl (hcp _ _ _) ?_)
  obtain ⟨Z1, hZ1⟩ : ∃ Z1, Z1 = splice Z.toList (i * 2) [u, .int .i64 y] := ⟨_, rfl⟩
  have hZl : Z.toList.length = nc * 2 := by rw [Array.length_toList, hZt.out.2]
  have hl1 : Z1.length = nc * 2 := by rw [hZ1, length_splice _ _ _ (by show i * 2 + 2 ≤ _; rw [hZl]; omega), hZl]
  have HZ1 := hide hZ1
  rw [← hZ1]
  clear hZ1 hcp
  have hZ2 : Has (W1.setRow h Z1.toArray) h 45 Z1.toArray := hZn.setRow _
  have hgr2 : w.grownBy (W1.setRow h Z1.toArray) (some g) := grown_newRow hgr1 (by omega) _
  have hb2 : Below h w (W1.setRow h Z1.toArray) := below_setRow hbZ (Nat.le_refl _) _
  generalize W1.setRow h Z1.toArray = W2 at hZ2 hgr2 hb2 ⊢
  have hcp2 : ∀ ty dC sC, (Builtin.copy_ #[22, 22] ty #[.slice (some ⟨h, (i + 1) * 2, none⟩) (n - i) dC, .slice (some ⟨g, i * 2, none⟩) (n - i) sC]).run Tryz.prog W2.drew = .ok (goInt (Nat.min (n - i) (n - i))) (W2.drew.setRow h (splice Z1 ((i + 1) * 2) (xs.drop (i * 2))).toArray) := fun ty dC sC => by
    refine run_copy2 W2.drew ty h ((i + 1) * 2) _ dC ⟨g, i * 2, none⟩ _ sC Z1.toArray _ (xs.drop (i * 2)) hZ2 ?_ ?_ ?_ ?_
    · rw [List.length_drop, hlx, show Nat.min (n - i) (n - i) = n - i from Nat.min_self _]; omega
    · intro j v hj
      rw [List.getElem?_drop] at hj
      have := hown.cells (g := g) rfl _ _ hj
      have e1 : (⟨g, 0, none⟩ : Addr).add (i * 2 + j) = ⟨g, i * 2 + j, none⟩ := by unfold Addr.add; split <;> simp_all
      have e2 : (⟨g, i * 2, none⟩ : Addr).add j = ⟨g, i * 2 + j, none⟩ := by unfold Addr.add; split <;> simp_all
      rw [e1] at this
      rw [e2]
      exact (hb2.cell (p := ⟨g, i * 2 + j, none⟩) hgl).trans this
    · rw [List.length_drop, hlx, List.size_toArray, hl1]; omega
    · exact fun x hx => h1 x (List.mem_of_mem_drop hx)
  have hi6 : (0 : Int) ≤ (i : Int) + 1 := by omega
  have hi7 : ((i : Int) + 1).toNat = i + 1 := by omega
  have hi5 : (i : Int) + 1 ≤ (n : Int) + 1 := by omega
  have hi9 : i ≤ n := by omega
  have hw2 : IntKind.i64.wrap ((i : Int) + 1) = (i : Int) + 1 := IntWalk.i64_in _ (by omega)
  refine wp_region_still_tail 8 (by kernel_rfl) (by kernel_rfl) ?_
  simp only [List.take_succ_cons, List.take_zero, List.drop_succ_cons, List.drop_zero]
  change wpStill _ _ (World.drew _) _ _ _
  repeat still_step
  refine wpStill_nil ?_
  go_upto_region 12 with (refine wpList_copy_eq rfl _ _ _ _ rfl _ _ rfl rfl (hcp2 _ _ _) ?_)
  clear hcp2
  go_wp2
  go_ret
  have hgr0 : w.grownBy W2.drew (some g) := ⟨hgr2.os, hgr2.tape, hgr2.output, hgr2.size, hgr2.block⟩
  refine ⟨_, rfl, ⟨?_, .inr ⟨h, nc, _, rfl, by omega, Has.setRow (w := W2.drew) hZ2 _, by omega, by unfold maxLen; omega, ?_, ?_⟩⟩, grown_newRow hgr0 (by omega) _, .inr ⟨h, rfl, by omega⟩⟩
  · simp [hlx]; omega
  · show (splice Z1 ((i + 1) * 2) (xs.drop (i * 2))).toArray.size = nc * 2
    rw [List.size_toArray, length_splice _ _ _ (by rw [List.length_drop, hlx, hl1]; omega), hl1]
  · show List.take ((n + 1) * 2) (splice Z1 ((i + 1) * 2) (xs.drop (i * 2))) = _
    rw [HZ1.out, show (i + 1) * 2 = i * 2 + 2 by omega, show (n + 1) * 2 = n * 2 + 2 by omega]
    exact splice_new Z.toList xs [u, .int .i64 y] (i * 2) (n * 2) hlx (by omega) rfl hZt.out.1 (by rw [hZl]; omega)

/-- Insert of one row, wherever. -/
theorem insert_any (v : Value) (B n i gx : Nat) (xs : List Value) (u : Value) (y : Int) (w : World) (hown : w.ownsRow B 45 2 v n xs) (hn : n ≤ 1000000) (hin : i ≤ n) (hB : B ≤ w.heap.size) (hx : Has w gx 45 #[u, .int .i64 y]) (hu : u.oneCell' = true)
    (hne : v.ownBlock ≠ some gx) (h1 : ∀ x ∈ xs, x.oneCell' = true) :
    Calls Tryz.prog 98 #[v, .int .i64 i, .slice (some ⟨gx, 0, none⟩) 1 1] w (InsPost w B v n i xs [u, .int .i64 y]) := by
  by_cases e : i = n
  · subst e; exact insert_end v B i gx xs u y w hown hn hB hx hu
  · rcases hown.2 with ⟨e1, e2⟩ | ⟨g, cap, cur, rfl, _⟩
    · omega
    · have hne : gx ≠ g := fun h => hne (by rw [h]; rfl)
      by_cases hroom : n + 1 ≤ cap
      · exact insert_room g cap cur B n i gx xs u y w hown hn (by omega) hB hx hu hne hroom h1
      · exact insert_grow g cap cur B n i gx xs u y w hown hn (by omega) hB hx hu hne hroom h1
end Go.Proofs.YthkkadmgcicedaaGreat
