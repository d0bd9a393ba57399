/-
  The library's Delete of one row; the program's drop and Take.
-/
import Derived.Test.YtleniljhacnikaaGreatW9p
namespace Go.Proofs.YtleniljhacnikaaGreat
open Go.RowKit Go.Proofs
attribute [local go_sem] cell?_more cell?_alloc_some cell?_setCell_far frozen?_alloc_some frozen?_more

/-- Cells stored one by one are the row stored anew. -/
theorem setCells_row {w : World} {g off : Nat} {t : TypeId} {cur : Array Value} (vs : List Value) (hg : Has w g t cur) (hfit : off + vs.length ≤ cur.size) (h1 : ∀ v ∈ vs, v.oneCell' = true) :
    w.setCells g off vs = w.setRow g (splice cur.toList off vs).toArray := by
  have ha := run_storeCells_cells (P := Tryz.prog) g off vs 0 w (fun j hj => by
    rw [Nat.add_zero, hg.cell, Array.getElem?_eq_getElem (by omega)]; rfl) (fun j hj => by rw [Nat.add_zero]; exact hg.free _) h1
  have hb := run_storeCells_at Tryz.prog g off t vs 0 cur w hg (by simpa using hfit) h1
  simp only [Nat.add_zero] at ha hb
  rw [ha] at hb
  have := (Result.ok.inj hb).2
  rw [this]
  unfold splice
  simp [List.append_assoc]
theorem one_zeroCells (n : Nat) : ∀ x ∈ (Builtin.zeroCells #[.slice none 0 0, .int .i64 0] n).toList, x.oneCell' = true := by
  intro x hx
  unfold Builtin.zeroCells at hx
  simp only [Array.toList_map, List.mem_map] at hx
  obtain ⟨i, _, rfl⟩ := hx
  have : i % 2 = 0 ∨ i % 2 = 1 := by omega
  rcases this with e | e <;> simp [e] <;> rfl
/-- clear at elements of two cells. -/
theorem run_clear2 (w : World) (ty : TypeId) (g off n c : Nat) (cur : Array Value) (t : TypeId) (hg : Has w g t cur) (hn : 0 < n) (hfit : off + n * 2 ≤ cur.size) :
    (Builtin.clear_ #[22] ty #[.slice (some ⟨g, off, none⟩) n c]).run Tryz.prog w = .ok (.tuple #[]) (w.setRow g (splice cur.toList off (Builtin.zeroCells #[.slice none 0 0, .int .i64 0] n).toList).toArray) := by
  have hl : (Builtin.zeroCells #[.slice none 0 0, .int .i64 0] n).toList.length = n * 2 := by simp [size_zeroCells]
  have hst := run_storeCells_at Tryz.prog g off t (Builtin.zeroCells #[.slice none 0 0, .int .i64 0] n).toList 0 cur w hg (by rw [hl]; simpa using hfit) (one_zeroCells n)
  obtain ⟨i0, hi, hz0, _, _⟩ := info_parts infoR
  obtain ⟨m, rfl⟩ : ∃ m, n = m + 1 := ⟨n - 1, by omega⟩
  unfold splice
  simp only [Nat.add_zero] at hst
  simp [Builtin.clear_, run_underlying Tryz.underlying22, zeroValue, typeInfo, hi, hz0, Value.cells, hst, List.append_assoc]

/-- What Delete of one row leaves. -/
def DelR (w : World) (B g n cap i : Nat) (xs : List Value) (e : Ending) (w' : World) : Prop :=
  e = .returned (.slice (some ⟨g, 0, none⟩) (i + (n - (i + 1))) cap) ∧ w'.ownsRow B 47 2 (.slice (some ⟨g, 0, none⟩) (i + (n - (i + 1))) cap) (i + (n - (i + 1))) (xs.take (i * 2) ++ xs.drop ((i + 1) * 2)) ∧ Frame' (fun b => b = g) w w'

theorem splice_del (cur : List Value) (zs : List Value) (n i C : Nat) (hi : i < n) (hC : cur.length = C * 2) (hn : n ≤ C) (_hz : zs.length = 2) :
    (splice (splice cur (i * 2) ((cur.take (n * 2)).drop ((i + 1) * 2))) ((i + (n - (i + 1))) * 2) zs).take ((i + (n - (i + 1))) * 2) = (cur.take (n * 2)).take (i * 2) ++ (cur.take (n * 2)).drop ((i + 1) * 2) := by
  have hd : ((cur.take (n * 2)).drop ((i + 1) * 2)).length = (n - (i + 1)) * 2 := by simp [hC]; omega
  unfold splice
  rw [List.take_append_of_le_length (by simp [hC]; omega), List.take_take, Nat.min_self, ← List.append_assoc, List.take_append_of_le_length (by simp [hC]; omega), List.take_of_length_le (by simp [hC]; omega), List.take_take, Nat.min_eq_left (by omega)]

set_option maxRecDepth 100000 in
set_option maxHeartbeats 2000000 in
theorem deleteR_any (B g n cap i : Nat) (xs : List Value) (w : World) (hown : w.ownsRow B 47 2 (.slice (some ⟨g, 0, none⟩) n cap) n xs) (_hn : n ≤ 1000000) (hin : i < n) (h1 : ∀ x ∈ xs, x.oneCell' = true) :
    Calls Tryz.prog 69 #[.slice (some ⟨g, 0, none⟩) n cap, .int .i64 i, .int .i64 ((i : Int) + 1)] w (DelR w B g n cap i xs) := by
  obtain ⟨i0, hi, hz0, hz1, hz2⟩ := info_parts infoR
  obtain ⟨cur, hB2, hg, hnc, hcm, hcs, ht⟩ : ∃ cur, B ≤ g ∧ Has w g 47 cur ∧ n ≤ cap ∧ cap ≤ maxLen ∧ cur.size = cap * 2 ∧ cur.toList.take (n * 2) = xs := by
    rcases hown.2 with ⟨e, e2⟩ | ⟨g', cap', cur, e, hb, hg, r⟩
    · cases e
    · cases e; exact ⟨cur, hb, hg, r⟩
  have hlx := hown.1
  replace hcm : cap ≤ 9223372036854775807 := by unfold maxLen at hcm; omega
  have hcell : ∀ j, j < n * 2 → w.cell? ⟨g, j, none⟩ = xs[j]? := fun j hj => by rw [hg.cell, ← ht, List.getElem?_take_of_lt hj, Array.getElem?_toList]
  obtain ⟨news, hnews⟩ : ∃ news, news = xs.drop ((i + 1) * 2) := ⟨_, rfl⟩
  have hlen : news.length = (n - (i + 1)) * 2 := by rw [hnews, List.length_drop, hlx]; omega
  obtain ⟨A, hA, hsrc⟩ : ∃ A : Addr, (if cap = i + 1 then some (⟨g, 0, none⟩ : Addr) else some ⟨g, (i + 1) * 2, none⟩) = some A ∧ Hid (∀ j u, news[j]? = some u → w.drew.cell? (A.add j) = some u) := by
    by_cases h : cap = i + 1
    · refine ⟨⟨g, 0, none⟩, by simp [h], fun j u hu => ?_⟩
      have h0 : news.length = 0 := by rw [hlen]; omega
      rw [List.length_eq_zero_iff.1 h0] at hu
      simp at hu
    · refine ⟨⟨g, (i + 1) * 2, none⟩, by simp [h], fun j u hu => ?_⟩
      have hj : j < news.length := (List.getElem?_eq_some_iff.1 hu).1
      rw [hnews, List.getElem?_drop] at hu
      rw [Addr.add_lit]
      exact (hcell ((i + 1) * 2 + j) (by omega)).trans hu
  have s1 : Hid (news.length = (n - (i + 1)) * 2) := hlen
  have s2 : Hid (∀ u ∈ news, u.oneCell' = true) := fun u hu => h1 u (by rw [hnews] at hu; exact List.mem_of_mem_drop hu)
  have s3 : Hid (∀ j, j < news.length → (w.drew.cell? ⟨g, 0 + i * 2 + j, none⟩).isSome = true ∧ w.drew.frozen? ⟨g, 0 + i * 2 + j, none⟩ = false) := by
    intro j hj
    rw [hlen] at hj
    refine ⟨?_, hg.free _⟩
    show (w.cell? _).isSome = true
    rw [Nat.zero_add, hcell _ (by omega), List.getElem?_eq_getElem (by omega)]; rfl
  have hgd : Has w.drew g 47 cur := hg
  obtain ⟨W1, hW1⟩ : ∃ W1, W1 = w.drew.setCells g (0 + i * 2) news := ⟨_, rfl⟩
  obtain ⟨C1, hC1⟩ : ∃ C1, C1 = splice cur.toList (i * 2) news := ⟨_, rfl⟩
  have hcl : cur.toList.length = cap * 2 := by simp [hcs]
  have hl1 : C1.length = cap * 2 := by rw [hC1, length_splice _ _ _ (by rw [hlen, hcl]; omega), hcl]
  have hW1' : W1 = w.drew.setRow g C1.toArray := by rw [hW1, hC1, Nat.zero_add]; exact setCells_row news hgd (by rw [hlen, hcs]; omega) s2
  have hg1 : Has W1 g 47 C1.toArray := by rw [hW1']; exact hgd.setRow _
  have hF1 : Frame' (fun b => b = g) w W1 := by
    rw [hW1']
    exact ⟨rfl, rfl, rfl, by simp, fun k hk hn => setRow_other w.drew g k _ hn⟩
  have hclr : ∀ ty, (Builtin.clear_ #[22] ty #[.slice (some ⟨g, (i + (n - (i + 1))) * 2, none⟩) (n - (i + (n - (i + 1)))) (cap - (i + (n - (i + 1))))]).run Tryz.prog W1 = .ok (.tuple #[]) (W1.setRow g (splice C1 ((i + (n - (i + 1))) * 2) (Builtin.zeroCells #[.slice none 0 0, .int .i64 0] (n - (i + (n - (i + 1))))).toList).toArray) :=
    fun ty => run_clear2 W1 ty g _ _ _ C1.toArray _ hg1 (by omega) (by rw [List.size_toArray, hl1]; omega)
  have hW : Hid (W1 = w.drew.setCells g (0 + i * 2) news) := hW1
  have Hfin : Hid ((splice C1 ((i + (n - (i + 1))) * 2) (Builtin.zeroCells #[.slice none 0 0, .int .i64 0] (n - (i + (n - (i + 1))))).toList).take ((i + (n - (i + 1))) * 2) = xs.take (i * 2) ++ xs.drop ((i + 1) * 2) ∧ (splice C1 ((i + (n - (i + 1))) * 2) (Builtin.zeroCells #[.slice none 0 0, .int .i64 0] (n - (i + (n - (i + 1))))).toList).length = cap * 2) := by
    have hzl : (Builtin.zeroCells #[.slice none 0 0, .int .i64 0] (n - (i + (n - (i + 1))))).toList.length = 2 := by simp [size_zeroCells]; omega
    refine ⟨?_, ?_⟩
    · rw [hC1, hnews, ← ht]
      exact splice_del cur.toList _ n i cap hin hcl hnc hzl
    · rw [length_splice _ _ _ (by rw [hzl, hl1]; omega), hl1]
  have Hg1 := hide hg1
  have HF1 := hide hF1
  have hic : i ≤ cap := by omega
  have hjc : i + 1 ≤ cap := by omega
  have hin' : i ≤ n := by omega
  have hi1 : (i : Int) + 1 ≤ (n : Int) := by omega
  have hi2 : (0 : Int) ≤ (i : Int) + 1 := by omega
  have hi3 : ((i : Int) + 1).toNat = i + 1 := by omega
  have hi4 : i + 1 ≤ n := by omega
  have hne : ((i : Int) == (i : Int) + 1) = false := beq_eq_false_iff_ne.2 (by omega)
  have hcn : ¬ cap = i + (n - (i + 1)) := by omega
  have hle : i + (n - (i + 1)) ≤ n := by omega
  have Hlx := hide hlx
  clear hW1 hW1' hg1 hF1 hg hgd hcell hC1 hl1 hcl hcs ht hnews hlen h1 hown hlx
  go_enter Tryz.func69, Tryz.ntmps69
  go_wp2_with fail
  go_region_law (refine step_append_room rfl (.tmp 22) (.tmp 25) 22 rfl 47 i0 2 Tryz.underlying22 hi hz1 g 0 i cap (by simp [Act.eval, Act.put]) A (n - (i + 1)) (cap - (i + 1)) news (by simp [Act.eval, Act.put]) s1.out hsrc.out s2.out (by omega) s3.out ?_; rw [← hW.out])
  go_wp2
  go_ret
  refine ⟨rfl, ⟨?_, .inr ⟨g, cap, _, rfl, hB2, Hg1.out.setRow _, by omega, by unfold maxLen; omega, ?_, ?_⟩⟩, ?_⟩
  · rw [List.length_append, List.length_take, List.length_drop, Hlx.out]; omega
  · rw [List.size_toArray]; exact Hfin.out.2
  · exact Hfin.out.1
  · exact ⟨HF1.out.os, HF1.out.tape, HF1.out.output, by simpa using HF1.out.size, fun b hb hn => (setRow_other W1 g b _ hn).trans (HF1.out.block b hb hn)⟩
end Go.Proofs.YtleniljhacnikaaGreat
