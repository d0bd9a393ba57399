/-
  The examples of chapter 41.
-/
import Derived.Test.YtoeajgjpakilgaaGreatW41l
import Derived.Test.YtoeajgjpakilgaaGreatW41m
namespace Go.Proofs.YtoeajgjpakilgaaGreat
open Go.RowKit Go.Proofs Go.Shelf
attribute [local go_sem] cell?_more cell?_alloc_some cell?_setCell_far frozen?_alloc_some frozen?_more
/-- The slice value reads as the ballots bl (an element takes two cells). -/
def RBls (w : World) (A : Option Addr) (n c : Nat) (bl : List (Int × List Int)) : Prop :=
  bl.length = n ∧ n ≤ c ∧ c ≤ 9223372036854775807 ∧
    (0 < n → ∃ b off, A = some ⟨b, off, none⟩ ∧ ∀ i, i < n → ∃ Am nm cm, w.cell? ⟨b, off + i * 2, none⟩ = some (.int .u8 (bl.getD i (0, [])).1) ∧
      w.cell? ⟨b, off + i * 2 + 1, none⟩ = some (.slice Am nm cm) ∧ RInts w Am nm cm (bl.getD i (0, [])).2)
theorem RBls.step {w : World} {A : Option Addr} {n c k : Nat} {bl : List (Int × List Int)} (h : RBls w A n c bl) (hk : k < n) : ∃ b off Am nm cm kb ms, A = some ⟨b, off, none⟩ ∧ w.cell? ⟨b, off + k * 2, none⟩ = some (.int .u8 kb) ∧ w.cell? ⟨b, off + k * 2 + 1, none⟩ = some (.slice Am nm cm) ∧ RInts w Am nm cm ms ∧ Hid (bl[k]? = some (kb, ms)) := by
  have hl : k < bl.length := by have := h.1; omega
  obtain ⟨b, off, e, hc⟩ := h.2.2.2 (by omega)
  obtain ⟨Am, nm, cm, h1, h2, h3⟩ := hc k hk
  have hg : bl.getD k (0, []) = bl[k] := by simp [List.getD, hl]
  exact ⟨b, off, Am, nm, cm, (bl.getD k (0, [])).1, (bl.getD k (0, [])).2, e, h1, h2, h3, by rw [hg]; exact List.getElem?_eq_getElem hl⟩
theorem RBls.below {w w' : World} {A : Option Addr} {n c : Nat} {bl : List (Int × List Int)} (h : RBls w A n c bl) (hb : Below w.heap.size w w') : RBls w' A n c bl :=
  ⟨h.1, h.2.1, h.2.2.1, fun hn => let ⟨b, off, e, hc⟩ := h.2.2.2 hn; ⟨b, off, e, fun i hi => let ⟨Am, nm, cm, h1, h2, h3⟩ := hc i hi; ⟨Am, nm, cm, keep_cell hb h1, keep_cell hb h2, h3.below hb⟩⟩⟩
def ex41ask : List (Int × List Int) := [(1, [0, 1]), (1, [2, 0]), (1, [1]), (1, [])]
def ex41v : List Int := [2, 0, 1, 1]
def ex41c : List ByteArray := [⟨#[97]⟩, ⟨#[98]⟩, ⟨#[99]⟩]
def ex41l : List Asn := [(2, 2, 1, []), (2, 0, 1, [])]
theorem ex41v_bd (x : Int) (h : x ∈ ex41v) : 0 ≤ x ∧ x ≤ 2 := by simp [ex41v] at h; omega
theorem ex41_at {k : Nat} {kb : Int} {ms : List Int} (h : ex41ask[k]? = some (kb, ms)) : valErr 3 0 2 [] kb ms 3 = 0 ∧ ex41v[k]? = some (valueA 3 0 2 [] kb ms 3) := by
  have hk : k < 4 := (List.getElem?_eq_some_iff.1 h).1
  have : k = 0 ∨ k = 1 ∨ k = 2 ∨ k = 3 := by omega
  rcases this with rfl | rfl | rfl | rfl
  · obtain ⟨rfl, rfl⟩ := Prod.mk.inj (Option.some.inj h); exact ⟨by kernel_rfl, by kernel_rfl⟩
  · obtain ⟨rfl, rfl⟩ := Prod.mk.inj (Option.some.inj h); exact ⟨by kernel_rfl, by kernel_rfl⟩
  · obtain ⟨rfl, rfl⟩ := Prod.mk.inj (Option.some.inj h); exact ⟨by kernel_rfl, by kernel_rfl⟩
  · obtain ⟨rfl, rfl⟩ := Prod.mk.inj (Option.some.inj h); exact ⟨by kernel_rfl, by kernel_rfl⟩
theorem ex41_e1 : valErr 4 1 2 [1, 2] 1 [0, 2, 1] 3 = 0 := by kernel_rfl
theorem ex41_v1 : valueA 4 1 2 [1, 2] 1 [0, 2, 1] 3 = 0 := by kernel_rfl
theorem ex41_e2 : valErr 4 1 2 [1, 2] 1 [0] 3 = 0 := by kernel_rfl
theorem ex41_v2 : valueA 4 1 2 [1, 2] 1 [0] 3 = 1 := by kernel_rfl
theorem ex41_e3 : valErr 5 1 0 [0, 1] 1 [2, 0, 1] 3 = 0 := by kernel_rfl
theorem ex41_v3 : valueA 5 1 0 [0, 1] 1 [2, 0, 1] 3 = 0 := by kernel_rfl
theorem ex41_e4 : valErr 3 0 2 [] 2 [1] 3 = 8 := by kernel_rfl
theorem ex41_v4 : valueA 3 0 2 [] 2 [1] 3 = 0 := by kernel_rfl
theorem ex41_e5 : valErr 1 0 1 [] 2 [0, 1] 3 = 0 := by kernel_rfl
theorem ex41_v5 : valueA 1 0 1 [] 2 [0, 1] 3 = 1 := by kernel_rfl
theorem ex41_of1 : ofE ⟨#[120]⟩ ex41c 2 2 [2, 0] [] = 0 := by kernel_rfl
theorem ex41_of2 : ofE ⟨#[120]⟩ ex41c 2 2 [2, 2] [] = 8 := by kernel_rfl
theorem ex41_of3 : ofE ⟨#[120]⟩ ex41c 2 3 [2, 0] [] = 6 := by kernel_rfl
theorem ex41_oa1 : ofA ⟨#[120]⟩ ex41c 2 2 [2, 0] [] = ex41l := by kernel_rfl
theorem ex41_c1 : checkA 3 0 2 [] 2 = 8 := by kernel_rfl
theorem ex41_c2 : checkA 3 0 2 [] 11 = 2 := by kernel_rfl
theorem ex41_c3 : checkA 5 1 0 [0, 1] 2 = 0 := by kernel_rfl
theorem ex41_s1 : sameA 3 0 2 [] 3 0 2 [] = true := by kernel_rfl
theorem ex41_s2 : sameA 3 0 2 [] 4 1 2 [1, 2] = false := by kernel_rfl
theorem ex41l_nil (a : Asn) (h : a ∈ ex41l) : a.2.2.2 = [] := by
  simp only [ex41l, List.mem_cons, List.not_mem_nil, or_false] at h
  rcases h with rfl | rfl <;> rfl
theorem asn_nil {w w' : World} {vs : List Value} {a : Asn} (h : EAsn w vs a) (ha : a.2.2.2 = []) : EAsn w' vs a := by
  obtain ⟨A, n, c, e, hr⟩ := h
  refine ⟨A, n, c, e, ?_⟩
  rw [ha] at hr ⊢
  obtain rfl : n = 0 := hr.len.symm
  exact ⟨rfl, hr.2.1, hr.2.2.1, by simp, fun h => absurd h (by omega)⟩
theorem oagg_plain {e : TypeId} {fp : Nat → Prop} {w : World} {B : Nat} {v : Value} {l : List Asn} (h : OAgg EAsn e 4 fp w B v l) (hl : ∀ a ∈ l, a.2.2.2 = []) : OAgg EAsn e 4 (fun _ => False) w B v l := by
  obtain ⟨vs, h1, h2, h3, h4⟩ := h
  refine ⟨vs, h1, h2, ⟨fun _ h => h.elim, fun w' _ => ⟨h3.get.1, fun i x y hx hy => asn_nil (h3.get.2 i x y hx hy) (hl y (List.mem_of_getElem? hy))⟩⟩, fun _ _ h => h⟩
theorem lit4 {w : World} {g t : Nat} {x y z u : Int} (h : Has w g t #[.int .i64 x, .int .i64 y, .int .i64 z, .int .i64 u]) (hx : I64 x) (hy : I64 y) (hz : I64 z) (hu : I64 u) : RInts w (some ⟨g, 0, none⟩) 4 4 [x, y, z, u] :=
  ints_lit [x, y, z, u] h (by simp) (by intro v hv; simp at hv; rcases hv with rfl | rfl | rfl | rfl; exact hx; exact hy; exact hz; exact hu)
theorem ask41 {w : World} {g : Nat} {t : TypeId} {A1 A2 A3 : Option Addr} (h : Has w g t #[.int .u8 1, .slice A1 2 2, .int .u8 1, .slice A2 2 2, .int .u8 1, .slice A3 1 1, .int .u8 1, .slice none 0 0])
    (h1 : RInts w A1 2 2 [0, 1]) (h2 : RInts w A2 2 2 [2, 0]) (h3 : RInts w A3 1 1 [1]) : RBls w (some ⟨g, 0, none⟩) 4 4 ex41ask := by
  refine ⟨rfl, Nat.le_refl _, by omega, fun _ => ⟨g, 0, rfl, fun i hi => ?_⟩⟩
  have : i = 0 ∨ i = 1 ∨ i = 2 ∨ i = 3 := by omega
  rcases this with rfl | rfl | rfl | rfl
  · exact ⟨_, _, _, h.cell 0, h.cell 1, h1⟩
  · exact ⟨_, _, _, h.cell 2, h.cell 3, h2⟩
  · exact ⟨_, _, _, h.cell 4, h.cell 5, h3⟩
  · exact ⟨_, _, _, h.cell 6, h.cell 7, RInts.nil_ _⟩
theorem strs41 {w : World} {g : Nat} {t : TypeId} (h : Has w g t #[.string ⟨#[97]⟩, .string ⟨#[98]⟩, .string ⟨#[99]⟩]) : RStrs w (some ⟨g, 0, none⟩) 3 3 ex41c := by
  refine ⟨rfl, Nat.le_refl _, by omega, fun _ => ⟨g, 0, rfl, fun i hi => ?_⟩⟩
  have : i = 0 ∨ i = 1 ∨ i = 2 := by omega
  rcases this with rfl | rfl | rfl
  · exact ⟨_, rfl, h.cell 0⟩
  · exact ⟨_, rfl, h.cell 1⟩
  · exact ⟨_, rfl, h.cell 2⟩
theorem strs_frame {S : Nat → Prop} {w w' : World} {A : Option Addr} {n c : Nat} {ss : List ByteArray} (h : RStrs w A n c ss) (k : Frame' S w w') (hA : 0 < n → ∃ b off, A = some ⟨b, off, none⟩ ∧ ¬ S b) : RStrs w' A n c ss := by
  refine ⟨h.1, h.2.1, h.2.2.1, fun hn => ?_⟩
  obtain ⟨b, off, e, hc⟩ := h.2.2.2 hn
  obtain ⟨b', off', e', hS⟩ := hA hn
  rw [e] at e'; cases e'
  refine ⟨b, off, e, fun i hi => ?_⟩
  obtain ⟨s, h1, h2⟩ := hc i hi
  exact ⟨s, h1, by rw [World.cell?_of_block (w := w) (k.block b (World.block_lt_of_cell? w _ h2) hS)]; exact h2⟩
/-- What lay in an elder world stays where younger blocks alone are written. -/
theorem rg_frame {S : Nat → Prop} {w w1 w2 : World} {A : Option Addr} {n c : Nat} {xs : List Int} (h : RInts w A n c xs) (hb : Below w.heap.size w w1) (k : Frame' S w1 w2) (hS : ∀ b, S b → w.heap.size ≤ b) : RInts w2 A n c xs :=
  h.below ⟨by rw [k.os, hb.os], by rw [k.tape, hb.tape], by rw [k.output, hb.output], Nat.le_trans hb.size k.size, fun j hj => (k.block j (Nat.lt_of_lt_of_le hj hb.size) fun hs => by have := hS j hs; omega).trans (hb.block j hj)⟩

set_option maxRecDepth 100000 in
set_option maxHeartbeats 8000000 in
theorem examples41_any (w0 : World) : Calls Tryz.prog 7 #[] w0 fun e w' => e = .returned (.bool true) ∧ Below w0.heap.size w0 w' := by
  have i64 : ∀ x : Int, 0 ≤ x → x ≤ 100 → I64 x := fun x h1 h2 => ⟨by omega, by omega⟩
  have I64s := hide i64
  clear i64
  go_enter Tryz.func7, Tryz.ntmps7
  go_upto_region 1 with fail
  go_upto_region 2 with fail
  have hb0 : Below w0.heap.size w0 (w0.alloc (.cells #[.int .u8 3, .int .i64 0, .int .i64 2, .slice none 0 0] 24)) := below_allocN
  have hva := Has.new w0 24 #[.int .u8 3, .int .i64 0, .int .i64 2, .slice none 0 0]
  generalize World.alloc w0 _ = w1 at hb0 hva ⊢
  have gva : w0.heap.size < w1.heap.size := hva.lt
  have hb1 : Below w1.heap.size w1 (w1.alloc (.cells #[.int .i64 1, .int .i64 2] 3)) := below_allocN
  have hbl := Has.new w1 3 #[.int .i64 1, .int .i64 2]
  generalize hW1 : World.alloc w1 _ = w2 at hb1 hbl
  have gbl : w1.heap.size < w2.heap.size := hbl.lt
  have rbl := lit2 hbl (I64s.out _ (by decide) (by decide)) (I64s.out _ (by decide) (by decide))
  go_upto_region 3 with fail
  try simp only [hW1]
  clear hW1
  have hb2 : Below w2.heap.size w2 (w2.alloc (.cells #[.int .u8 4, .int .i64 1, .int .i64 2, .slice (some ⟨w1.heap.size, 0, none⟩) 2 2] 24)) := below_allocN
  have hvb := Has.new w2 24 #[.int .u8 4, .int .i64 1, .int .i64 2, .slice (some ⟨w1.heap.size, 0, none⟩) 2 2]
  generalize World.alloc w2 _ = w3 at hb2 hvb ⊢
  have gvb : w2.heap.size < w3.heap.size := hvb.lt
  have hb3 : Below w3.heap.size w3 (w3.alloc (.cells #[.int .i64 0, .int .i64 1] 3)) := below_allocN
  have hml := Has.new w3 3 #[.int .i64 0, .int .i64 1]
  generalize hW3 : World.alloc w3 _ = w4 at hb3 hml
  have gml : w3.heap.size < w4.heap.size := hml.lt
  have rml := lit2 hml (I64s.out _ (by decide) (by decide)) (I64s.out _ (by decide) (by decide))
  go_upto_region 4 with fail
  try simp only [hW3]
  clear hW3
  have hb4 : Below w4.heap.size w4 (w4.alloc (.cells #[.int .u8 5, .int .i64 1, .int .i64 0, .slice (some ⟨w3.heap.size, 0, none⟩) 2 2] 24)) := below_allocN
  have hvm := Has.new w4 24 #[.int .u8 5, .int .i64 1, .int .i64 0, .slice (some ⟨w3.heap.size, 0, none⟩) 2 2]
  generalize World.alloc w4 _ = w5 at hb4 hvm ⊢
  have gvm : w4.heap.size < w5.heap.size := hvm.lt
  go_upto_region 5 with fail
  have hb5 : Below w5.heap.size w5 (w5.alloc (.cells #[.int .i64 0, .int .i64 1] 3)) := below_allocN
  have hx1 := Has.new w5 3 #[.int .i64 0, .int .i64 1]
  generalize hW5 : World.alloc w5 _ = w6 at hb5 hx1
  have gx1 : w5.heap.size < w6.heap.size := hx1.lt
  have rx1 := lit2 hx1 (I64s.out _ (by decide) (by decide)) (I64s.out _ (by decide) (by decide))
  go_wp2_with fail
  try simp only [hW5]
  clear hW5
  refine (ranks_any (some ⟨w5.heap.size, 0, none⟩) 2 2 w6).mono ?_
  rintro e w7 ⟨rfl, hb6⟩
  have hb7 : Below w7.heap.size w7 (w7.alloc (.cells #[.int .i64 2, .int .i64 0] 3)) := below_allocN
  have hx2 := Has.new w7 3 #[.int .i64 2, .int .i64 0]
  generalize hW7 : World.alloc w7 _ = w8 at hb7 hx2
  have gx2 : w7.heap.size < w8.heap.size := hx2.lt
  have rx2 := lit2 hx2 (I64s.out _ (by decide) (by decide)) (I64s.out _ (by decide) (by decide))
  go_wp2_with fail
  try simp only [hW7]
  clear hW7
  refine (ranks_any (some ⟨w7.heap.size, 0, none⟩) 2 2 w8).mono ?_
  rintro e w9 ⟨rfl, hb8⟩
  have hb9 : Below w9.heap.size w9 (w9.alloc (.cells #[.int .i64 1] 3)) := below_allocN
  have hx3 := Has.new w9 3 #[.int .i64 1]
  generalize hW9 : World.alloc w9 _ = w10 at hb9 hx3
  have gx3 : w9.heap.size < w10.heap.size := hx3.lt
  have rx3 := lit_ints hx3 (I64s.out _ (by decide) (by decide))
  go_wp2_with fail
  try simp only [hW9]
  clear hW9
  refine (ranks_any (some ⟨w9.heap.size, 0, none⟩) 1 1 w10).mono ?_
  rintro e w11 ⟨rfl, hb10⟩
  go_wp2_with fail
  refine (ranks_any none 0 0 w11).mono ?_
  rintro e w12 ⟨rfl, hb11⟩
  have hb12 : Below w12.heap.size w12 (w12.alloc (.cells #[.int .u8 1, .slice (some ⟨w5.heap.size, 0, none⟩) 2 2, .int .u8 1, .slice (some ⟨w7.heap.size, 0, none⟩) 2 2, .int .u8 1, .slice (some ⟨w9.heap.size, 0, none⟩) 1 1, .int .u8 1, .slice none 0 0] 29)) := below_allocN
  have hask := Has.new w12 29 #[.int .u8 1, .slice (some ⟨w5.heap.size, 0, none⟩) 2 2, .int .u8 1, .slice (some ⟨w7.heap.size, 0, none⟩) 2 2, .int .u8 1, .slice (some ⟨w9.heap.size, 0, none⟩) 1 1, .int .u8 1, .slice none 0 0]
  generalize hW12 : World.alloc w12 _ = w13 at hb12 hask
  have gask : w12.heap.size < w13.heap.size := hask.lt
  have hB11_13 := Below_trans' hb11 hb11.size hb12
  have hB10_13 := Below_trans' hb10 hb10.size hB11_13
  have hB9_13 := Below_trans' hb9 hb9.size hB10_13
  have hB8_13 := Below_trans' hb8 hb8.size hB9_13
  have hB7_13 := Below_trans' hb7 hb7.size hB8_13
  have hB6_13 := Below_trans' hb6 hb6.size hB7_13
  have rask := ask41 hask (rx1.below hB6_13) (rx2.below hB8_13) (rx3.below hB10_13)
  go_wp2_with fail
  try simp only [hW12]
  clear hW12
  have hB5_13 := Below_trans' hb5 hb5.size hB6_13
  have hB4_13 := Below_trans' hb4 hb4.size hB5_13
  have hB3_13 := Below_trans' hb3 hb3.size hB4_13
  have hB2_13 := Below_trans' hb2 hb2.size hB3_13
  have hB1_13 := Below_trans' hb1 hb1.size hB2_13
  have hgot : Own w13 w13.heap.size (.slice none 0 0) [] := Own.nil_ _ _
  go_loopw [4, 6] (fun v i wr => ∃ k : Nat, k ≤ 4 ∧ i = .int .i64 k ∧ Own wr w13.heap.size v (ex41v.take k) ∧ Below w13.heap.size w13 wr) (fun _ i _ => 4 - (intOf i).toNat)
  case atStart => exact ⟨0, Nat.zero_le _, rfl, hgot, Below.refl _ _⟩
  case round =>
    obtain ⟨k, hk, rfl, hG, hb⟩ := hrel
    obtain ⟨wo, rfl⟩ : ∃ wo : World, wo = wr := ⟨_, rfl⟩
    by_cases hlt : k < 4
    · have hP := ((hva.below hB1_13 hva.lt)).below hb ((hva.below hB1_13 hva.lt)).lt
      have p0 := hP.cell 0
      have p1 := hP.cell 1
      have p2 := hP.cell 2
      have p3 := hP.cell 3
      obtain ⟨bb, off, Am, nm, cm, kb, ms, e1, hc0, hc1, hms, hat⟩ := (rask.below hb).step hlt
      cases e1
      simp only [Nat.zero_add] at hc0 hc1
      have hval := hide (ex41_at hat.out)
      have hV : ∀ q, Calls Tryz.prog 10 #[.agg #[.int .u8 3, .int .i64 0, .int .i64 2, .slice none 0 0], .agg #[.int .u8 kb, .slice Am nm cm], .int .i64 3] (More wo q) fun e w' => e = .returned (.tuple #[.int .i64 (valueA 3 0 2 [] kb ms 3), .int .i64 0]) ∧ Below (More wo q).heap.size (More wo q) w' := fun q => by
        have := value_any 3 0 2 none 0 0 [] kb Am nm cm ms 3 (More wo q) (RInts.nil_ _) (hms.more q)
        rwa [hval.out.1] at this
      generalize hvv : valueA 3 0 2 [] kb ms 3 = vv at *
      have hv2 := hide hval.out.2
      clear hval hvv
      have hln : Hid ((ex41v.take k).length = k) := by unfold Hid; rw [List.length_take]; show min k 4 = k; omega
      have hnx : Hid (ex41v.take (k + 1) = ex41v.take k ++ [vv]) := by unfold Hid; rw [List.take_add_one, hv2.out]; rfl
      have hle := hide hln.out
      clear hms
      go_wp2
      refine wp_region_more (by kernel_rfl) (by kernel_rfl) ?_
      repeat (go_big_quiet_step ((go_at_call 10; with_reducible exact more_of (hV _))))
      refine wpQuiet_nil ?_
      rintro w2 ⟨qw2, hww2⟩
      have hbw2 := below_of_eq hww2
      clear hww2 qw2
      clear hV p0 p1 p2 p3 hc0 hc1
      have hG2 := hG.below hbw2
      have hb2 := Below_trans' hb hb.size hbw2
      have hz2 := hb2.size
      go_wp2_with (at_builtin; refine appInt rfl rfl rfl (hG2.below below_allocN) rfl ((Has.new _ _ _).cell 0) (by rw [hle.out]; omega) (by simp; omega) ?_)
      intro v' w' hO' hg
      have hb3 : Below w13.heap.size w13 w' := (hb2.alloc hz2 _).grown hg (by simp; omega) (fun i hi => (hG2.lt i hi).1)
      go_wp2
      go_roundw
      case rel => exact ⟨k + 1, by omega, by go_num, by rw [hnx.out]; exact hO', hb3⟩
      case measure => simp [intOf] <;> omega
    · obtain rfl : 4 = k := by omega
      obtain ⟨w14, hW13⟩ : ∃ W : World, W = wo := ⟨_, rfl⟩
      rw [← hW13] at hb hG ⊢
      clear hW13
      have hb13 := hb
      clear hb
      have hG : Own w14 w13.heap.size u4 ex41v := hG
      obtain ⟨Ag, cg, rfl⟩ : ∃ A c, u4 = .slice A 4 c := hG.slice
      have rg := hG.ints (fun x hx => by have := ex41v_bd x hx; omega)
      have rg : RInts w14 Ag 4 cg ex41v := rg
      clear hG
      have hB12_14 := Below_trans' hb12 hb12.size hb13
      have hB11_14 := Below_trans' hb11 hb11.size hB12_14
      have hB10_14 := Below_trans' hb10 hb10.size hB11_14
      have hB9_14 := Below_trans' hb9 hb9.size hB10_14
      have hB8_14 := Below_trans' hb8 hb8.size hB9_14
      have hB7_14 := Below_trans' hb7 hb7.size hB8_14
      have hB6_14 := Below_trans' hb6 hb6.size hB7_14
      have hB5_14 := Below_trans' hb5 hb5.size hB6_14
      have hB4_14 := Below_trans' hb4 hb4.size hB5_14
      have hB3_14 := Below_trans' hb3 hb3.size hB4_14
      have cvb_0 := (hvb.below hB3_14 hvb.lt).cell 0
      have cvb_1 := (hvb.below hB3_14 hvb.lt).cell 1
      have cvb_2 := (hvb.below hB3_14 hvb.lt).cell 2
      have cvb_3 := (hvb.below hB3_14 hvb.lt).cell 3
      go_upto_region 13 with fail
      refine wp_region_flowz [0] [0, 4, 5, 6, 7, 8] (fun w' => ∃ q, w' = More w14 q) (by kernel_rfl) (by kernel_rfl) (below_more ((Below.refl w14.heap.size w14).drew)) ?_
      simp only [pickOps, List.getElem?_cons_zero]
      repeat (go_big_quiet_step (fail))
      refine wpQuiet_nil ?_
      clear cvb_0 cvb_1 cvb_2 cvb_3
      refine flow_one 1 (by kernel_rfl) rfl ?_
      go_wp2
      have hb14 : Below w14.heap.size w14 ((w14.alloc (.cells #[.int .i64 0, .int .i64 2, .int .i64 1] 3)).drew) := below_allocN.drew
      have hd1 : Has ((w14.alloc (.cells #[.int .i64 0, .int .i64 2, .int .i64 1] 3)).drew) w14.heap.size 3 #[.int .i64 0, .int .i64 2, .int .i64 1] := (Has.new w14 3 #[.int .i64 0, .int .i64 2, .int .i64 1]).drew
      generalize World.drew (World.alloc w14 _) = w15 at hb14 hd1 ⊢
      have gd1 : w14.heap.size < w15.heap.size := hd1.lt
      have rd1 := lit3 hd1 (I64s.out _ (by decide) (by decide)) (I64s.out _ (by decide) (by decide)) (I64s.out _ (by decide) (by decide))
      refine FlowPost.mk ⟨below_more hb14, ?_⟩
      refine flow_one 2 (by kernel_rfl) rfl ?_
      go_wp2_with fail
      refine (ranks_any (some ⟨w14.heap.size, 0, none⟩) 3 3 w15).mono ?_
      rintro e w16 ⟨rfl, hb15⟩
      have hB14_16 := Below_trans' hb14 hb14.size hb15
      go_wp2
      refine FlowPost.mk ⟨below_more hB14_16, ?_⟩
      refine flow_one 3 (by kernel_rfl) rfl ?_
      go_wp2_with fail
      have hB13_16 := Below_trans' hb13 hb13.size hB14_16
      have hB12_16 := Below_trans' hb12 hb12.size hB13_16
      have hB11_16 := Below_trans' hb11 hb11.size hB12_16
      have hB10_16 := Below_trans' hb10 hb10.size hB11_16
      have hB9_16 := Below_trans' hb9 hb9.size hB10_16
      have hB8_16 := Below_trans' hb8 hb8.size hB9_16
      have hB7_16 := Below_trans' hb7 hb7.size hB8_16
      have hB6_16 := Below_trans' hb6 hb6.size hB7_16
      have hB5_16 := Below_trans' hb5 hb5.size hB6_16
      have hB4_16 := Below_trans' hb4 hb4.size hB5_16
      have hB3_16 := Below_trans' hb3 hb3.size hB4_16
      have hB2_16 := Below_trans' hb2 hb2.size hB3_16
      refine (value_any 4 1 2 (some ⟨w1.heap.size, 0, none⟩) 2 2 [1, 2] 1 (some ⟨w14.heap.size, 0, none⟩) 3 3 [0, 2, 1] 3 w16 (rbl.below hB2_16) (rd1.below hb15)).mono ?_
      rintro e w17 ⟨rfl, hb16⟩
      rw [ex41_e1, ex41_v1]
      have hB15_17 := Below_trans' hb15 hb15.size hb16
      have hB14_17 := Below_trans' hb14 hb14.size hB15_17
      go_wp2
      refine FlowPost.mk ⟨below_more hB14_17, ?_⟩
      refine flow_pure [4, 5, 6, 7, 8] (by kernel_rfl) (below_more hB14_17) ?_
      simp only [pickOps, List.getElem?_cons_zero, List.getElem?_cons_succ]
      repeat (go_big_quiet_step (fail))
      refine wpQuiet_nil ?_
      refine flow_rest [] (by kernel_rfl) ?_
      simp only [pickOps]
      have hB13_17 := Below_trans' hb13 hb13.size hB14_17
      have hB12_17 := Below_trans' hb12 hb12.size hB13_17
      have hB11_17 := Below_trans' hb11 hb11.size hB12_17
      have hB10_17 := Below_trans' hb10 hb10.size hB11_17
      have hB9_17 := Below_trans' hb9 hb9.size hB10_17
      have hB8_17 := Below_trans' hb8 hb8.size hB9_17
      have hB7_17 := Below_trans' hb7 hb7.size hB8_17
      have hB6_17 := Below_trans' hb6 hb6.size hB7_17
      have hB5_17 := Below_trans' hb5 hb5.size hB6_17
      have hB4_17 := Below_trans' hb4 hb4.size hB5_17
      have hB3_17 := Below_trans' hb3 hb3.size hB4_17
      have cvb_0 := (hvb.below hB3_17 hvb.lt).cell 0
      have cvb_1 := (hvb.below hB3_17 hvb.lt).cell 1
      have cvb_2 := (hvb.below hB3_17 hvb.lt).cell 2
      have cvb_3 := (hvb.below hB3_17 hvb.lt).cell 3
      go_upto_region 14 with fail
      refine wp_region_flowz [0] [0, 4, 5, 6, 7, 8] (fun w' => ∃ q, w' = More w17 q) (by kernel_rfl) (by kernel_rfl) (below_more ((Below.refl w17.heap.size w17).drew)) ?_
      simp only [pickOps, List.getElem?_cons_zero]
      repeat (go_big_quiet_step (fail))
      refine wpQuiet_nil ?_
      clear cvb_0 cvb_1 cvb_2 cvb_3
      refine flow_one 1 (by kernel_rfl) rfl ?_
      go_wp2
      have hb17 : Below w17.heap.size w17 ((w17.alloc (.cells #[.int .i64 0] 3)).drew) := below_allocN.drew
      have hd2 : Has ((w17.alloc (.cells #[.int .i64 0] 3)).drew) w17.heap.size 3 #[.int .i64 0] := (Has.new w17 3 #[.int .i64 0]).drew
      generalize World.drew (World.alloc w17 _) = w18 at hb17 hd2 ⊢
      have gd2 : w17.heap.size < w18.heap.size := hd2.lt
      have rd2 := lit_ints hd2 (I64s.out _ (by decide) (by decide))
      refine FlowPost.mk ⟨below_more hb17, ?_⟩
      refine flow_one 2 (by kernel_rfl) rfl ?_
      go_wp2_with fail
      refine (ranks_any (some ⟨w17.heap.size, 0, none⟩) 1 1 w18).mono ?_
      rintro e w19 ⟨rfl, hb18⟩
      have hB17_19 := Below_trans' hb17 hb17.size hb18
      go_wp2
      refine FlowPost.mk ⟨below_more hB17_19, ?_⟩
      refine flow_one 3 (by kernel_rfl) rfl ?_
      go_wp2_with fail
      have hB16_19 := Below_trans' hb16 hb16.size hB17_19
      have hB15_19 := Below_trans' hb15 hb15.size hB16_19
      have hB14_19 := Below_trans' hb14 hb14.size hB15_19
      have hB13_19 := Below_trans' hb13 hb13.size hB14_19
      have hB12_19 := Below_trans' hb12 hb12.size hB13_19
      have hB11_19 := Below_trans' hb11 hb11.size hB12_19
      have hB10_19 := Below_trans' hb10 hb10.size hB11_19
      have hB9_19 := Below_trans' hb9 hb9.size hB10_19
      have hB8_19 := Below_trans' hb8 hb8.size hB9_19
      have hB7_19 := Below_trans' hb7 hb7.size hB8_19
      have hB6_19 := Below_trans' hb6 hb6.size hB7_19
      have hB5_19 := Below_trans' hb5 hb5.size hB6_19
      have hB4_19 := Below_trans' hb4 hb4.size hB5_19
      have hB3_19 := Below_trans' hb3 hb3.size hB4_19
      have hB2_19 := Below_trans' hb2 hb2.size hB3_19
      refine (value_any 4 1 2 (some ⟨w1.heap.size, 0, none⟩) 2 2 [1, 2] 1 (some ⟨w17.heap.size, 0, none⟩) 1 1 [0] 3 w19 (rbl.below hB2_19) (rd2.below hb18)).mono ?_
      rintro e w20 ⟨rfl, hb19⟩
      rw [ex41_e2, ex41_v2]
      have hB18_20 := Below_trans' hb18 hb18.size hb19
      have hB17_20 := Below_trans' hb17 hb17.size hB18_20
      go_wp2
      refine FlowPost.mk ⟨below_more hB17_20, ?_⟩
      refine flow_pure [4, 5, 6, 7, 8] (by kernel_rfl) (below_more hB17_20) ?_
      simp only [pickOps, List.getElem?_cons_zero, List.getElem?_cons_succ]
      repeat (go_big_quiet_step (fail))
      refine wpQuiet_nil ?_
      refine flow_rest [] (by kernel_rfl) ?_
      simp only [pickOps]
      have hB16_20 := Below_trans' hb16 hb16.size hB17_20
      have hB15_20 := Below_trans' hb15 hb15.size hB16_20
      have hB14_20 := Below_trans' hb14 hb14.size hB15_20
      have hB13_20 := Below_trans' hb13 hb13.size hB14_20
      have hB12_20 := Below_trans' hb12 hb12.size hB13_20
      have hB11_20 := Below_trans' hb11 hb11.size hB12_20
      have hB10_20 := Below_trans' hb10 hb10.size hB11_20
      have hB9_20 := Below_trans' hb9 hb9.size hB10_20
      have hB8_20 := Below_trans' hb8 hb8.size hB9_20
      have hB7_20 := Below_trans' hb7 hb7.size hB8_20
      have hB6_20 := Below_trans' hb6 hb6.size hB7_20
      have hB5_20 := Below_trans' hb5 hb5.size hB6_20
      have cvm_0 := (hvm.below hB5_20 hvm.lt).cell 0
      have cvm_1 := (hvm.below hB5_20 hvm.lt).cell 1
      have cvm_2 := (hvm.below hB5_20 hvm.lt).cell 2
      have cvm_3 := (hvm.below hB5_20 hvm.lt).cell 3
      go_upto_region 15 with fail
      refine wp_region_flowz [0] [0, 4, 5, 6, 7, 8] (fun w' => ∃ q, w' = More w20 q) (by kernel_rfl) (by kernel_rfl) (below_more ((Below.refl w20.heap.size w20).drew)) ?_
      simp only [pickOps, List.getElem?_cons_zero]
      repeat (go_big_quiet_step (fail))
      refine wpQuiet_nil ?_
      clear cvm_0 cvm_1 cvm_2 cvm_3
      refine flow_one 1 (by kernel_rfl) rfl ?_
      go_wp2
      have hb20 : Below w20.heap.size w20 ((w20.alloc (.cells #[.int .i64 2, .int .i64 0, .int .i64 1] 3)).drew) := below_allocN.drew
      have hd3 : Has ((w20.alloc (.cells #[.int .i64 2, .int .i64 0, .int .i64 1] 3)).drew) w20.heap.size 3 #[.int .i64 2, .int .i64 0, .int .i64 1] := (Has.new w20 3 #[.int .i64 2, .int .i64 0, .int .i64 1]).drew
      generalize World.drew (World.alloc w20 _) = w21 at hb20 hd3 ⊢
      have gd3 : w20.heap.size < w21.heap.size := hd3.lt
      have rd3 := lit3 hd3 (I64s.out _ (by decide) (by decide)) (I64s.out _ (by decide) (by decide)) (I64s.out _ (by decide) (by decide))
      refine FlowPost.mk ⟨below_more hb20, ?_⟩
      refine flow_one 2 (by kernel_rfl) rfl ?_
      go_wp2_with fail
      refine (ranks_any (some ⟨w20.heap.size, 0, none⟩) 3 3 w21).mono ?_
      rintro e w22 ⟨rfl, hb21⟩
      have hB20_22 := Below_trans' hb20 hb20.size hb21
      go_wp2
      refine FlowPost.mk ⟨below_more hB20_22, ?_⟩
      refine flow_one 3 (by kernel_rfl) rfl ?_
      go_wp2_with fail
      have hB19_22 := Below_trans' hb19 hb19.size hB20_22
      have hB18_22 := Below_trans' hb18 hb18.size hB19_22
      have hB17_22 := Below_trans' hb17 hb17.size hB18_22
      have hB16_22 := Below_trans' hb16 hb16.size hB17_22
      have hB15_22 := Below_trans' hb15 hb15.size hB16_22
      have hB14_22 := Below_trans' hb14 hb14.size hB15_22
      have hB13_22 := Below_trans' hb13 hb13.size hB14_22
      have hB12_22 := Below_trans' hb12 hb12.size hB13_22
      have hB11_22 := Below_trans' hb11 hb11.size hB12_22
      have hB10_22 := Below_trans' hb10 hb10.size hB11_22
      have hB9_22 := Below_trans' hb9 hb9.size hB10_22
      have hB8_22 := Below_trans' hb8 hb8.size hB9_22
      have hB7_22 := Below_trans' hb7 hb7.size hB8_22
      have hB6_22 := Below_trans' hb6 hb6.size hB7_22
      have hB5_22 := Below_trans' hb5 hb5.size hB6_22
      have hB4_22 := Below_trans' hb4 hb4.size hB5_22
      refine (value_any 5 1 0 (some ⟨w3.heap.size, 0, none⟩) 2 2 [0, 1] 1 (some ⟨w20.heap.size, 0, none⟩) 3 3 [2, 0, 1] 3 w22 (rml.below hB4_22) (rd3.below hb21)).mono ?_
      rintro e w23 ⟨rfl, hb22⟩
      rw [ex41_e3, ex41_v3]
      have hB21_23 := Below_trans' hb21 hb21.size hb22
      have hB20_23 := Below_trans' hb20 hb20.size hB21_23
      go_wp2
      refine FlowPost.mk ⟨below_more hB20_23, ?_⟩
      refine flow_pure [4, 5, 6, 7, 8] (by kernel_rfl) (below_more hB20_23) ?_
      simp only [pickOps, List.getElem?_cons_zero, List.getElem?_cons_succ]
      repeat (go_big_quiet_step (fail))
      refine wpQuiet_nil ?_
      refine flow_rest [] (by kernel_rfl) ?_
      simp only [pickOps]
      have hB19_23 := Below_trans' hb19 hb19.size hB20_23
      have hB18_23 := Below_trans' hb18 hb18.size hB19_23
      have hB17_23 := Below_trans' hb17 hb17.size hB18_23
      have hB16_23 := Below_trans' hb16 hb16.size hB17_23
      have hB15_23 := Below_trans' hb15 hb15.size hB16_23
      have hB14_23 := Below_trans' hb14 hb14.size hB15_23
      have hB13_23 := Below_trans' hb13 hb13.size hB14_23
      have hB12_23 := Below_trans' hb12 hb12.size hB13_23
      have hB11_23 := Below_trans' hb11 hb11.size hB12_23
      have hB10_23 := Below_trans' hb10 hb10.size hB11_23
      have hB9_23 := Below_trans' hb9 hb9.size hB10_23
      have hB8_23 := Below_trans' hb8 hb8.size hB9_23
      have hB7_23 := Below_trans' hb7 hb7.size hB8_23
      have hB6_23 := Below_trans' hb6 hb6.size hB7_23
      have hB5_23 := Below_trans' hb5 hb5.size hB6_23
      have hB4_23 := Below_trans' hb4 hb4.size hB5_23
      have hB3_23 := Below_trans' hb3 hb3.size hB4_23
      have hB2_23 := Below_trans' hb2 hb2.size hB3_23
      have hB1_23 := Below_trans' hb1 hb1.size hB2_23
      have cva_0 := (hva.below hB1_23 hva.lt).cell 0
      have cva_1 := (hva.below hB1_23 hva.lt).cell 1
      have cva_2 := (hva.below hB1_23 hva.lt).cell 2
      have cva_3 := (hva.below hB1_23 hva.lt).cell 3
      go_upto_region 16 with fail
      refine wp_region_flowz [0] [0, 4, 5, 6, 7, 8] (fun w' => ∃ q, w' = More w23 q) (by kernel_rfl) (by kernel_rfl) (below_more ((Below.refl w23.heap.size w23).drew)) ?_
      simp only [pickOps, List.getElem?_cons_zero]
      repeat (go_big_quiet_step (fail))
      refine wpQuiet_nil ?_
      clear cva_0 cva_1 cva_2 cva_3
      refine flow_one 1 (by kernel_rfl) rfl ?_
      go_wp2
      have hb23 : Below w23.heap.size w23 ((w23.alloc (.cells #[.int .i64 1] 3)).drew) := below_allocN.drew
      have hd4 : Has ((w23.alloc (.cells #[.int .i64 1] 3)).drew) w23.heap.size 3 #[.int .i64 1] := (Has.new w23 3 #[.int .i64 1]).drew
      generalize World.drew (World.alloc w23 _) = w24 at hb23 hd4 ⊢
      have gd4 : w23.heap.size < w24.heap.size := hd4.lt
      have rd4 := lit_ints hd4 (I64s.out _ (by decide) (by decide))
      refine FlowPost.mk ⟨below_more hb23, ?_⟩
      refine flow_one 2 (by kernel_rfl) rfl ?_
      go_wp2_with fail
      refine (marks_any (some ⟨w23.heap.size, 0, none⟩) 1 1 w24).mono ?_
      rintro e w25 ⟨rfl, hb24⟩
      have hB23_25 := Below_trans' hb23 hb23.size hb24
      go_wp2
      refine FlowPost.mk ⟨below_more hB23_25, ?_⟩
      refine flow_one 3 (by kernel_rfl) rfl ?_
      go_wp2_with fail
      refine (value_any 3 0 2 none 0 0 [] 2 (some ⟨w23.heap.size, 0, none⟩) 1 1 [1] 3 w25 (RInts.nil_ _) (rd4.below hb24)).mono ?_
      rintro e w26 ⟨rfl, hb25⟩
      rw [ex41_e4, ex41_v4]
      have hB24_26 := Below_trans' hb24 hb24.size hb25
      have hB23_26 := Below_trans' hb23 hb23.size hB24_26
      go_wp2
      refine FlowPost.mk ⟨below_more hB23_26, ?_⟩
      refine flow_pure [4, 5, 6, 7, 8] (by kernel_rfl) (below_more hB23_26) ?_
      simp only [pickOps, List.getElem?_cons_zero, List.getElem?_cons_succ]
      repeat (go_big_quiet_step (fail))
      refine wpQuiet_nil ?_
      refine flow_rest [] (by kernel_rfl) ?_
      simp only [pickOps]
      go_upto_region 17 with fail
      have hb26 : Below w26.heap.size w26 (w26.alloc (.cells #[.string ⟨#[97]⟩, .string ⟨#[98]⟩, .string ⟨#[99]⟩] 9)) := below_allocN
      have hcl := Has.new w26 9 #[.string ⟨#[97]⟩, .string ⟨#[98]⟩, .string ⟨#[99]⟩]
      generalize hW26 : World.alloc w26 _ = w27 at hb26 hcl
      have gcl : w26.heap.size < w27.heap.size := hcl.lt
      have rcl := strs41 hcl
      go_upto_region 18 with fail
      try simp only [hW26]
      clear hW26
      have hb27 : Below w27.heap.size w27 (w27.alloc (.cells #[.string ⟨#[120]⟩, .slice (some ⟨w26.heap.size, 0, none⟩) 3 3, .int .i64 2, .int .u8 2] 60)) := below_allocN
      have hvc := Has.new w27 60 #[.string ⟨#[120]⟩, .slice (some ⟨w26.heap.size, 0, none⟩) 3 3, .int .i64 2, .int .u8 2]
      generalize World.alloc w27 _ = w28 at hb27 hvc ⊢
      have gvc : w27.heap.size < w28.heap.size := hvc.lt
      have cvc_0 := hvc.cell 0
      have cvc_1 := hvc.cell 1
      have cvc_2 := hvc.cell 2
      have cvc_3 := hvc.cell 3
      have hb28 : Below w28.heap.size w28 (w28.alloc (.cells #[.int .i64 2, .int .i64 0] 3)) := below_allocN
      have he1 := Has.new w28 3 #[.int .i64 2, .int .i64 0]
      generalize hW28 : World.alloc w28 _ = w29 at hb28 he1
      have ge1 : w28.heap.size < w29.heap.size := he1.lt
      have re1 := lit2 he1 (I64s.out _ (by decide) (by decide)) (I64s.out _ (by decide) (by decide))
      go_wp2_with fail
      try simp only [hW28]
      clear hW28
      have hB27_29 := Below_trans' hb27 hb27.size hb28
      refine (of41_any ⟨#[120]⟩ (some ⟨w26.heap.size, 0, none⟩) 3 3 ex41c 2 2 (by decide) (some ⟨w28.heap.size, 0, none⟩) 2 2 [2, 0] none 0 0 [] none 0 0 w29 (rcl.below hB27_29) re1 (RAgg.nil_ _ _ _) (by decide) (by decide)).mono ?_
      rintro e w30 ⟨⟨vo1, fo1, rfl, ho1⟩, hb29⟩
      clear cvc_0 cvc_1 cvc_2 cvc_3
      rw [ex41_of1]
      rw [ex41_oa1] at ho1
      obtain ⟨Ao, co, rfl⟩ : ∃ A c, vo1 = .slice A 2 c := ho1.slice
      go_upto_region 19 with fail
      have hB28_30 := Below_trans' hb28 hb28.size hb29
      have cvc_0 := (hvc.below hB28_30 hvc.lt).cell 0
      have cvc_1 := (hvc.below hB28_30 hvc.lt).cell 1
      have cvc_2 := (hvc.below hB28_30 hvc.lt).cell 2
      have cvc_3 := (hvc.below hB28_30 hvc.lt).cell 3
      have hb30 : Below w30.heap.size w30 (w30.alloc (.cells #[.int .i64 2, .int .i64 2] 3)) := below_allocN
      have he2 := Has.new w30 3 #[.int .i64 2, .int .i64 2]
      generalize hW30 : World.alloc w30 _ = w31 at hb30 he2
      have ge2 : w30.heap.size < w31.heap.size := he2.lt
      have re2 := lit2 he2 (I64s.out _ (by decide) (by decide)) (I64s.out _ (by decide) (by decide))
      go_wp2_with fail
      try simp only [hW30]
      clear hW30
      have hB29_31 := Below_trans' hb29 hb29.size hb30
      have hB28_31 := Below_trans' hb28 hb28.size hB29_31
      have hB27_31 := Below_trans' hb27 hb27.size hB28_31
      refine (of41_any ⟨#[120]⟩ (some ⟨w26.heap.size, 0, none⟩) 3 3 ex41c 2 2 (by decide) (some ⟨w30.heap.size, 0, none⟩) 2 2 [2, 2] none 0 0 [] none 0 0 w31 (rcl.below hB27_31) re2 (RAgg.nil_ _ _ _) (by decide) (by decide)).mono ?_
      rintro e w32 ⟨⟨vo2, fo2, rfl, ho2⟩, hb31⟩
      clear cvc_0 cvc_1 cvc_2 cvc_3
      rw [ex41_of2]
      obtain ⟨Ao2, no2, co2, rfl⟩ : ∃ A n c, vo2 = .slice A n c := let ⟨A, c, e⟩ := ho2.slice; ⟨A, _, c, e⟩
      clear ho2
      go_upto_region 20 with fail
      have hB30_32 := Below_trans' hb30 hb30.size hb31
      have hB29_32 := Below_trans' hb29 hb29.size hB30_32
      have hB28_32 := Below_trans' hb28 hb28.size hB29_32
      have cvc_3 := (hvc.below hB28_32 hvc.lt).cell 3
      have fc := (hvc.below hB28_32 hvc.lt).free 3
      go_upto_region 21 with fail
      have hB27_32 := Below_trans' hb27 hb27.size hB28_32
      have hB26_32 := Below_trans' hb26 hb26.size hB27_32
      have hB25_32 := Below_trans' hb25 hb25.size hB26_32
      have hB24_32 := Below_trans' hb24 hb24.size hB25_32
      have hB23_32 := Below_trans' hb23 hb23.size hB24_32
      have hB22_32 := Below_trans' hb22 hb22.size hB23_32
      have hB21_32 := Below_trans' hb21 hb21.size hB22_32
      have hB20_32 := Below_trans' hb20 hb20.size hB21_32
      have hB19_32 := Below_trans' hb19 hb19.size hB20_32
      have hB18_32 := Below_trans' hb18 hb18.size hB19_32
      have hB17_32 := Below_trans' hb17 hb17.size hB18_32
      have hB16_32 := Below_trans' hb16 hb16.size hB17_32
      have hB15_32 := Below_trans' hb15 hb15.size hB16_32
      have hB14_32 := Below_trans' hb14 hb14.size hB15_32
      have hB13_32 := Below_trans' hb13 hb13.size hB14_32
      have hB12_32 := Below_trans' hb12 hb12.size hB13_32
      have hB11_32 := Below_trans' hb11 hb11.size hB12_32
      have hB10_32 := Below_trans' hb10 hb10.size hB11_32
      have hB9_32 := Below_trans' hb9 hb9.size hB10_32
      have hB8_32 := Below_trans' hb8 hb8.size hB9_32
      have hB7_32 := Below_trans' hb7 hb7.size hB8_32
      have hB6_32 := Below_trans' hb6 hb6.size hB7_32
      have hB5_32 := Below_trans' hb5 hb5.size hB6_32
      have hB4_32 := Below_trans' hb4 hb4.size hB5_32
      have hB3_32 := Below_trans' hb3 hb3.size hB4_32
      have hB2_32 := Below_trans' hb2 hb2.size hB3_32
      have hB1_32 := Below_trans' hb1 hb1.size hB2_32
      have hB0_32 := Below_trans' hb0 hb0.size hB1_32
      have hF : Frame' (fun b => b = w27.heap.size) w32 (w32.setCell ⟨w27.heap.size, 3, none⟩ (.int .u8 3)) := (Frame'.refl (fun b => b = w27.heap.size) _).setCell (p := ⟨w27.heap.size, 3, none⟩) (.inl rfl) _
      have hvc2 := ((hvc.below hB28_32 hvc.lt)).put 3 (.int .u8 3)
      have hB25_27 := Below_trans' hb25 hb25.size hb26
      have hB24_27 := Below_trans' hb24 hb24.size hB25_27
      have hB23_27 := Below_trans' hb23 hb23.size hB24_27
      have hB22_27 := Below_trans' hb22 hb22.size hB23_27
      have hB21_27 := Below_trans' hb21 hb21.size hB22_27
      have hB20_27 := Below_trans' hb20 hb20.size hB21_27
      have hB19_27 := Below_trans' hb19 hb19.size hB20_27
      have hB18_27 := Below_trans' hb18 hb18.size hB19_27
      have hB17_27 := Below_trans' hb17 hb17.size hB18_27
      have hB16_27 := Below_trans' hb16 hb16.size hB17_27
      have hB15_27 := Below_trans' hb15 hb15.size hB16_27
      have hB14_27 := Below_trans' hb14 hb14.size hB15_27
      have hB13_27 := Below_trans' hb13 hb13.size hB14_27
      have hB12_27 := Below_trans' hb12 hb12.size hB13_27
      have hB11_27 := Below_trans' hb11 hb11.size hB12_27
      have hB10_27 := Below_trans' hb10 hb10.size hB11_27
      have hB9_27 := Below_trans' hb9 hb9.size hB10_27
      have hB8_27 := Below_trans' hb8 hb8.size hB9_27
      have hB7_27 := Below_trans' hb7 hb7.size hB8_27
      have hB6_27 := Below_trans' hb6 hb6.size hB7_27
      have hB5_27 := Below_trans' hb5 hb5.size hB6_27
      have hB4_27 := Below_trans' hb4 hb4.size hB5_27
      have hB3_27 := Below_trans' hb3 hb3.size hB4_27
      have hB2_27 := Below_trans' hb2 hb2.size hB3_27
      have hB1_27 := Below_trans' hb1 hb1.size hB2_27
      have hva2 := hF.has ((hva.below hB1_32 hva.lt)) (by have h1 := gva; have h2 := (hB1_27).size; omega)
      have hvb2 := hF.has ((hvb.below hB3_32 hvb.lt)) (by have h1 := gvb; have h2 := (hB3_27).size; omega)
      have hvm2 := hF.has ((hvm.below hB5_32 hvm.lt)) (by have h1 := gvm; have h2 := (hB5_27).size; omega)
      have rbl2 := ((rbl.below hB2_32)).frame hF (fun _ => ⟨_, _, rfl, by have h1 := gbl; have h2 := (hB2_27).size; omega⟩)
      have rml2 := ((rml.below hB4_32)).frame hF (fun _ => ⟨_, _, rfl, by have h1 := gml; have h2 := (hB4_27).size; omega⟩)
      have rcl2 := strs_frame (rcl.below hB27_32) hF (fun _ => ⟨_, _, rfl, by have h1 := gcl; have h2 := trivial; omega⟩)
      have rg2 := rg_frame rg (hB14_32) hF (fun b hb => by have h2 := (hB14_27).size; omega)
      have ho12 := (oagg_plain (ho1.below hB30_32) ex41l_nil).frame hF (fun b h => h.elim) (fun b hb hS => by have h1 := (ho1.lt hb).1; have h2 := gvc; have h3 := (hb28).size; omega)
      have hB0_27 := Below_trans' hb0 hb0.size hB1_27
      have hB0 : Below w0.heap.size w0 (w32.setCell ⟨w27.heap.size, 3, none⟩ (.int .u8 3)) := (hB0_32).setCell (p := ⟨w27.heap.size, 3, none⟩) (hB0_27).size _
      generalize World.setCell w32 _ _ = w33 at hvc2 hva2 hvb2 hvm2 rbl2 rml2 rcl2 rg2 ho12 hB0 ⊢
      clear hF fc
      clear cvc_3
      have cvc_0 := hvc2.cell 0
      have cvc_1 := hvc2.cell 1
      have cvc_2 := hvc2.cell 2
      have cvc_3 := hvc2.cell 3
      have hb33 : Below w33.heap.size w33 (w33.alloc (.cells #[.int .i64 2, .int .i64 0] 3)) := below_allocN
      have he3 := Has.new w33 3 #[.int .i64 2, .int .i64 0]
      generalize hW33 : World.alloc w33 _ = w34 at hb33 he3
      have ge3 : w33.heap.size < w34.heap.size := he3.lt
      have re3 := lit2 he3 (I64s.out _ (by decide) (by decide)) (I64s.out _ (by decide) (by decide))
      go_wp2_with fail
      try simp only [hW33]
      clear hW33
      refine (of41_any ⟨#[120]⟩ (some ⟨w26.heap.size, 0, none⟩) 3 3 ex41c 2 3 (by decide) (some ⟨w33.heap.size, 0, none⟩) 2 2 [2, 0] none 0 0 [] none 0 0 w34 (rcl2.below hb33) re3 (RAgg.nil_ _ _ _) (by decide) (by decide)).mono ?_
      rintro e w35 ⟨⟨vo3, fo3, rfl, ho3⟩, hb34⟩
      clear cvc_0 cvc_1 cvc_2 cvc_3
      rw [ex41_of3]
      obtain ⟨Ao3, no3, co3, rfl⟩ : ∃ A n c, vo3 = .slice A n c := let ⟨A, c, e⟩ := ho3.slice; ⟨A, _, c, e⟩
      clear ho3
      go_upto_region 22 with fail
      have hb35 : Below w35.heap.size w35 (w35.alloc (.cells #[.int .i64 0, .int .i64 1] 3)) := below_allocN
      have hk1 := Has.new w35 3 #[.int .i64 0, .int .i64 1]
      generalize hW35 : World.alloc w35 _ = w36 at hb35 hk1
      have gk1 : w35.heap.size < w36.heap.size := hk1.lt
      have rk1 := lit2 hk1 (I64s.out _ (by decide) (by decide)) (I64s.out _ (by decide) (by decide))
      go_wp2_with fail
      try simp only [hW35]
      clear hW35
      refine (marks_any (some ⟨w35.heap.size, 0, none⟩) 2 2 w36).mono ?_
      rintro e w37 ⟨rfl, hb36⟩
      go_wp2_with fail
      refine (value_any 1 0 1 none 0 0 [] 2 (some ⟨w35.heap.size, 0, none⟩) 2 2 [0, 1] 3 w37 (RInts.nil_ _) (rk1.below hb36)).mono ?_
      rintro e w38 ⟨rfl, hb37⟩
      rw [ex41_e5, ex41_v5]
      go_upto_region 23 with fail
      have hb38 : Below w38.heap.size w38 (w38.alloc (.cells #[.int .u8 2, .int .i64 2, .int .i64 1, .slice none 0 0, .int .u8 2, .int .i64 0, .int .i64 1, .slice none 0 0] 24)) := below_allocN
      have hwant := Has.new w38 24 #[.int .u8 2, .int .i64 2, .int .i64 1, .slice none 0 0, .int .u8 2, .int .i64 0, .int .i64 1, .slice none 0 0]
      generalize hW38 : World.alloc w38 _ = w39 at hb38 hwant
      have gwant : w38.heap.size < w39.heap.size := hwant.lt
      have rwant := ragg2 (E := EAsn) (size := 4) (us := [.int .u8 2, .int .i64 2, .int .i64 1, .slice none 0 0]) (vs := [.int .u8 2, .int .i64 0, .int .i64 1, .slice none 0 0]) (x := ((2, 2, 1, []) : Asn)) (y := ((2, 0, 1, []) : Asn)) hwant rfl rfl ⟨none, 0, 0, rfl, RInts.nil_ _⟩ ⟨none, 0, 0, rfl, RInts.nil_ _⟩
      go_upto_region 24 with fail
      try simp only [hW38]
      clear hW38
      simp only [List.append]
      have hb39 : Below w39.heap.size w39 (w39.alloc (.cells #[.int .i64 2, .int .i64 0, .int .i64 1, .int .i64 1] 3)) := below_allocN
      have hw1 := Has.new w39 3 #[.int .i64 2, .int .i64 0, .int .i64 1, .int .i64 1]
      generalize hW39 : World.alloc w39 _ = w40 at hb39 hw1
      have gw1 : w39.heap.size < w40.heap.size := hw1.lt
      have rw1 := lit4 hw1 (I64s.out _ (by decide) (by decide)) (I64s.out _ (by decide) (by decide)) (I64s.out _ (by decide) (by decide)) (I64s.out _ (by decide) (by decide))
      go_wp2_with fail
      try simp only [hW39]
      clear hW39
      have hB38_40 := Below_trans' hb38 hb38.size hb39
      have hB37_40 := Below_trans' hb37 hb37.size hB38_40
      have hB36_40 := Below_trans' hb36 hb36.size hB37_40
      have hB35_40 := Below_trans' hb35 hb35.size hB36_40
      have hB34_40 := Below_trans' hb34 hb34.size hB35_40
      have hB33_40 := Below_trans' hb33 hb33.size hB34_40
      refine (ints_eq _ _ _ _ _ _ ex41v w40 (rg2.below hB33_40) rw1).mono ?_
      rintro e w41 ⟨rfl, hb40⟩
      go_wp2_with fail
      have hB39_41 := Below_trans' hb39 hb39.size hb40
      have hB38_41 := Below_trans' hb38 hb38.size hB39_41
      have hB37_41 := Below_trans' hb37 hb37.size hB38_41
      have hB36_41 := Below_trans' hb36 hb36.size hB37_41
      have hB35_41 := Below_trans' hb35 hb35.size hB36_41
      have hB34_41 := Below_trans' hb34 hb34.size hB35_41
      have hB33_41 := Below_trans' hb33 hb33.size hB34_41
      refine (all41_eq _ _ _ _ _ _ ex41l w41 ((ho12.below hB33_41)).reads (rwant.below below_asn hB39_41)).mono ?_
      rintro e w42 ⟨rfl, hb41⟩
      have hB40_42 := Below_trans' hb40 hb40.size hb41
      have hB39_42 := Below_trans' hb39 hb39.size hB40_42
      have hB38_42 := Below_trans' hb38 hb38.size hB39_42
      have hB37_42 := Below_trans' hb37 hb37.size hB38_42
      have hB36_42 := Below_trans' hb36 hb36.size hB37_42
      have hB35_42 := Below_trans' hb35 hb35.size hB36_42
      have hB34_42 := Below_trans' hb34 hb34.size hB35_42
      have hB33_42 := Below_trans' hb33 hb33.size hB34_42
      have cva_0 := (hva2.below hB33_42 hva2.lt).cell 0
      have cva_1 := (hva2.below hB33_42 hva2.lt).cell 1
      have cva_2 := (hva2.below hB33_42 hva2.lt).cell 2
      have cva_3 := (hva2.below hB33_42 hva2.lt).cell 3
      go_wp2_with fail
      refine (check41_any 3 0 2 none 0 0 [] 2 w42 (RInts.nil_ _)).mono ?_
      rintro e w43 ⟨rfl, hb42⟩
      clear cva_0 cva_1 cva_2 cva_3
      rw [ex41_c1]
      have hB41_43 := Below_trans' hb41 hb41.size hb42
      have hB40_43 := Below_trans' hb40 hb40.size hB41_43
      have hB39_43 := Below_trans' hb39 hb39.size hB40_43
      have hB38_43 := Below_trans' hb38 hb38.size hB39_43
      have hB37_43 := Below_trans' hb37 hb37.size hB38_43
      have hB36_43 := Below_trans' hb36 hb36.size hB37_43
      have hB35_43 := Below_trans' hb35 hb35.size hB36_43
      have hB34_43 := Below_trans' hb34 hb34.size hB35_43
      have hB33_43 := Below_trans' hb33 hb33.size hB34_43
      have cva_0 := (hva2.below hB33_43 hva2.lt).cell 0
      have cva_1 := (hva2.below hB33_43 hva2.lt).cell 1
      have cva_2 := (hva2.below hB33_43 hva2.lt).cell 2
      have cva_3 := (hva2.below hB33_43 hva2.lt).cell 3
      go_wp2_with fail
      refine (check41_any 3 0 2 none 0 0 [] 11 w43 (RInts.nil_ _)).mono ?_
      rintro e w44 ⟨rfl, hb43⟩
      clear cva_0 cva_1 cva_2 cva_3
      rw [ex41_c2]
      have hB42_44 := Below_trans' hb42 hb42.size hb43
      have hB41_44 := Below_trans' hb41 hb41.size hB42_44
      have hB40_44 := Below_trans' hb40 hb40.size hB41_44
      have hB39_44 := Below_trans' hb39 hb39.size hB40_44
      have hB38_44 := Below_trans' hb38 hb38.size hB39_44
      have hB37_44 := Below_trans' hb37 hb37.size hB38_44
      have hB36_44 := Below_trans' hb36 hb36.size hB37_44
      have hB35_44 := Below_trans' hb35 hb35.size hB36_44
      have hB34_44 := Below_trans' hb34 hb34.size hB35_44
      have hB33_44 := Below_trans' hb33 hb33.size hB34_44
      have cvm_0 := (hvm2.below hB33_44 hvm2.lt).cell 0
      have cvm_1 := (hvm2.below hB33_44 hvm2.lt).cell 1
      have cvm_2 := (hvm2.below hB33_44 hvm2.lt).cell 2
      have cvm_3 := (hvm2.below hB33_44 hvm2.lt).cell 3
      go_wp2_with fail
      refine (check41_any 5 1 0 (some ⟨w3.heap.size, 0, none⟩) 2 2 [0, 1] 2 w44 (rml2.below hB33_44)).mono ?_
      rintro e w45 ⟨rfl, hb44⟩
      clear cvm_0 cvm_1 cvm_2 cvm_3
      rw [ex41_c3]
      have hB43_45 := Below_trans' hb43 hb43.size hb44
      have hB42_45 := Below_trans' hb42 hb42.size hB43_45
      have hB41_45 := Below_trans' hb41 hb41.size hB42_45
      have hB40_45 := Below_trans' hb40 hb40.size hB41_45
      have hB39_45 := Below_trans' hb39 hb39.size hB40_45
      have hB38_45 := Below_trans' hb38 hb38.size hB39_45
      have hB37_45 := Below_trans' hb37 hb37.size hB38_45
      have hB36_45 := Below_trans' hb36 hb36.size hB37_45
      have hB35_45 := Below_trans' hb35 hb35.size hB36_45
      have hB34_45 := Below_trans' hb34 hb34.size hB35_45
      have hB33_45 := Below_trans' hb33 hb33.size hB34_45
      have cva_0 := (hva2.below hB33_45 hva2.lt).cell 0
      have cva_1 := (hva2.below hB33_45 hva2.lt).cell 1
      have cva_2 := (hva2.below hB33_45 hva2.lt).cell 2
      have cva_3 := (hva2.below hB33_45 hva2.lt).cell 3
      go_wp2_with fail
      refine (same41_any 3 0 2 none 0 0 [] 3 0 2 none 0 0 [] w45 (RInts.nil_ _) (RInts.nil_ _)).mono ?_
      rintro e w46 ⟨rfl, hb45⟩
      clear cva_0 cva_1 cva_2 cva_3
      rw [ex41_s1]
      have hB44_46 := Below_trans' hb44 hb44.size hb45
      have hB43_46 := Below_trans' hb43 hb43.size hB44_46
      have hB42_46 := Below_trans' hb42 hb42.size hB43_46
      have hB41_46 := Below_trans' hb41 hb41.size hB42_46
      have hB40_46 := Below_trans' hb40 hb40.size hB41_46
      have hB39_46 := Below_trans' hb39 hb39.size hB40_46
      have hB38_46 := Below_trans' hb38 hb38.size hB39_46
      have hB37_46 := Below_trans' hb37 hb37.size hB38_46
      have hB36_46 := Below_trans' hb36 hb36.size hB37_46
      have hB35_46 := Below_trans' hb35 hb35.size hB36_46
      have hB34_46 := Below_trans' hb34 hb34.size hB35_46
      have hB33_46 := Below_trans' hb33 hb33.size hB34_46
      have cva_0 := (hva2.below hB33_46 hva2.lt).cell 0
      have cva_1 := (hva2.below hB33_46 hva2.lt).cell 1
      have cva_2 := (hva2.below hB33_46 hva2.lt).cell 2
      have cva_3 := (hva2.below hB33_46 hva2.lt).cell 3
      have cvb_0 := (hvb2.below hB33_46 hvb2.lt).cell 0
      have cvb_1 := (hvb2.below hB33_46 hvb2.lt).cell 1
      have cvb_2 := (hvb2.below hB33_46 hvb2.lt).cell 2
      have cvb_3 := (hvb2.below hB33_46 hvb2.lt).cell 3
      go_wp2_with fail
      refine (same41_any 3 0 2 none 0 0 [] 4 1 2 (some ⟨w1.heap.size, 0, none⟩) 2 2 [1, 2] w46 (RInts.nil_ _) (rbl2.below hB33_46)).mono ?_
      rintro e w47 ⟨rfl, hb46⟩
      clear cva_0 cva_1 cva_2 cva_3 cvb_0 cvb_1 cvb_2 cvb_3
      rw [ex41_s2]
      go_wp2
      go_ret
      have hB45_47 := Below_trans' hb45 hb45.size hb46
      have hB44_47 := Below_trans' hb44 hb44.size hB45_47
      have hB43_47 := Below_trans' hb43 hb43.size hB44_47
      have hB42_47 := Below_trans' hb42 hb42.size hB43_47
      have hB41_47 := Below_trans' hb41 hb41.size hB42_47
      have hB40_47 := Below_trans' hb40 hb40.size hB41_47
      have hB39_47 := Below_trans' hb39 hb39.size hB40_47
      have hB38_47 := Below_trans' hb38 hb38.size hB39_47
      have hB37_47 := Below_trans' hb37 hb37.size hB38_47
      have hB36_47 := Below_trans' hb36 hb36.size hB37_47
      have hB35_47 := Below_trans' hb35 hb35.size hB36_47
      have hB34_47 := Below_trans' hb34 hb34.size hB35_47
      have hB33_47 := Below_trans' hb33 hb33.size hB34_47
      exact ⟨rfl, Below_trans' hB0 hB0.size hB33_47⟩
end Go.Proofs.YtoeajgjpakilgaaGreat
