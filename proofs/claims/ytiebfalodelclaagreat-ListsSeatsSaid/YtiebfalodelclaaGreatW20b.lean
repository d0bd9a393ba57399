/-
  Seats for lists: the divisor methods.
-/
import Derived.Test.YtiebfalodelclaaGreatW20a
namespace Go.Proofs.YtiebfalodelclaaGreat
open Go.RowKit Go.Proofs Go.Shelf
attribute [local go_sem] cell?_more cell?_alloc_some cell?_setCell_far frozen?_alloc_some frozen?_more
/-- One more. -/
theorem Own.app20 {w : World} {B : Nat} {u : Value} {xs : List Int} (h : Own w B u xs) (x : Int) (hx : I64 x) (hn : xs.length + 1 ≤ 1000000) (hB : B ≤ w.heap.size) (ty : TypeId) :
    ∃ u' w', (Builtin.append_ #[25, 25] ty #[u, .slice (some ⟨w.heap.size, 0, none⟩) 1 1]).run Tryz.prog (w.alloc (.cells #[.int .i64 x] 3)) = .ok u' w' ∧ Own w' B u' (xs ++ [x]) ∧ (u'.ownBlock = u.ownBlock ∨ ∃ b, u'.ownBlock = some b ∧ w.heap.size ≤ b) ∧ Frame' (fun b => u.ownBlock = some b) w w' := by
  have hb : Below w.heap.size w (w.alloc (.cells #[.int .i64 x] 3)) := below_allocN
  have h1 := h.below hb
  have hL : RInts (w.alloc (.cells #[.int .i64 x] 3)) (some ⟨w.heap.size, 0, none⟩) 1 1 [x] := ints_lit [x] (Has.new _ _ _) (by simp) (fun z hz => by rw [List.mem_singleton.1 hz]; exact hx)
  obtain ⟨u', w', k1, k2, k3, k4⟩ := run_appInts _ ty h1 hL (by simpa using hn) (by simp; omega)
  have hf : Frame' (fun b => u.ownBlock = some b) (w.alloc (.cells #[.int .i64 x] 3)) w' := (Frame'.of_grown k3).mono fun b _ e => e.symm
  exact ⟨u', w', k1, k2, k4.imp id fun e => ⟨_, e, by simp⟩, (Frame'.of_below hb).trans hf⟩

set_option maxRecDepth 100000 in
theorem first20_any (g B : Nat) (el rn vt : Value) (Al : Option Addr) (nl cl : Nat) (lot : List Int) (fp : Nat → Prop) (ts : List Row) (A : Option Addr) (n c : Nat) (among : List Int) (w : World) (hg : Has w g 125 #[el, rn, vt, .slice Al nl cl]) (hB : B ≤ w.heap.size) (hO : OAgg ETie 66 2 fp w B vt ts)
    (hgf : ¬ fp g) (hgv : vt.ownBlock ≠ some g) (hL : RInts w Al nl cl lot) (hnl : nl ≤ 1000) (h : RInts w A n c among) (hn : n ≤ 1000) (h0 : 0 < n) (hs : among.Pairwise (· ≤ ·)) (hin : ∀ x ∈ among, x ∈ lot) (hts : ts.length ≤ 1000) :
    Calls Tryz.prog 97 #[.pointer (some ⟨g, 0, none⟩), .slice A n c] w (TellPost w g B el rn vt (.slice Al nl cl) fp ts among (frstS lot among)) := by
  have hbd := hide (fun y (hy : y ∈ among) => h.bd hy)
  have Hs := hide hs
  have Hin := hide hin
  have Hgf := hide hgf
  have Hgv := hide hgv
  clear hs hin hgf hgv
  go_enter Tryz.func97, Tryz.ntmps97
  go_wp2_with fail
  refine (cfirst_any g _ _ _ Al nl cl lot A n c among w hg hL h h0 hnl).mono ?_
  rintro e3 w3 ⟨m, rfl, ⟨hm1, hm2⟩, hb3⟩
  have hfind : frstS lot among = m := by
    unfold frstS
    rw [first_find hm1 (Hin.out m hm1) hm2]; rfl
  have hI : I64 m := hbd.out m hm1
  have ht := tell_any g B el rn vt (.slice Al nl cl) fp ts A n c among m w3 (hg.below hb3 hg.lt) (Nat.le_trans hB hb3.size) (hO.below hb3) Hgf.out Hgv.out (h.below hb3) hn Hs.out hI hts
  have Hf := hide hfind
  clear hm1 hm2 hfind hI
  go_wp2_with fail
  refine ht.mono ?_
  intro e4 w4 hp
  obtain ⟨he, hr⟩ := hp
  subst he
  go_wp2
  go_ret
  rw [Hf.out]
  exact TellPost.start hb3 ⟨rfl, hr⟩

theorem sizeQuo : (Tryz.prog.info? 129).map (·.size) = some 2 := by kernel_rfl
theorem retQuo {fn : Func} {R : Ending → World → Prop} {a : Act} {w : World} {p g : Nat} {C : Array Value} (hr : fn.results = #[.cell p 129]) (hp : a.tmps.getD p undef = .pointer (some ⟨g, 0, none⟩))
    (hg : Has w g 129 C) (hs : C.size = 2) (hd : a.defers = []) (hR : R (.returned (.agg C)) w) : bodyPost Tryz.prog fn R .ret a w :=
  bodyPost_ret (results_cell_row hr _ _ g _ C _ _ hp hg Tryz.underlying129 rfl (sizeQuo.trans (by rw [hs]))) hd hR

/-- The divisor as a function of the program. -/
def DivFn (D : FuncId) (r : Nat) : Prop := (∀ args w, (callFunc D args).run Tryz.prog w = .ok (.enter D args) w) ∧ ∀ (s : Nat) (w : World), s ≤ 1000 → Calls Tryz.prog D #[.int .i64 s] w fun e w' => e = .returned (.int .i64 (dvS r s)) ∧ w = w'
theorem dhondt_div : DivFn 54 0 := by
  refine ⟨enters_of Tryz.func54 (by kernel_rfl) rfl, fun s w hs => ?_⟩
  go_enter Tryz.func54, Tryz.ntmps54
  go_wp2
  go_ret
  exact ⟨rfl, rfl⟩
theorem sainte_div : DivFn 56 1 := by
  refine ⟨enters_of Tryz.func56 (by kernel_rfl) rfl, fun s w hs => ?_⟩
  go_enter Tryz.func56, Tryz.ntmps56
  go_wp2
  go_ret
  exact ⟨rfl, rfl⟩

set_option maxRecDepth 100000 in
set_option maxHeartbeats 1000000 in
theorem keyD_any (D : FuncId) (r : Nat) (hD : DivFn D r) (b1 b2 b3 : Nat) (A : Option Addr) (C c : Nat) (had : List Int) (A' : Option Addr) (c' : Nat) (got : List Int) (x : Int) (s : Nat) (w : World) (h0 : 0 ≤ x ∧ x < C)
    (c1 : w.cell? ⟨b1, 0, none⟩ = some (.slice A C c)) (c2 : w.cell? ⟨b2, 0, none⟩ = some (.func (.func D) #[] #[])) (c3 : w.cell? ⟨b3, 0, none⟩ = some (.slice A' C c')) (hH : RInts w A C c had) (hG : RInts w A' C c' got) (hs : getI got x = s) (hs1 : s ≤ 1000) :
    Calls Tryz.prog 94 #[.int .i64 x, .pointer (some ⟨b1, 0, none⟩), .pointer (some ⟨b2, 0, none⟩), .pointer (some ⟨b3, 0, none⟩)] w fun e w' => e = .returned (.agg #[.int .i64 (getI had x), .int .i64 (dvS r s)]) ∧ Below w.heap.size w w' := by
  obtain ⟨X, rfl⟩ : ∃ X : Nat, x = X := ⟨x.toNat, by omega⟩
  have hX : X < C := by omega
  have hb0 : Below w.heap.size w (w.alloc (.cells #[.int .i64 0, .int .i64 0] 129)) := below_allocN
  have hQ := Has.new w 129 #[.int .i64 0, .int .i64 0]
  go_enter Tryz.func94, Tryz.ntmps94
  go_upto_region 1 with fail
  generalize World.alloc w _ = W1 at hb0 hQ ⊢
  have q1 := keep_cell hb0 c1
  have q2 := keep_cell hb0 c2
  have q3 := keep_cell hb0 c3
  obtain ⟨b, off, y, rfl, hcy, _, hat, _⟩ := (hH.below hb0).step hX
  have hy := hide (getI_of hat.out)
  obtain ⟨b', off', z, rfl, hcz, _, hat', _⟩ := (hG.below hb0).step hX
  obtain rfl : z = s := by have := getI_of hat'.out; omega
  have hcall : ∀ q, Calls Tryz.prog D #[.int .i64 s] (More W1 q) fun e w'' => e = .returned (.int .i64 (dvS r s)) ∧ ∃ q', w'' = More W1 q' := fun q => more_same (hD.2 s (More W1 q) hs1)
  have eD := hD.1
  clear hat hat' hD c1 c2 c3 hs
  refine wp_region_more_tail 11 (by kernel_rfl) (by kernel_rfl) ?_
  simp only [List.take]
  repeat (go_big_quiet_step (with_reducible exact hcall _))
  refine wpQuiet_nil ?_
  rintro w2 ⟨qq, hw2⟩
  have hb2 := below_of_eq hw2
  clear hw2 qq hcall
  have hQ2 := hQ.below hb2 hQ.lt
  have f0 := hQ2.free 0
  have f1 := hQ2.free 1
  have t0 := hQ2.cell 0
  have t1 := hQ2.cell 1
  have hb02 := Below_trans' hb0 hb0.size hb2
  go_wp2
  rw [hy.out]
  refine retQuo rfl rfl ((hQ2.put 0 (.int .i64 y)).put 1 (.int .i64 (dvS r s))) rfl rfl ⟨rfl, (hb02.setCell (p := ⟨w.heap.size, 0, none⟩) (Nat.le_refl _) _).setCell (p := ⟨w.heap.size, 1, none⟩) (Nat.le_refl _) _⟩
theorem cmp_two {le : Int → Int → Bool} {x y L R : Int} (h1 : le x y = decide (L ≤ R)) (h2 : le y x = decide (R ≤ L)) : cmpI L R = cmpR le x y := by
  unfold cmpI cmpR
  rw [h1, h2]
  simp only [decide_eq_true_eq]
  split <;> split <;> (try split) <;> (try split) <;> omega
set_option maxRecDepth 100000 in
theorem cmpQ_any (a b c d : Int) (w : World) (h1 : 0 ≤ a * d ∧ a * d ≤ 1000000000) (h2 : 0 ≤ c * b ∧ c * b ≤ 1000000000) :
    Calls Tryz.prog 95 #[.agg #[.int .i64 a, .int .i64 b], .agg #[.int .i64 c, .int .i64 d]] w fun e w' => e = .returned (.int .i64 (cmpI (a * d) (c * b))) ∧ Below w.heap.size w w' := by
  have hA : Has ((w.alloc (.cells #[.int .i64 a, .int .i64 b] 129)).alloc (.cells #[.int .i64 c, .int .i64 d] 129)) w.heap.size 129 #[.int .i64 a, .int .i64 b] := (Has.new _ _ _).alloc _
  have hB : Has ((w.alloc (.cells #[.int .i64 a, .int .i64 b] 129)).alloc (.cells #[.int .i64 c, .int .i64 d] 129)) (w.heap.size + 1) 129 #[.int .i64 c, .int .i64 d] := Has.new2 _ _ _ _
  have hb0 : Below w.heap.size w ((w.alloc (.cells #[.int .i64 a, .int .i64 b] 129)).alloc (.cells #[.int .i64 c, .int .i64 d] 129)) := ((Below.refl _ _).alloc (Nat.le_refl _) _).alloc (by simp) _
  go_enter Tryz.func95, Tryz.ntmps95
  go_upto_region 1 with fail
  generalize World.alloc (World.alloc w _) _ = W0 at hA hB hb0 ⊢
  have p0 := hA.cell 0
  have p1 := hA.cell 1
  have r0 := hB.cell 0
  have r1 := hB.cell 1
  go_wp2_with fail
  refine (compare_any (a * d) (c * b) W0).mono ?_
  rintro e w' ⟨rfl, rfl⟩
  go_wp2
  go_ret
  exact ⟨rfl, hb0⟩

theorem le_rangeI20 (t : Nat) : (rangeI t).Pairwise (· ≤ ·) := (lt_rangeI t).imp fun h => Int.le_of_lt h
/-- What is written above the first world's size, or in S, counts as S. -/
theorem Frame'.transOn {S S' : Nat → Prop} {a b c : World} (h : Frame' S a b) (k : Frame' S' b c) (hS : ∀ i, i < a.heap.size → S' i → S i) : Frame' S a c :=
  ⟨k.os.trans h.os, k.tape.trans h.tape, k.output.trans h.output, Nat.le_trans h.size k.size, fun i hi hn => (k.block i (Nat.lt_of_lt_of_le hi h.size) (fun hs => hn (hS i hi hs))).trans (h.block i hi hn)⟩
/-- What hands back seats: they, and the count with its ties. -/
def SeatPost (w : World) (g : Nat) (x0 x1 vl : Value) (s : List Int × List Row) (e : Ending) (w' : World) : Prop :=
  ∃ vo vt fp, e = .returned vo ∧ Own w' w.heap.size vo s.1 ∧ Has w' g 125 #[x0, x1, vt, vl] ∧ OAgg ETie 66 2 fp w' w.heap.size vt s.2 ∧ (∀ b, fp b → w.heap.size ≤ b) ∧ Frame' (fun b => b = g) w w'
/-- While seats are given: who has been elected (in vo), the ties, how many each has. -/
def AllIn (w4 : World) (B g gg : Nat) (x0 x1 vl : Value) (C : Nat) (s : List Int × List Row) (vo : Value) (wr : World) : Prop :=
  ∃ vt fp, Own wr w4.heap.size vo s.1 ∧ Has wr g 125 #[x0, x1, vt, vl] ∧ OAgg ETie 66 2 fp wr w4.heap.size vt s.2 ∧ (∀ b, fp b → w4.heap.size ≤ b) ∧ Own wr B (.slice (some ⟨gg, 0, none⟩) C C) (gotV s.1 C) ∧ (∀ b, vo.ownBlock = some b → ¬ fp b ∧ vt.ownBlock ≠ some b) ∧ Frame' (fun b => b = g ∨ b = gg) w4 wr
set_option maxRecDepth 100000 in
set_option maxHeartbeats 2000000 in
theorem allocate_any (D : FuncId) (r : Nat) (hD : DivFn D r) (g : Nat) (x0 x1 : Value) (Al : Option Addr) (nl cl : Nat) (lot : List Int) (A : Option Addr) (C c : Nat) (had : List Int) (n : Nat) (w : World)
    (hg : Has w g 125 #[x0, x1, .slice none 0 0, .slice Al nl cl]) (hL : RInts w Al nl cl lot) (hLg : ∀ b, fpS Al nl b → b ≠ g) (hH : RInts w A C c had) (hHg : ∀ b, fpS A C b → b ≠ g) (hnl : nl ≤ 1000) (hC1 : 1 ≤ C) (hC10 : C ≤ 10) (hn : n ≤ 10) (hla : LotAll lot C)
    (hbd : ∀ x, 0 ≤ getI had x ∧ getI had x ≤ 1000000) :
    Calls Tryz.prog 55 #[.agg #[.func (.func D) #[] #[]], .pointer (some ⟨g, 0, none⟩), .slice A C c, .int .i64 n] w (SeatPost w g x0 x1 (.slice Al nl cl) (divS had r C lot n)) := by
  have hM0 : Has ((w.alloc (.cells #[.func (.func D) #[] #[]] 96)).alloc (.cells #[.slice A C c] 25)) w.heap.size 96 #[.func (.func D) #[] #[]] := (Has.new _ _ _).alloc _
  have hB0 : Has ((w.alloc (.cells #[.func (.func D) #[] #[]] 96)).alloc (.cells #[.slice A C c] 25)) (w.heap.size + 1) 25 #[.slice A C c] := Has.new2 _ _ _ _
  have hb0 : Below w.heap.size w ((w.alloc (.cells #[.func (.func D) #[] #[]] 96)).alloc (.cells #[.slice A C c] 25)) := ((Below.refl _ _).alloc (Nat.le_refl _) _).alloc (by simp) _
  have hmk := run_make_row' (P := Tryz.prog) 25 3 (.int .i64 0) 8 Tryz.underlying25 info3 rfl .i64 .i64 C (by omega) (by omega)
  have HD := hide hD
  have Hla := hide hla
  have Hbd := hide hbd
  have HLg := hide hLg
  have HHg := hide hHg
  clear hD hla hbd hLg hHg
  go_enter Tryz.func55, Tryz.ntmps55
  go_upto_region 1 with fail
  generalize World.alloc (World.alloc w _) _ = W0 at hM0 hB0 hb0 ⊢
  have p0 := hB0.cell 0
  have hG1 := Own.made W0 w.heap.size C hb0.size (by omega)
  have hb1 : Below W0.heap.size W0 (W0.alloc (.cells (madeCells #[.int .i64 0] C) 3)) := below_allocN
  have hz1 : (W0.alloc (.cells (madeCells #[.int .i64 0] C) 3)).heap.size = W0.heap.size + 1 := by simp
  go_upto_region 2 with fail
  have hz0 : w.heap.size + 1 < W0.heap.size := hB0.lt
  generalize hgg : W0.heap.size = gg at hG1 hz1 hz0 ⊢
  generalize World.alloc W0 _ = W1 at hG1 hb1 hz1 ⊢
  have hN1 : Has (W1.alloc (.cells #[.slice (some ⟨gg, 0, none⟩) C C] 25)) (gg + 1) 25 #[.slice (some ⟨gg, 0, none⟩) C C] := by rw [← hz1]; exact Has.new _ _ _
  have hb4 : Below W1.heap.size W1 (W1.alloc (.cells #[.slice (some ⟨gg, 0, none⟩) C C] 25)) := below_allocN
  generalize World.alloc W1 _ = w4 at hN1 hb4 ⊢
  have hb14 := Below_trans' hb1 hb1.size hb4
  have hb04 := Below_trans' hb0 hb0.size hb14
  have hM4 := hM0.below hb14 hM0.lt
  have hB4 := hB0.below hb14 hB0.lt
  have hG4 := hG1.below hb4
  have hg4 := hg.below hb04 hg.lt
  have hgl : g < w.heap.size := hg.lt
  have hS4 : gg + 1 < w4.heap.size := hN1.lt
  have hH4 := hH.below hb04
  have hL4 := hL.below hb04
  have hHl := hide (fun b (hb : fpS A C b) => hH.on.1 b hb)
  have hLl := hide (fun b (hb : fpS Al nl b) => hL.on.1 b hb)
  have hll := hL.len
  have egK : ∀ args w, (callFunc 94 args).run Tryz.prog w = .ok (.enter 94 args) w := enters_of Tryz.func94 (by kernel_rfl) rfl
  have egC : ∀ args w, (callFunc 95 args).run Tryz.prog w = .ok (.enter 95 args) w := enters_of Tryz.func95 (by kernel_rfl) rfl
  clear hM0 hB0 hb0 hb1 hG1 hb4 hb14 p0 hmk hgg hz1
  go_wp2
  go_loopw [8, 16] (fun v i wr => ∃ t : Nat, t ≤ n ∧ i = .int .i64 t ∧ AllIn w4 w.heap.size g gg x0 x1 (.slice Al nl cl) C (divS had r C lot t) v wr) (fun v i _ => n - (intOf i).toNat)
  case atStart => exact ⟨0, Nat.zero_le _, rfl, .slice none 0 0, fun _ => False, Own.nil_ _ _, hg4, OAgg.nil_ _ _ _ _ _, fun _ h => h.elim, by rw [show (divS had r C lot 0).1 = [] from rfl, gotV_nil]; exact hG4, fun b h => (by cases h), Frame'.refl _ _⟩
  case round =>
    obtain ⟨t, ht, rfl, vt, fp, hO, hG, hT, hfp, hW, hap, hF⟩ := hrel
    obtain ⟨wo, rfl⟩ : ∃ wo : World, wo = wr := ⟨_, rfl⟩
    have hsz := hF.size
    have hlen := length_divS had r C lot t
    have htl := ties_le had r C lot t
    have hdr : ∀ x ∈ (divS had r C lot t).1, 0 ≤ x ∧ x < (C : Int) := fun x hx => divS_rng hC1 Hla.out t x hx
    have hnx : divS had r C lot (t + 1) = ((divS had r C lot t).1 ++ [frstS lot (topD had r C (divS had r C lot t).1)], tiedS (divS had r C lot t).2 (topD had r C (divS had r C lot t).1) (frstS lot (topD had r C (divS had r C lot t).1))) := rfl
    have Hdr := hide hdr
    have Hnx := hide hnx
    have Hfp := hide hfp
    have Hap := hide hap
    clear hdr hnx hfp hap
    by_cases hlt : t < n
    · generalize divS had r C lot t = s at *
      obtain ⟨el, ts⟩ := s
      dsimp only at *
      have hBo := hF.has hB4 (by omega)
      have hMo := hF.has hM4 (by omega)
      have hNo := hF.has hN1 (by omega)
      have hHo := hH4.frame hF (fun hn => by
        obtain ⟨b, off, _, e, _⟩ := hH.step hn
        have hf : fpS A C b := ⟨hn, off, e⟩
        have h1 := HHg.out b hf
        have h2 := hHl.out b hf
        exact ⟨b, off, e, by omega⟩)
      have hLo := hL4.frame hF (fun hn => by
        obtain ⟨b, off, _, e, _⟩ := hL.step hn
        have hf : fpS Al nl b := ⟨hn, off, e⟩
        have h1 := HLg.out b hf
        have h2 := hLl.out b hf
        exact ⟨b, off, e, by omega⟩)
      obtain ⟨Av, cv, rfl⟩ := hO.slice
      rw [hlen] at hO Hap ⊢
      have p0 := hBo.cell 0
      go_wp2_with fail
      refine (pall_any C wo (by omega)).mono ?_
      rintro e w1 ⟨va, rfl, hA1, hb1⟩
      obtain ⟨Aa, ca, rfl⟩ := hA1.slice
      rw [length_rangeI] at hA1 ⊢
      have hRa := hA1.ints (fun y hy => by have := mem_rangeI.1 hy; omega)
      have hgo := hW.ints (fun y hy => by
        obtain ⟨i, _, rfl⟩ := List.mem_map.1 hy
        have := List.count_le_length (a := (i : Int)) (l := el)
        omega)
      have hcnt : ∀ x, 0 ≤ x ∧ x < (C : Int) → getI (gotV el C) x = ((el.count x : Nat) : Int) ∧ el.count x ≤ 10 := fun x hx => ⟨getI_gotV hx, by have := List.count_le_length (a := x) (l := el); omega⟩
      have hbt := bestQ_at 94 95 egK egC (fun x => .agg #[.int .i64 (getI had x), .int .i64 (dvS r (el.count x))]) (leD had r el) (pre_leD had r el) #[.pointer (some ⟨w.heap.size + 1, 0, none⟩), .pointer (some ⟨w.heap.size, 0, none⟩), .pointer (some ⟨gg + 1, 0, none⟩)] #[] Aa C ca (rangeI C) w1 hRa (by omega)
        (fun W hbW x hx => by
          have rx := mem_rangeI.1 hx
          have hbo := Below_trans' hb1 hb1.size hbW
          exact keyD_any D r HD.out (w.heap.size + 1) w.heap.size (gg + 1) A C c had (some ⟨gg, 0, none⟩) C (gotV el C) x (el.count x) W rx ((hBo.below hbo hBo.lt).cell 0) ((hMo.below hbo hMo.lt).cell 0) ((hNo.below hbo hNo.lt).cell 0) (hHo.below hbo) (hgo.below hbo) (hcnt x rx).1 (by have := (hcnt x rx).2; omega))
        (fun W hbW x hx y hy => by
          have rx := hcnt x (mem_rangeI.1 hx)
          have ry := hcnt y (mem_rangeI.1 hy)
          have bx := Hbd.out x
          have bY := Hbd.out y
          have dv : ∀ s : Nat, s ≤ 10 → 0 ≤ dvS r s ∧ dvS r s ≤ 100 := fun s hs => by unfold dvS; split <;> omega
          have dx := dv _ rx.2
          have dy := dv _ ry.2
          have m1 : 0 ≤ getI had x * dvS r (el.count y) ∧ getI had x * dvS r (el.count y) ≤ 1000000000 := ⟨Int.mul_nonneg bx.1 dy.1, Int.le_trans (Int.mul_le_mul bx.2 dy.2 dy.1 (by omega)) (by omega)⟩
          have m2 : 0 ≤ getI had y * dvS r (el.count x) ∧ getI had y * dvS r (el.count x) ≤ 1000000000 := ⟨Int.mul_nonneg bY.1 dx.1, Int.le_trans (Int.mul_le_mul bY.2 dx.2 dx.1 (by omega)) (by omega)⟩
          have hc := cmpQ_any (getI had x) (dvS r (el.count x)) (getI had y) (dvS r (el.count y)) W m1 m2
          rw [cmp_two (le := leD had r el) (x := x) (y := y) rfl rfl] at hc
          exact hc)
      go_wp2_with fail
      refine hbt.mono ?_
      rintro e w2 ⟨vb, rfl, hT2, hb2⟩
      clear hbt p0
      obtain ⟨Ab, cb, rfl⟩ := hT2.slice
      have hb12 := Below_trans' hb1 hb1.size hb2
      have hsub : (topD had r C el).Sublist (rangeI C) := bestR_sub _ _
      have hRb := hT2.ints (fun y hy => by have := mem_rangeI.1 (hsub.subset hy); omega)
      have hBl : (bestR (leD had r el) (rangeI C)).length = (topD had r C el).length := rfl
      rw [hBl] at hRb ⊢
      have htopl : (topD had r C el).length ≤ C := by have := hsub.length_le; rwa [length_rangeI] at this
      have htop0 := List.length_pos_iff.2 (topD_ne had r hC1 el)
      have hxr := topD_rng (frst_topD (had := had) (r := r) (el := el) hC1 Hla.out)
      have hz12 := hb12.size
      have hvtlt : ∀ b, vt.ownBlock = some b → w4.heap.size ≤ b ∧ b < wo.heap.size := fun b hb => hT.lt hb
      have hfi := first20_any g w4.heap.size x0 x1 vt Al nl cl lot fp ts Ab _ cb (topD had r C el) w2 (hG.below hb12 hG.lt) (by omega) (hT.below hb12) (fun h => by have := Hfp.out g h; omega) (fun h => by have := (hvtlt g h).1; omega) (hLo.below hb12) hnl hRb (by omega) htop0 ((le_rangeI20 C).sublist hsub) (fun x hx => Hla.out x (topD_rng hx).1 (topD_rng hx).2) (by omega)
      go_wp2_with fail
      refine hfi.mono ?_
      rintro e w3 ⟨rfl, vt', fp', hG3, hT3, hfp3, hvt3, hF3⟩
      clear hfi
      obtain ⟨X, hX⟩ : ∃ X : Nat, frstS lot (topD had r C el) = X := ⟨(frstS lot (topD had r C el)).toNat, by omega⟩
      have Hnx2 := hide Hnx.out
      rw [hX] at hxr Hnx2 hT3 ⊢
      have hXC : X < C := by omega
      have hO3 := (hO.below hb12).frame hF3 (fun b hb h => by
        have h1 := (hO.own_lt hb).1
        rcases h with h | h
        · omega
        · exact (Hap.out b hb).2 h)
      have hW3 := (hW.below hb12).frame hF3 (fun b hb h => by
        obtain rfl : gg = b := Option.some.inj hb
        rcases h with h | h
        · omega
        · have := (hvtlt _ h).1; omega)
      have hne3 : ∀ k, k < w4.heap.size → k ≠ g → ¬ (k = g ∨ vt.ownBlock = some k) := fun k hk hkg h => by
        rcases h with h | h
        · exact hkg h
        · have := (hvtlt _ h).1; omega
      have hN3 := hF3.has (hNo.below hb12 hNo.lt) (hne3 _ (by omega) (by omega))
      have hap3 : ∀ b, (Value.slice Av t cv).ownBlock = some b → ¬ fp' b ∧ vt'.ownBlock ≠ some b := fun b hb => by
        have h1 := (hO.own_lt hb).2
        refine ⟨fun h => ?_, fun h => ?_⟩
        · rcases hfp3 b h with h | h
          · exact (Hap.out b hb).1 h
          · omega
        · rcases hvt3 with e | ⟨b', e, hb'⟩
          · rw [e] at h; exact (Hap.out b hb).2 h
          · rw [e] at h; have := Option.some.inj h; omega
      have hfp3' : ∀ b, fp' b → w4.heap.size ≤ b := fun b hb => (hfp3 b hb).elim (Hfp.out b) fun h => by omega
      have hF03 : Frame' (fun b => b = g ∨ b = gg) w4 w3 := (hF.trans (Frame'.of_below hb12)).transOn hF3 (fun b hb h => by
        rcases h with h | h
        · exact .inl h
        · have := (hvtlt b h).1; omega)
      have q0 := hN3.cell 0
      obtain ⟨u, hu, hcu, hfu⟩ := hW3.at (length_gotV _ _) hXC
      obtain rfl : ((el.count (X : Int) : Nat) : Int) = u := by have := hu.out; rw [get_gotV el hXC] at this; exact Option.some.inj this
      have hcX := (hcnt (X : Int) hxr).2
      clear hu
      have hW4 := hW3.set (length_gotV _ _) X (((el.count (X : Int) : Nat) : Int) + 1)
      rw [← gotV_snoc] at hW4
      have hFs : Frame' (fun b => b = gg) w3 (w3.setCell ⟨gg, X, none⟩ (.int .i64 (((el.count (X : Int) : Nat) : Int) + 1))) := (Frame'.refl (fun b => b = gg) w3).setCell (p := ⟨gg, X, none⟩) (.inl rfl) _
      go_upto_region 7 with fail
      generalize World.setCell w3 _ _ = w5 at hW4 hFs ⊢
      have hO5 := hO3.frame hFs (fun b hb h => by have := (hO.own_lt hb).1; omega)
      have hG5 := hFs.has hG3 (by omega)
      have hT5 := hT3.frame hFs (fun b hb h => by have := hfp3' b hb; omega) (fun b hb h => by have := (hT3.lt hb).1; omega)
      have hF5 : Frame' (fun b => b = g ∨ b = gg) w4 w5 := hF03.transOn hFs (fun b _ h => .inr h)
      obtain ⟨u', w6, k1, k2, k3, k4⟩ := hO5.app20 (X : Int) (by unfold I64; omega) (by omega) hF5.size 25
      have hW6 := hW4.frame k4 (fun b hb h => by
        obtain rfl : gg = b := Option.some.inj hb
        have := (hO.own_lt h).1; omega)
      have hG6 := k4.has hG5 (fun h => by have := (hO.own_lt h).1; omega)
      have hT6 := hT5.frame k4 (fun b hb h => (hap3 b h).1 hb) (fun b hb h => (hap3 b h).2 hb)
      have hF6 : Frame' (fun b => b = g ∨ b = gg) w4 w6 := hF5.transOn k4 (fun b hb h => by have := (hO.own_lt h).1; omega)
      have hap6 : ∀ b, u'.ownBlock = some b → ¬ fp' b ∧ vt'.ownBlock ≠ some b := fun b hb => by
        rcases k3 with e | ⟨b', e, hb'⟩
        · rw [e] at hb; exact hap3 b hb
        · rw [e] at hb
          obtain rfl : b' = b := Option.some.inj hb
          exact ⟨fun h => by have := hT5.fp_lt h; omega, fun h => by have := (hT5.lt h).2; omega⟩
      clear q0 hcu hfu
      go_wp2_with (at_builtin; refine list_app rfl rfl rfl rfl k1 ?_)
      clear k1
      go_wp2
      go_roundw
      case rel => exact ⟨t + 1, by omega, by go_num, vt', fp', by rw [Hnx2.out]; exact k2, hG6, by rw [Hnx2.out]; exact hT6, hfp3', by rw [Hnx2.out]; exact hW6, hap6, hF6⟩
      case measure => simp [intOf] <;> omega
    · obtain rfl : t = n := by omega
      obtain ⟨Av, cv, rfl⟩ := hO.slice
      go_wp2
      go_ret
      refine ⟨_, vt, fp, rfl, hO.mono (by omega), hG, hT.mono (by omega), fun b hb => by have := Hfp.out b hb; omega, ?_⟩
      exact (Frame'.of_below hb04).transOn hF (fun b hb h => by rcases h with h | h; exact h; omega)
end Go.Proofs.YtiebfalodelclaaGreat
