/-
  The laws of chapter 20: seats, whether a count may be, a method by its number, the examples.
-/
import Derived.Test.YtiebfalodelclaaGreatW20d
namespace Go.Proofs.YtiebfalodelclaaGreat
open Go.RowKit Go.Proofs Go.Shelf
attribute [local go_sem] cell?_more cell?_alloc_some cell?_setCell_far frozen?_alloc_some frozen?_more
theorem valid20_any (c k : Int) (A : Option Addr) (n cp : Nat) (l : List Row) (seats : Int) (At : Option Addr) (nt ct : Nat) (lot : List Int) (w : World) (h : RRows w A n cp l) (h' : RInts w At nt ct lot) :
    Calls Tryz.prog 14 #[.agg #[.int .i64 c, .int .u8 k, .slice A n cp], .int .i64 seats, .slice At nt ct] w fun e w' => e = .returned (.bool (mayS c k l 2 seats 10 lot == 0)) ∧ Below w.heap.size w w' := by
  have hb0 : Below w.heap.size w (w.alloc (.cells #[.int .i64 c, .int .u8 k, .slice A n cp] 24)) := below_allocN
  have hP0 := Has.new w 24 #[.int .i64 c, .int .u8 k, .slice A n cp]
  generalize hW : World.alloc w _ = W0 at hb0 hP0
  have p0 := hP0.cell 0
  have p1 := hP0.cell 1
  have p2 := hP0.cell 2
  go_enter Tryz.func14, Tryz.ntmps14
  go_wp2_with fail
  try simp only [hW]
  clear hW
  refine (may_any c k A n cp l 2 seats 10 At nt ct lot W0 (h.below hb0) (h'.below hb0)).mono ?_
  rintro e w1 ⟨rfl, hb1⟩
  go_wp2
  go_ret
  exact ⟨rfl, Below_trans' hb0 hb0.size hb1⟩

theorem gotV_take {el : List Int} {C t : Nat} {X : Nat} (hat : el[t]? = some (X : Int)) : gotV (el.take (t + 1)) C = (gotV (el.take t) C).set X ((((el.take t).count (X : Int) : Nat) : Int) + 1) := by
  rw [List.take_add_one, hat]
  exact gotV_snoc _
set_option maxRecDepth 100000 in
theorem seats20_any (Ae : Option Addr) (ne ce : Nat) (Ar : Option Addr) (nr cr : Nat) (Av : Option Addr) (nv cv : Nat) (el : List Int) (C : Nat) (w : World) (h : RInts w Ae ne ce el) (hr : InR C el) (hC : C ≤ 1000) (hne : ne ≤ 1000) :
    Calls Tryz.prog 20 #[.agg #[.slice Ae ne ce, .slice Ar nr cr, .slice Av nv cv], .int .i64 C] w (IPost w (gotV el C)) := by
  have hb0 : Below w.heap.size w (w.alloc (.cells #[.slice Ae ne ce, .slice Ar nr cr, .slice Av nv cv] 32)) := below_allocN
  have hP0 := Has.new w 32 #[.slice Ae ne ce, .slice Ar nr cr, .slice Av nv cv]
  have hmk := run_make_row' (P := Tryz.prog) 25 3 (.int .i64 0) 8 Tryz.underlying25 info3 rfl .i64 .i64 C (by omega) (by omega)
  have Hr := hide hr
  have hl := hide h.len
  clear hr
  go_enter Tryz.func20, Tryz.ntmps20
  go_upto_region 1 with fail
  generalize World.alloc w _ = W0 at hb0 hP0 ⊢
  have hM := Own.made W0 w.heap.size C hb0.size (by omega)
  have hbM : Below W0.heap.size W0 (W0.alloc (.cells (madeCells #[.int .i64 0] C) 3)) := below_allocN
  have hg1 : w.heap.size < W0.heap.size := hP0.lt
  go_upto_region 2 with fail
  generalize World.alloc W0 _ = W1 at hM hbM ⊢
  have hP1 := hP0.below hbM hP0.lt
  have hb1 := Below_trans' hb0 hb0.size hbM
  generalize W0.heap.size = g at hM hg1 ⊢
  clear hbM hP0 hb0 hmk
  go_wp2
  go_loopw [6] (fun i wr => ∃ t : Nat, t ≤ ne ∧ i = .int .i64 t ∧ Own wr w.heap.size (.slice (some ⟨g, 0, none⟩) C C) (gotV (el.take t) C) ∧ Has wr w.heap.size 32 #[.slice Ae ne ce, .slice Ar nr cr, .slice Av nv cv] ∧ Below w.heap.size w wr) (fun i _ => ne - (intOf i).toNat)
  case atStart => exact ⟨0, Nat.zero_le _, rfl, by rw [List.take_zero, gotV_nil]; exact hM, hP1, hb1⟩
  case round =>
    obtain ⟨t, ht, rfl, hO, hP, hb⟩ := hrel
    have p0 := hP.cell 0
    by_cases hlt : t < ne
    · obtain ⟨b, off, v, rfl, hc, _, hat, _⟩ := (h.below hb).step hlt
      have hv := Hr.out v (List.mem_of_getElem? hat.out)
      obtain ⟨X, rfl⟩ : ∃ X : Nat, v = (X : Int) := ⟨v.toNat, by omega⟩
      have hXC : X < C := by omega
      obtain ⟨u, hu, hcu, hfu⟩ := hO.at (length_gotV _ _) hXC
      obtain rfl : (((el.take t).count (X : Int) : Nat) : Int) = u := by have := hu.out; rw [get_gotV _ hXC] at this; exact Option.some.inj this
      have hcl := List.count_le_length (a := (X : Int)) (l := el.take t)
      have htl : (el.take t).length ≤ t := by rw [List.length_take]; omega
      have hs := hide (gotV_take (C := C) hat.out)
      have hO2 := hO.set (length_gotV _ _) X ((((el.take t).count (X : Int) : Nat) : Int) + 1)
      have hP2 := hP.far (p := ⟨g, X, none⟩) (by show w.heap.size ≠ g; omega) (.int .i64 ((((el.take t).count (X : Int) : Nat) : Int) + 1))
      have hb2 := hb.setCell (p := ⟨g, X, none⟩) (Nat.le_of_lt hg1) (.int .i64 ((((el.take t).count (X : Int) : Nat) : Int) + 1))
      clear hu hat
      generalize (el.take t).count (X : Int) = m at *
      have b0 : (0 : Int) ≤ (X : Int) := by omega
      have b1 : (X : Int) < (C : Int) := by omega
      go_wp2
      go_roundw
      case rel => exact ⟨t + 1, by omega, by go_num, by rw [hs.out]; exact hO2, hP2, hb2⟩
      case measure => simp [intOf] <;> omega
    · have e : Hid (el.take t = el) := List.take_of_length_le (by rw [hl.out]; omega)
      rw [e.out] at hO
      go_wp2
      go_ret
      exact ⟨_, rfl, hO, hb⟩

set_option maxRecDepth 100000 in
theorem count20_any (rule c k : Int) (A : Option Addr) (n cp : Nat) (l : List Row) (seats : Int) (At : Option Addr) (nt ct : Nat) (lot : List Int) (w : World) (h : RRows w A n cp l) (h' : RInts w At nt ct lot) (hn : nt ≤ 1000) :
    Calls Tryz.prog 9 #[.int .i64 rule, .agg #[.int .i64 c, .int .u8 k, .slice A n cp], .int .i64 seats, .slice At nt ct] w (OutPost w (listR rule c k l seats lot) (mayS c k l 2 seats 10 lot)) := by
  have hP0 : Has ((w.alloc (.cells #[.int .i64 c, .int .u8 k, .slice A n cp] 24)).alloc (.cells #[.slice none 0 0, .slice none 0 0, .slice none 0 0] 32)) w.heap.size 24 #[.int .i64 c, .int .u8 k, .slice A n cp] := (Has.new _ _ _).alloc _
  have hR0 : Has ((w.alloc (.cells #[.int .i64 c, .int .u8 k, .slice A n cp] 24)).alloc (.cells #[.slice none 0 0, .slice none 0 0, .slice none 0 0] 32)) (w.heap.size + 1) 32 #[.slice none 0 0, .slice none 0 0, .slice none 0 0] := Has.new2 _ _ _ _
  have hb0 : Below w.heap.size w ((w.alloc (.cells #[.int .i64 c, .int .u8 k, .slice A n cp] 24)).alloc (.cells #[.slice none 0 0, .slice none 0 0, .slice none 0 0] 32)) := ((Below.refl _ _).alloc (Nat.le_refl _) _).alloc (by simp) _
  by_cases h0 : rule = 0
  · subst h0
    go_enter Tryz.func9, Tryz.ntmps9
    go_upto_region 1 with fail
    generalize World.alloc (World.alloc w _) _ = W0 at hP0 hR0 hb0 ⊢
    have p0 := hP0.cell 0
    have p1 := hP0.cell 1
    have p2 := hP0.cell 2
    have hcall := dhondt_any c k A n cp l seats At nt ct lot W0 (h.below hb0) (h'.below hb0) hn
    go_wp2_with fail
    refine hcall.mono ?_
    rintro e w1 ⟨Ae, ne, ce, Ar, nr, cr, Av, nv, cv, rfl, hO, hb1⟩
    have hb01 := Below_trans' hb0 hb0.size hb1
    have hR1 := hR0.below hb1 hR0.lt
    have r0 := hR1.cell 0
    have r1 := hR1.cell 1
    have r2 := hR1.cell 2
    have f0 := hR1.free 0
    have f1 := hR1.free 1
    have f2 := hR1.free 2
    clear hcall p0 p1 p2
    go_wp2
    exact retOut2 rfl rfl rfl (put3 hR1) rfl rfl ⟨Ae, ne, ce, Ar, nr, cr, Av, nv, cv, rfl, hO.far hR1 (fun b hb hne => (frame3 w1 (w.heap.size + 1) (.slice Ae ne ce) (.slice Ar nr cr) (.slice Av nv cv)).block b hb hne), below3 hb01 (by omega) _ _ _⟩
  · by_cases h1 : rule = 1
    · subst h1
      go_enter Tryz.func9, Tryz.ntmps9
      go_upto_region 1 with fail
      generalize World.alloc (World.alloc w _) _ = W0 at hP0 hR0 hb0 ⊢
      have p0 := hP0.cell 0
      have p1 := hP0.cell 1
      have p2 := hP0.cell 2
      have hcall := sainte_any c k A n cp l seats At nt ct lot W0 (h.below hb0) (h'.below hb0) hn
      go_wp2_with fail
      refine hcall.mono ?_
      rintro e w1 ⟨Ae, ne, ce, Ar, nr, cr, Av, nv, cv, rfl, hO, hb1⟩
      have hb01 := Below_trans' hb0 hb0.size hb1
      have hR1 := hR0.below hb1 hR0.lt
      have r0 := hR1.cell 0
      have r1 := hR1.cell 1
      have r2 := hR1.cell 2
      have f0 := hR1.free 0
      have f1 := hR1.free 1
      have f2 := hR1.free 2
      clear hcall p0 p1 p2
      go_wp2
      exact retOut2 rfl rfl rfl (put3 hR1) rfl rfl ⟨Ae, ne, ce, Ar, nr, cr, Av, nv, cv, rfl, hO.far hR1 (fun b hb hne => (frame3 w1 (w.heap.size + 1) (.slice Ae ne ce) (.slice Ar nr cr) (.slice Av nv cv)).block b hb hne), below3 hb01 (by omega) _ _ _⟩
    · have e0 : (rule == 0) = false := by rw [beq_eq_false_iff_ne]; exact h0
      have e1 : (rule == 1) = false := by rw [beq_eq_false_iff_ne]; exact h1
      have H0 := hide h0
      have H1 := hide h1
      clear h0 h1
      go_enter Tryz.func9, Tryz.ntmps9
      go_upto_region 1 with fail
      generalize World.alloc (World.alloc w _) _ = W0 at hP0 hR0 hb0 ⊢
      have p0 := hP0.cell 0
      have p1 := hP0.cell 1
      have p2 := hP0.cell 2
      have hcall := hare_any rule H0.out H1.out c k A n cp l seats At nt ct lot W0 (h.below hb0) (h'.below hb0) hn
      go_wp2_with fail
      refine hcall.mono ?_
      rintro e w1 ⟨Ae, ne, ce, Ar, nr, cr, Av, nv, cv, rfl, hO, hb1⟩
      have hb01 := Below_trans' hb0 hb0.size hb1
      have hR1 := hR0.below hb1 hR0.lt
      have r0 := hR1.cell 0
      have r1 := hR1.cell 1
      have r2 := hR1.cell 2
      have f0 := hR1.free 0
      have f1 := hR1.free 1
      have f2 := hR1.free 2
      clear hcall p0 p1 p2
      go_wp2
      exact retOut2 rfl rfl rfl (put3 hR1) rfl rfl ⟨Ae, ne, ce, Ar, nr, cr, Av, nv, cv, rfl, hO.far hR1 (fun b hb hne => (frame3 w1 (w.heap.size + 1) (.slice Ae ne ce) (.slice Ar nr cr) (.slice Av nv cv)).block b hb hne), below3 hb01 (by omega) _ _ _⟩

def ex20p : List Row := [([0], 53), ([1], 24), ([2], 23)]
theorem ex20_m1 : mayS 3 2 ex20p 2 7 10 [0, 1, 2] = 0 := by kernel_rfl
theorem ex20_m2 : mayS 3 2 ex20p 2 11 10 [0, 1, 2] = 2 := by kernel_rfl
theorem ex20_m3 : mayS 3 2 ex20p 2 7 10 [0, 1, 1] = 2 := by kernel_rfl
theorem ex20_m4 : mayS 0 0 [] 2 1 10 [] = 8 := by kernel_rfl
theorem ex20_m5 : mayS 2 2 [] 2 3 10 [1, 0] = 0 := by kernel_rfl
theorem ex20_r (rule : Int) : listR rule 3 2 ex20p 7 [0, 1, 2] = listO rule ex20p 3 [0, 1, 2] 7 := listR_ok ex20_m1
theorem ex20_r5 : listR 2 2 2 [] 3 [1, 0] = listO 2 [] 2 [1, 0] 3 := listR_ok ex20_m5
theorem ex20_g0 : gotV (listO 0 ex20p 3 [0, 1, 2] 7).1 3 = [4, 2, 1] := by kernel_rfl
theorem ex20_g1 : gotV (listO 1 ex20p 3 [0, 1, 2] 7).1 3 = [3, 2, 2] := by kernel_rfl
theorem ex20_g2 : gotV (listO 2 ex20p 3 [0, 1, 2] 7).1 3 = [4, 2, 1] := by kernel_rfl
theorem ex20_ok : MarkOK ex20p 3 := markOK_of (c := 3) (l := ex20p) (by kernel_rfl)
theorem ex20_lot : LotAll [0, 1, 2] 3 := LotAll.of (by kernel_rfl)
theorem ex20_in (rule : Int) : InR 3 (listO rule ex20p 3 [0, 1, 2] 7).1 := seatS_rng (by decide) ex20_lot rule 7
theorem ex20_len (rule : Int) : (listO rule ex20p 3 [0, 1, 2] 7).1.length = 7 := seatS_len (by decide) ex20_lot (hadOK_vot 3 ex20_ok.pos) rule 7
theorem ex20_n : (listO 2 [] 2 [1, 0] 3).1 = [1, 0, 1] := by kernel_rfl
theorem ex20_t : (listO 2 [] 2 [1, 0] 3).2.2 = [([0, 1], 1), ([0, 1], 1)] := by kernel_rfl

/-- The example of the chapter. -/
def ExPost (w : World) (e : Ending) (w' : World) : Prop := ∃ g, e = .returned (.agg #[.int .i64 3, .int .u8 2, .slice (some ⟨g, 0, none⟩) 3 3]) ∧ RRows w' (some ⟨g, 0, none⟩) 3 3 ex20p ∧ Below w.heap.size w w'
set_option maxRecDepth 100000 in
theorem ex20_any (w0 : World) : Calls Tryz.prog 27 #[] w0 (ExPost w0) := by
  have i64 : ∀ x : Int, 0 ≤ x → x ≤ 100 → I64 x := fun x h1 h2 => ⟨by omega, by omega⟩
  have I64s := hide i64
  clear i64
  have hb0 : Below w0.heap.size w0 (w0.alloc (.cells #[.int .i64 0, .int .u8 0, .slice none 0 0] 24)) := below_allocN
  have hR := Has.new w0 24 #[.int .i64 0, .int .u8 0, .slice none 0 0]
  generalize hW0 : World.alloc w0 _ = w1 at hb0 hR
  have gR : w0.heap.size < w1.heap.size := hR.lt
  have hb1 : Below w1.heap.size w1 (w1.alloc (.cells #[.int .i64 0] 3)) := below_allocN
  have ha1 := Has.new w1 3 #[.int .i64 0]
  generalize hW1 : World.alloc w1 _ = w2 at hb1 ha1
  have ga1 : w1.heap.size < w2.heap.size := ha1.lt
  have ra1 := lit_ints ha1 (I64s.out _ (by decide) (by decide))
  have hb2 : Below w2.heap.size w2 (w2.alloc (.cells #[.int .i64 1] 3)) := below_allocN
  have ha2 := Has.new w2 3 #[.int .i64 1]
  generalize hW2 : World.alloc w2 _ = w3 at hb2 ha2
  have ga2 : w2.heap.size < w3.heap.size := ha2.lt
  have ra2 := lit_ints ha2 (I64s.out _ (by decide) (by decide))
  have hb3 : Below w3.heap.size w3 (w3.alloc (.cells #[.int .i64 2] 3)) := below_allocN
  have ha3 := Has.new w3 3 #[.int .i64 2]
  generalize hW3 : World.alloc w3 _ = w4 at hb3 ha3
  have ga3 : w3.heap.size < w4.heap.size := ha3.lt
  have ra3 := lit_ints ha3 (I64s.out _ (by decide) (by decide))
  have hb4 : Below w4.heap.size w4 (w4.alloc (.cells #[.slice (some ⟨w1.heap.size, 0, none⟩) 1 1, .int .i64 53, .slice (some ⟨w2.heap.size, 0, none⟩) 1 1, .int .i64 24, .slice (some ⟨w3.heap.size, 0, none⟩) 1 1, .int .i64 23] 68)) := below_allocN
  have hrw := Has.new w4 68 #[.slice (some ⟨w1.heap.size, 0, none⟩) 1 1, .int .i64 53, .slice (some ⟨w2.heap.size, 0, none⟩) 1 1, .int .i64 24, .slice (some ⟨w3.heap.size, 0, none⟩) 1 1, .int .i64 23]
  generalize hW4 : World.alloc w4 _ = w5 at hb4 hrw
  have grw : w4.heap.size < w5.heap.size := hrw.lt
  have hB3_5 := Below_trans' hb3 hb3.size hb4
  have hB2_5 := Below_trans' hb2 hb2.size hB3_5
  have rP := rows3 (ra1.below hB2_5) (ra2.below hB3_5) (ra3.below hb4) (I64s.out _ (by decide) (by decide)) (I64s.out _ (by decide) (by decide)) (I64s.out _ (by decide) (by decide)) hrw
  have hB1_5 := Below_trans' hb1 hb1.size hB2_5
  have hRn := (hR.below hB1_5 hR.lt)
  have f0 := hRn.free 0
  have f1 := hRn.free 1
  have f2 := hRn.free 2
  have r0 := hRn.cell 0
  have r1 := hRn.cell 1
  have r2 := hRn.cell 2
  go_enter Tryz.func27, Tryz.ntmps27
  go_wp2_with fail
  try simp only [hW0, hW1, hW2, hW3, hW4]
  clear hW0 hW1 hW2 hW3 hW4
  have hB0_5 := Below_trans' hb0 hb0.size hB1_5
  have hB := hB0_5
  refine retProf rfl rfl (put3 hRn) rfl rfl ⟨_, rfl, ?_, below3 hB (Nat.le_refl _) _ _ _⟩
  have F := frame3 w5 w0.heap.size (.int .i64 3) (.int .u8 2) (.slice (some ⟨w4.heap.size, 0, none⟩) 3 3)
  exact rows3 ((ra1.below hB2_5).frame F (fun _ => ⟨w1.heap.size, 0, rfl, by omega⟩)) ((ra2.below hB3_5).frame F (fun _ => ⟨w2.heap.size, 0, rfl, by omega⟩)) ((ra3.below hb4).frame F (fun _ => ⟨w3.heap.size, 0, rfl, by omega⟩)) (I64s.out _ (by decide) (by decide)) (I64s.out _ (by decide) (by decide)) (I64s.out _ (by decide) (by decide)) (F.has hrw (by omega))
set_option maxRecDepth 100000 in
set_option maxHeartbeats 8000000 in
theorem wakes20_any (w0 : World) : Calls Tryz.prog 7 #[] w0 fun e w' => e = .returned (.bool true) ∧ Below w0.heap.size w0 w' := by
  have i64 : ∀ x : Int, 0 ≤ x → x ≤ 100 → I64 x := fun x h1 h2 => ⟨by omega, by omega⟩
  have I64s := hide i64
  clear i64
  go_enter Tryz.func7, Tryz.ntmps7
  go_wp2_with fail
  refine (ex20_any w0).mono ?_
  rintro e w1 ⟨ge, rfl, rP, hb0⟩
  have hb1 : Below w1.heap.size w1 (w1.alloc (.cells #[.int .i64 0, .int .i64 1, .int .i64 2] 3)) := below_allocN
  have hlt := Has.new w1 3 #[.int .i64 0, .int .i64 1, .int .i64 2]
  generalize hW1 : World.alloc w1 _ = w2 at hb1 hlt
  have glt : w1.heap.size < w2.heap.size := hlt.lt
  have rlt := lit3 hlt (I64s.out _ (by decide) (by decide)) (I64s.out _ (by decide) (by decide)) (I64s.out _ (by decide) (by decide))
  go_upto_region 2 with fail
  try simp only [hW1]
  clear hW1
  have hb2 : Below w2.heap.size w2 (w2.alloc (.cells #[.int .i64 3, .int .u8 2, .slice (some ⟨ge, 0, none⟩) 3 3] 24)) := below_allocN
  have hp := Has.new w2 24 #[.int .i64 3, .int .u8 2, .slice (some ⟨ge, 0, none⟩) 3 3]
  generalize World.alloc w2 _ = w3 at hb2 hp ⊢
  have gp : w2.heap.size < w3.heap.size := hp.lt
  have cp_0 := hp.cell 0
  have cp_1 := hp.cell 1
  have cp_2 := hp.cell 2
  go_wp2_with fail
  have hB1_3 := Below_trans' hb1 hb1.size hb2
  refine (dhondt_any 3 2 (some ⟨ge, 0, none⟩) 3 3 ex20p 7 (some ⟨w1.heap.size, 0, none⟩) 3 3 [0, 1, 2] w3 (rP.below hB1_3) (rlt.below hb2) (by decide)).mono ?_
  rintro e w4 ⟨E1, ne1, ce1, R1, nr1, cr1, V1, nv1, cv1, rfl, hO1, hb3⟩
  clear cp_0 cp_1 cp_2
  rw [ex20_r] at hO1
  rw [ex20_m1]
  have hb4 : Below w4.heap.size w4 (w4.alloc (.cells #[.slice E1 ne1 ce1, .slice R1 nr1 cr1, .slice V1 nv1 cv1] 32)) := below_allocN
  have ho1 := Has.new w4 32 #[.slice E1 ne1 ce1, .slice R1 nr1 cr1, .slice V1 nv1 cv1]
  generalize hW4 : World.alloc w4 _ = w5 at hb4 ho1
  have go1 : w4.heap.size < w5.heap.size := ho1.lt
  go_upto_region 3 with fail
  try simp only [hW4]
  clear hW4
  have hB3_5 := Below_trans' hb3 hb3.size hb4
  have cp_0 := (hp.below hB3_5 hp.lt).cell 0
  have cp_1 := (hp.below hB3_5 hp.lt).cell 1
  have cp_2 := (hp.below hB3_5 hp.lt).cell 2
  go_wp2_with fail
  have hB2_5 := Below_trans' hb2 hb2.size hB3_5
  have hB1_5 := Below_trans' hb1 hb1.size hB2_5
  refine (sainte_any 3 2 (some ⟨ge, 0, none⟩) 3 3 ex20p 7 (some ⟨w1.heap.size, 0, none⟩) 3 3 [0, 1, 2] w5 (rP.below hB1_5) (rlt.below hB2_5) (by decide)).mono ?_
  rintro e w6 ⟨E2, ne2, ce2, R2, nr2, cr2, V2, nv2, cv2, rfl, hO2, hb5⟩
  clear cp_0 cp_1 cp_2
  rw [ex20_r] at hO2
  rw [ex20_m1]
  have hb6 : Below w6.heap.size w6 (w6.alloc (.cells #[.slice E2 ne2 ce2, .slice R2 nr2 cr2, .slice V2 nv2 cv2] 32)) := below_allocN
  have ho2 := Has.new w6 32 #[.slice E2 ne2 ce2, .slice R2 nr2 cr2, .slice V2 nv2 cv2]
  generalize hW6 : World.alloc w6 _ = w7 at hb6 ho2
  have go2 : w6.heap.size < w7.heap.size := ho2.lt
  go_upto_region 4 with fail
  try simp only [hW6]
  clear hW6
  have hB5_7 := Below_trans' hb5 hb5.size hb6
  have hB4_7 := Below_trans' hb4 hb4.size hB5_7
  have hB3_7 := Below_trans' hb3 hb3.size hB4_7
  have cp_0 := (hp.below hB3_7 hp.lt).cell 0
  have cp_1 := (hp.below hB3_7 hp.lt).cell 1
  have cp_2 := (hp.below hB3_7 hp.lt).cell 2
  go_wp2_with fail
  have hB2_7 := Below_trans' hb2 hb2.size hB3_7
  have hB1_7 := Below_trans' hb1 hb1.size hB2_7
  refine (hare_any 2 (by decide) (by decide) 3 2 (some ⟨ge, 0, none⟩) 3 3 ex20p 7 (some ⟨w1.heap.size, 0, none⟩) 3 3 [0, 1, 2] w7 (rP.below hB1_7) (rlt.below hB2_7) (by decide)).mono ?_
  rintro e w8 ⟨E3, ne3, ce3, R3, nr3, cr3, V3, nv3, cv3, rfl, hO3, hb7⟩
  clear cp_0 cp_1 cp_2
  rw [ex20_r] at hO3
  rw [ex20_m1]
  have hb8 : Below w8.heap.size w8 (w8.alloc (.cells #[.slice E3 ne3 ce3, .slice R3 nr3 cr3, .slice V3 nv3 cv3] 32)) := below_allocN
  have ho3 := Has.new w8 32 #[.slice E3 ne3 ce3, .slice R3 nr3 cr3, .slice V3 nv3 cv3]
  generalize hW8 : World.alloc w8 _ = w9 at hb8 ho3
  have go3 : w8.heap.size < w9.heap.size := ho3.lt
  go_upto_region 5 with fail
  try simp only [hW8]
  clear hW8
  have hB7_9 := Below_trans' hb7 hb7.size hb8
  have hB6_9 := Below_trans' hb6 hb6.size hB7_9
  have hB5_9 := Below_trans' hb5 hb5.size hB6_9
  have hB4_9 := Below_trans' hb4 hb4.size hB5_9
  have hB3_9 := Below_trans' hb3 hb3.size hB4_9
  have cp_0 := (hp.below hB3_9 hp.lt).cell 0
  have cp_1 := (hp.below hB3_9 hp.lt).cell 1
  have cp_2 := (hp.below hB3_9 hp.lt).cell 2
  go_wp2_with fail
  have hB2_9 := Below_trans' hb2 hb2.size hB3_9
  have hB1_9 := Below_trans' hb1 hb1.size hB2_9
  refine (dhondt_any 3 2 (some ⟨ge, 0, none⟩) 3 3 ex20p 11 (some ⟨w1.heap.size, 0, none⟩) 3 3 [0, 1, 2] w9 (rP.below hB1_9) (rlt.below hB2_9) (by decide)).mono ?_
  rintro e w10 ⟨E4, ne4, ce4, R4, nr4, cr4, V4, nv4, cv4, rfl, hO4, hb9⟩
  clear cp_0 cp_1 cp_2
  rw [ex20_m2]
  have hb10 : Below w10.heap.size w10 (w10.alloc (.cells #[.slice E4 ne4 ce4, .slice R4 nr4 cr4, .slice V4 nv4 cv4] 32)) := below_allocN
  have ho4 := Has.new w10 32 #[.slice E4 ne4 ce4, .slice R4 nr4 cr4, .slice V4 nv4 cv4]
  generalize hW10 : World.alloc w10 _ = w11 at hb10 ho4
  have go4 : w10.heap.size < w11.heap.size := ho4.lt
  go_upto_region 6 with fail
  try simp only [hW10]
  clear hW10
  have hB9_11 := Below_trans' hb9 hb9.size hb10
  have hB8_11 := Below_trans' hb8 hb8.size hB9_11
  have hB7_11 := Below_trans' hb7 hb7.size hB8_11
  have hB6_11 := Below_trans' hb6 hb6.size hB7_11
  have hB5_11 := Below_trans' hb5 hb5.size hB6_11
  have hB4_11 := Below_trans' hb4 hb4.size hB5_11
  have hB3_11 := Below_trans' hb3 hb3.size hB4_11
  have cp_0 := (hp.below hB3_11 hp.lt).cell 0
  have cp_1 := (hp.below hB3_11 hp.lt).cell 1
  have cp_2 := (hp.below hB3_11 hp.lt).cell 2
  have hb11 : Below w11.heap.size w11 (w11.alloc (.cells #[.int .i64 0, .int .i64 1, .int .i64 1] 3)) := below_allocN
  have hlx := Has.new w11 3 #[.int .i64 0, .int .i64 1, .int .i64 1]
  generalize hW11 : World.alloc w11 _ = w12 at hb11 hlx
  have glx : w11.heap.size < w12.heap.size := hlx.lt
  have rlx := lit3 hlx (I64s.out _ (by decide) (by decide)) (I64s.out _ (by decide) (by decide)) (I64s.out _ (by decide) (by decide))
  go_wp2_with fail
  try simp only [hW11]
  clear hW11
  have hB10_12 := Below_trans' hb10 hb10.size hb11
  have hB9_12 := Below_trans' hb9 hb9.size hB10_12
  have hB8_12 := Below_trans' hb8 hb8.size hB9_12
  have hB7_12 := Below_trans' hb7 hb7.size hB8_12
  have hB6_12 := Below_trans' hb6 hb6.size hB7_12
  have hB5_12 := Below_trans' hb5 hb5.size hB6_12
  have hB4_12 := Below_trans' hb4 hb4.size hB5_12
  have hB3_12 := Below_trans' hb3 hb3.size hB4_12
  have hB2_12 := Below_trans' hb2 hb2.size hB3_12
  have hB1_12 := Below_trans' hb1 hb1.size hB2_12
  refine (sainte_any 3 2 (some ⟨ge, 0, none⟩) 3 3 ex20p 7 (some ⟨w11.heap.size, 0, none⟩) 3 3 [0, 1, 1] w12 (rP.below hB1_12) rlx (by decide)).mono ?_
  rintro e w13 ⟨E5, ne5, ce5, R5, nr5, cr5, V5, nv5, cv5, rfl, hO5, hb12⟩
  clear cp_0 cp_1 cp_2
  rw [ex20_m3]
  have hb13 : Below w13.heap.size w13 (w13.alloc (.cells #[.slice E5 ne5 ce5, .slice R5 nr5 cr5, .slice V5 nv5 cv5] 32)) := below_allocN
  have ho5 := Has.new w13 32 #[.slice E5 ne5 ce5, .slice R5 nr5 cr5, .slice V5 nv5 cv5]
  generalize hW13 : World.alloc w13 _ = w14 at hb13 ho5
  have go5 : w13.heap.size < w14.heap.size := ho5.lt
  go_upto_region 7 with fail
  try simp only [hW13]
  clear hW13
  go_wp2_with fail
  refine (hare_any 2 (by decide) (by decide) 0 0 none 0 0 [] 1 none 0 0 [] w14 (RRows.nil_ _) (RInts.nil_ _) (by decide)).mono ?_
  rintro e w15 ⟨E6, ne6, ce6, R6, nr6, cr6, V6, nv6, cv6, rfl, hO6, hb14⟩
  rw [ex20_m4]
  have hb15 : Below w15.heap.size w15 (w15.alloc (.cells #[.slice E6 ne6 ce6, .slice R6 nr6 cr6, .slice V6 nv6 cv6] 32)) := below_allocN
  have ho6 := Has.new w15 32 #[.slice E6 ne6 ce6, .slice R6 nr6 cr6, .slice V6 nv6 cv6]
  generalize hW15 : World.alloc w15 _ = w16 at hb15 ho6
  have go6 : w15.heap.size < w16.heap.size := ho6.lt
  go_upto_region 8 with fail
  try simp only [hW15]
  clear hW15
  have hb16 : Below w16.heap.size w16 (w16.alloc (.cells #[.int .i64 1, .int .i64 0] 3)) := below_allocN
  have hly := Has.new w16 3 #[.int .i64 1, .int .i64 0]
  generalize hW16 : World.alloc w16 _ = w17 at hb16 hly
  have gly : w16.heap.size < w17.heap.size := hly.lt
  have rly := lit2 hly (I64s.out _ (by decide) (by decide)) (I64s.out _ (by decide) (by decide))
  go_wp2_with fail
  try simp only [hW16]
  clear hW16
  refine (hare_any 2 (by decide) (by decide) 2 2 none 0 0 [] 3 (some ⟨w16.heap.size, 0, none⟩) 2 2 [1, 0] w17 (RRows.nil_ _) rly (by decide)).mono ?_
  rintro e w18 ⟨E7, ne7, ce7, R7, nr7, cr7, V7, nv7, cv7, rfl, hO7, hb17⟩
  rw [ex20_r5] at hO7
  rw [ex20_m5]
  have hb18 : Below w18.heap.size w18 (w18.alloc (.cells #[.slice E7 ne7 ce7, .slice R7 nr7 cr7, .slice V7 nv7 cv7] 32)) := below_allocN
  have ho7 := Has.new w18 32 #[.slice E7 ne7 ce7, .slice R7 nr7 cr7, .slice V7 nv7 cv7]
  generalize hW18 : World.alloc w18 _ = w19 at hb18 ho7
  have go7 : w18.heap.size < w19.heap.size := ho7.lt
  go_upto_region 9 with fail
  try simp only [hW18]
  clear hW18
  have hb19 : Below w19.heap.size w19 (w19.alloc (.cells #[.int .i64 0, .int .i64 1] 3)) := below_allocN
  have ht1 := Has.new w19 3 #[.int .i64 0, .int .i64 1]
  generalize hW19 : World.alloc w19 _ = w20 at hb19 ht1
  have gt1 : w19.heap.size < w20.heap.size := ht1.lt
  have rt1 := lit2 ht1 (I64s.out _ (by decide) (by decide)) (I64s.out _ (by decide) (by decide))
  have hb20 : Below w20.heap.size w20 (w20.alloc (.cells #[.int .i64 0, .int .i64 1] 3)) := below_allocN
  have ht2 := Has.new w20 3 #[.int .i64 0, .int .i64 1]
  generalize hW20 : World.alloc w20 _ = w21 at hb20 ht2
  have gt2 : w20.heap.size < w21.heap.size := ht2.lt
  have rt2 := lit2 ht2 (I64s.out _ (by decide) (by decide)) (I64s.out _ (by decide) (by decide))
  have hb21 : Below w21.heap.size w21 (w21.alloc (.cells #[.slice (some ⟨w19.heap.size, 0, none⟩) 2 2, .int .i64 1, .slice (some ⟨w20.heap.size, 0, none⟩) 2 2, .int .i64 1] 66)) := below_allocN
  have htt := Has.new w21 66 #[.slice (some ⟨w19.heap.size, 0, none⟩) 2 2, .int .i64 1, .slice (some ⟨w20.heap.size, 0, none⟩) 2 2, .int .i64 1]
  generalize hW21 : World.alloc w21 _ = w22 at hb21 htt
  have gtt : w21.heap.size < w22.heap.size := htt.lt
  have hB20_22 := Below_trans' hb20 hb20.size hb21
  have rT := ragg2 (E := ETie) (size := 2) (us := [.slice (some ⟨w19.heap.size, 0, none⟩) 2 2, .int .i64 1]) (vs := [.slice (some ⟨w20.heap.size, 0, none⟩) 2 2, .int .i64 1]) (x := ([0, 1], 1)) (y := ([0, 1], 1)) htt rfl rfl ⟨_, 2, 2, rfl, (rt1.below hB20_22), (I64s.out _ (by decide) (by decide))⟩ ⟨_, 2, 2, rfl, (rt2.below hb21), (I64s.out _ (by decide) (by decide))⟩
  go_upto_region 10 with fail
  try simp only [hW19, hW20, hW21]
  clear hW19 hW20 hW21
  try simp only [List.append]
  have hB19_22 := Below_trans' hb19 hb19.size hB20_22
  have hB18_22 := Below_trans' hb18 hb18.size hB19_22
  have hB17_22 := Below_trans' hb17 hb17.size hB18_22
  have hB16_22 := Below_trans' hb16 hb16.size hB17_22
  have hB15_22 := Below_trans' hb15 hb15.size hB16_22
  have hB14_22 := Below_trans' hb14 hb14.size hB15_22
  have hB13_22 := Below_trans' hb13 hb13.size hB14_22
  have hB12_22 := Below_trans' hb12 hb12.size hB13_22
  have hB11_22 := Below_trans' hb11 hb11.size hB12_22
  have hB10_22 := Below_trans' hb10 hb10.size hB11_22
  have hB9_22 := Below_trans' hb9 hb9.size hB10_22
  have hB8_22 := Below_trans' hb8 hb8.size hB9_22
  have hB7_22 := Below_trans' hb7 hb7.size hB8_22
  have hB6_22 := Below_trans' hb6 hb6.size hB7_22
  have hB5_22 := Below_trans' hb5 hb5.size hB6_22
  have co1_0 := (ho1.below hB5_22 ho1.lt).cell 0
  have co1_1 := (ho1.below hB5_22 ho1.lt).cell 1
  have co1_2 := (ho1.below hB5_22 ho1.lt).cell 2
  go_wp2_with fail
  have hB4_22 := Below_trans' hb4 hb4.size hB5_22
  have hO1n := (hO1.below hB4_22)
  refine (seats20_any E1 ne1 ce1 R1 nr1 cr1 V1 nv1 cv1 (listO 0 ex20p 3 [0, 1, 2] 7).1 3 w22 hO1n.1 (ex20_in 0) (by decide) (by have h1 := hO1n.1.len; have h2 := ex20_len 0; omega)).mono ?_
  rintro e w23 ⟨v1, rfl, hS1, hb22⟩
  clear co1_0 co1_1 co1_2
  obtain ⟨AS1, cS1, rfl⟩ := hS1.slice
  rw [length_gotV] at hS1 ⊢
  rw [ex20_g0] at hS1
  have rS1 := hS1.ints (fun x hx => by have := I64s.out x; simp only [List.mem_cons, List.not_mem_nil, or_false] at hx; omega)
  have hb23 : Below w23.heap.size w23 (w23.alloc (.cells #[.int .i64 4, .int .i64 2, .int .i64 1] 3)) := below_allocN
  have hw1 := Has.new w23 3 #[.int .i64 4, .int .i64 2, .int .i64 1]
  generalize hW23 : World.alloc w23 _ = w24 at hb23 hw1
  have gw1 : w23.heap.size < w24.heap.size := hw1.lt
  have rw1 := lit3 hw1 (I64s.out _ (by decide) (by decide)) (I64s.out _ (by decide) (by decide)) (I64s.out _ (by decide) (by decide))
  go_wp2_with fail
  try simp only [hW23]
  clear hW23
  refine (ints_eq AS1 (some ⟨w23.heap.size, 0, none⟩) 3 cS1 3 3 [4, 2, 1] w24 (rS1.below hb23) rw1).mono ?_
  rintro e w25 ⟨rfl, hb24⟩
  have hB23_25 := Below_trans' hb23 hb23.size hb24
  have hB22_25 := Below_trans' hb22 hb22.size hB23_25
  have hB21_25 := Below_trans' hb21 hb21.size hB22_25
  have hB20_25 := Below_trans' hb20 hb20.size hB21_25
  have hB19_25 := Below_trans' hb19 hb19.size hB20_25
  have hB18_25 := Below_trans' hb18 hb18.size hB19_25
  have hB17_25 := Below_trans' hb17 hb17.size hB18_25
  have hB16_25 := Below_trans' hb16 hb16.size hB17_25
  have hB15_25 := Below_trans' hb15 hb15.size hB16_25
  have hB14_25 := Below_trans' hb14 hb14.size hB15_25
  have hB13_25 := Below_trans' hb13 hb13.size hB14_25
  have hB12_25 := Below_trans' hb12 hb12.size hB13_25
  have hB11_25 := Below_trans' hb11 hb11.size hB12_25
  have hB10_25 := Below_trans' hb10 hb10.size hB11_25
  have hB9_25 := Below_trans' hb9 hb9.size hB10_25
  have hB8_25 := Below_trans' hb8 hb8.size hB9_25
  have hB7_25 := Below_trans' hb7 hb7.size hB8_25
  have co2_0 := (ho2.below hB7_25 ho2.lt).cell 0
  have co2_1 := (ho2.below hB7_25 ho2.lt).cell 1
  have co2_2 := (ho2.below hB7_25 ho2.lt).cell 2
  go_wp2_with fail
  have hB6_25 := Below_trans' hb6 hb6.size hB7_25
  have hO2n := (hO2.below hB6_25)
  refine (seats20_any E2 ne2 ce2 R2 nr2 cr2 V2 nv2 cv2 (listO 1 ex20p 3 [0, 1, 2] 7).1 3 w25 hO2n.1 (ex20_in 1) (by decide) (by have h1 := hO2n.1.len; have h2 := ex20_len 1; omega)).mono ?_
  rintro e w26 ⟨v2, rfl, hS2, hb25⟩
  clear co2_0 co2_1 co2_2
  obtain ⟨AS2, cS2, rfl⟩ := hS2.slice
  rw [length_gotV] at hS2 ⊢
  rw [ex20_g1] at hS2
  have rS2 := hS2.ints (fun x hx => by have := I64s.out x; simp only [List.mem_cons, List.not_mem_nil, or_false] at hx; omega)
  have hb26 : Below w26.heap.size w26 (w26.alloc (.cells #[.int .i64 3, .int .i64 2, .int .i64 2] 3)) := below_allocN
  have hw2 := Has.new w26 3 #[.int .i64 3, .int .i64 2, .int .i64 2]
  generalize hW26 : World.alloc w26 _ = w27 at hb26 hw2
  have gw2 : w26.heap.size < w27.heap.size := hw2.lt
  have rw2 := lit3 hw2 (I64s.out _ (by decide) (by decide)) (I64s.out _ (by decide) (by decide)) (I64s.out _ (by decide) (by decide))
  go_wp2_with fail
  try simp only [hW26]
  clear hW26
  refine (ints_eq AS2 (some ⟨w26.heap.size, 0, none⟩) 3 cS2 3 3 [3, 2, 2] w27 (rS2.below hb26) rw2).mono ?_
  rintro e w28 ⟨rfl, hb27⟩
  have hB26_28 := Below_trans' hb26 hb26.size hb27
  have hB25_28 := Below_trans' hb25 hb25.size hB26_28
  have hB24_28 := Below_trans' hb24 hb24.size hB25_28
  have hB23_28 := Below_trans' hb23 hb23.size hB24_28
  have hB22_28 := Below_trans' hb22 hb22.size hB23_28
  have hB21_28 := Below_trans' hb21 hb21.size hB22_28
  have hB20_28 := Below_trans' hb20 hb20.size hB21_28
  have hB19_28 := Below_trans' hb19 hb19.size hB20_28
  have hB18_28 := Below_trans' hb18 hb18.size hB19_28
  have hB17_28 := Below_trans' hb17 hb17.size hB18_28
  have hB16_28 := Below_trans' hb16 hb16.size hB17_28
  have hB15_28 := Below_trans' hb15 hb15.size hB16_28
  have hB14_28 := Below_trans' hb14 hb14.size hB15_28
  have hB13_28 := Below_trans' hb13 hb13.size hB14_28
  have hB12_28 := Below_trans' hb12 hb12.size hB13_28
  have hB11_28 := Below_trans' hb11 hb11.size hB12_28
  have hB10_28 := Below_trans' hb10 hb10.size hB11_28
  have hB9_28 := Below_trans' hb9 hb9.size hB10_28
  have co3_0 := (ho3.below hB9_28 ho3.lt).cell 0
  have co3_1 := (ho3.below hB9_28 ho3.lt).cell 1
  have co3_2 := (ho3.below hB9_28 ho3.lt).cell 2
  go_wp2_with fail
  have hB8_28 := Below_trans' hb8 hb8.size hB9_28
  have hO3n := (hO3.below hB8_28)
  refine (seats20_any E3 ne3 ce3 R3 nr3 cr3 V3 nv3 cv3 (listO 2 ex20p 3 [0, 1, 2] 7).1 3 w28 hO3n.1 (ex20_in 2) (by decide) (by have h1 := hO3n.1.len; have h2 := ex20_len 2; omega)).mono ?_
  rintro e w29 ⟨v3, rfl, hS3, hb28⟩
  clear co3_0 co3_1 co3_2
  obtain ⟨AS3, cS3, rfl⟩ := hS3.slice
  rw [length_gotV] at hS3 ⊢
  rw [ex20_g2] at hS3
  have rS3 := hS3.ints (fun x hx => by have := I64s.out x; simp only [List.mem_cons, List.not_mem_nil, or_false] at hx; omega)
  have hb29 : Below w29.heap.size w29 (w29.alloc (.cells #[.int .i64 4, .int .i64 2, .int .i64 1] 3)) := below_allocN
  have hw3 := Has.new w29 3 #[.int .i64 4, .int .i64 2, .int .i64 1]
  generalize hW29 : World.alloc w29 _ = w30 at hb29 hw3
  have gw3 : w29.heap.size < w30.heap.size := hw3.lt
  have rw3 := lit3 hw3 (I64s.out _ (by decide) (by decide)) (I64s.out _ (by decide) (by decide)) (I64s.out _ (by decide) (by decide))
  go_wp2_with fail
  try simp only [hW29]
  clear hW29
  refine (ints_eq AS3 (some ⟨w29.heap.size, 0, none⟩) 3 cS3 3 3 [4, 2, 1] w30 (rS3.below hb29) rw3).mono ?_
  rintro e w31 ⟨rfl, hb30⟩
  have hB29_31 := Below_trans' hb29 hb29.size hb30
  have hB28_31 := Below_trans' hb28 hb28.size hB29_31
  have hB27_31 := Below_trans' hb27 hb27.size hB28_31
  have hB26_31 := Below_trans' hb26 hb26.size hB27_31
  have hB25_31 := Below_trans' hb25 hb25.size hB26_31
  have hB24_31 := Below_trans' hb24 hb24.size hB25_31
  have hB23_31 := Below_trans' hb23 hb23.size hB24_31
  have hB22_31 := Below_trans' hb22 hb22.size hB23_31
  have hB21_31 := Below_trans' hb21 hb21.size hB22_31
  have hB20_31 := Below_trans' hb20 hb20.size hB21_31
  have hB19_31 := Below_trans' hb19 hb19.size hB20_31
  have co7_0 := (ho7.below hB19_31 ho7.lt).cell 0
  have hb31 : Below w31.heap.size w31 (w31.alloc (.cells #[.int .i64 1, .int .i64 0, .int .i64 1] 3)) := below_allocN
  have hwn := Has.new w31 3 #[.int .i64 1, .int .i64 0, .int .i64 1]
  generalize hW31 : World.alloc w31 _ = w32 at hb31 hwn
  have gwn : w31.heap.size < w32.heap.size := hwn.lt
  have rwn := lit3 hwn (I64s.out _ (by decide) (by decide)) (I64s.out _ (by decide) (by decide)) (I64s.out _ (by decide) (by decide))
  go_wp2_with fail
  try simp only [hW31]
  clear hW31
  have hB30_32 := Below_trans' hb30 hb30.size hb31
  have hB29_32 := Below_trans' hb29 hb29.size hB30_32
  have hB28_32 := Below_trans' hb28 hb28.size hB29_32
  have hB27_32 := Below_trans' hb27 hb27.size hB28_32
  have hB26_32 := Below_trans' hb26 hb26.size hB27_32
  have hB25_32 := Below_trans' hb25 hb25.size hB26_32
  have hB24_32 := Below_trans' hb24 hb24.size hB25_32
  have hB23_32 := Below_trans' hb23 hb23.size hB24_32
  have hB22_32 := Below_trans' hb22 hb22.size hB23_32
  have hB21_32 := Below_trans' hb21 hb21.size hB22_32
  have hB20_32 := Below_trans' hb20 hb20.size hB21_32
  have hB19_32 := Below_trans' hb19 hb19.size hB20_32
  have hB18_32 := Below_trans' hb18 hb18.size hB19_32
  have hO7n := (show RInts w32 E7 ne7 ce7 (listO 2 [] 2 [1, 0] 3).1 from (hO7.below hB18_32).1)
  rw [ex20_n] at hO7n
  have hne7 := hO7n.len
  refine (ints_eq E7 (some ⟨w31.heap.size, 0, none⟩) ne7 ce7 3 3 [1, 0, 1] w32 hO7n rwn).mono ?_
  rintro e w33 ⟨rfl, hb32⟩
  clear co7_0
  have hB31_33 := Below_trans' hb31 hb31.size hb32
  have hB30_33 := Below_trans' hb30 hb30.size hB31_33
  have hB29_33 := Below_trans' hb29 hb29.size hB30_33
  have hB28_33 := Below_trans' hb28 hb28.size hB29_33
  have hB27_33 := Below_trans' hb27 hb27.size hB28_33
  have hB26_33 := Below_trans' hb26 hb26.size hB27_33
  have hB25_33 := Below_trans' hb25 hb25.size hB26_33
  have hB24_33 := Below_trans' hb24 hb24.size hB25_33
  have hB23_33 := Below_trans' hb23 hb23.size hB24_33
  have hB22_33 := Below_trans' hb22 hb22.size hB23_33
  have hB21_33 := Below_trans' hb21 hb21.size hB22_33
  have hB20_33 := Below_trans' hb20 hb20.size hB21_33
  have hB19_33 := Below_trans' hb19 hb19.size hB20_33
  have co7_2 := (ho7.below hB19_33 ho7.lt).cell 2
  go_wp2_with fail
  have hB18_33 := Below_trans' hb18 hb18.size hB19_33
  have hO7t := (show RAgg ETie 2 w33 V7 nv7 cv7 (listO 2 [] 2 [1, 0] 3).2.2 from (hO7.below hB18_33).2.2)
  rw [ex20_t] at hO7t
  refine (ties_eq V7 (some ⟨w21.heap.size, 0, none⟩) nv7 cv7 2 2 [([0, 1], 1), ([0, 1], 1)] w33 hO7t (rT.below below_tie hB22_33)).mono ?_
  rintro e w34 ⟨rfl, hb33⟩
  clear co7_2
  go_wp2
  go_ret
  have hB32_34 := Below_trans' hb32 hb32.size hb33
  have hB31_34 := Below_trans' hb31 hb31.size hB32_34
  have hB30_34 := Below_trans' hb30 hb30.size hB31_34
  have hB29_34 := Below_trans' hb29 hb29.size hB30_34
  have hB28_34 := Below_trans' hb28 hb28.size hB29_34
  have hB27_34 := Below_trans' hb27 hb27.size hB28_34
  have hB26_34 := Below_trans' hb26 hb26.size hB27_34
  have hB25_34 := Below_trans' hb25 hb25.size hB26_34
  have hB24_34 := Below_trans' hb24 hb24.size hB25_34
  have hB23_34 := Below_trans' hb23 hb23.size hB24_34
  have hB22_34 := Below_trans' hb22 hb22.size hB23_34
  have hB21_34 := Below_trans' hb21 hb21.size hB22_34
  have hB20_34 := Below_trans' hb20 hb20.size hB21_34
  have hB19_34 := Below_trans' hb19 hb19.size hB20_34
  have hB18_34 := Below_trans' hb18 hb18.size hB19_34
  have hB17_34 := Below_trans' hb17 hb17.size hB18_34
  have hB16_34 := Below_trans' hb16 hb16.size hB17_34
  have hB15_34 := Below_trans' hb15 hb15.size hB16_34
  have hB14_34 := Below_trans' hb14 hb14.size hB15_34
  have hB13_34 := Below_trans' hb13 hb13.size hB14_34
  have hB12_34 := Below_trans' hb12 hb12.size hB13_34
  have hB11_34 := Below_trans' hb11 hb11.size hB12_34
  have hB10_34 := Below_trans' hb10 hb10.size hB11_34
  have hB9_34 := Below_trans' hb9 hb9.size hB10_34
  have hB8_34 := Below_trans' hb8 hb8.size hB9_34
  have hB7_34 := Below_trans' hb7 hb7.size hB8_34
  have hB6_34 := Below_trans' hb6 hb6.size hB7_34
  have hB5_34 := Below_trans' hb5 hb5.size hB6_34
  have hB4_34 := Below_trans' hb4 hb4.size hB5_34
  have hB3_34 := Below_trans' hb3 hb3.size hB4_34
  have hB2_34 := Below_trans' hb2 hb2.size hB3_34
  have hB1_34 := Below_trans' hb1 hb1.size hB2_34
  have hB0_34 := Below_trans' hb0 hb0.size hB1_34
  exact ⟨rfl, hB0_34⟩
end Go.Proofs.YtiebfalodelclaaGreat
