/-
  The chapter's examples.
-/
import Derived.Test.YtleniljhacnikaaGreatMem4
import Derived.Test.YtleniljhacnikaaGreatEx09
namespace Go.Proofs.YtleniljhacnikaaGreat
open Go.RowKit Go.Proofs
attribute [local go_sem] cell?_more cell?_alloc_some cell?_setCell_far frozen?_alloc_some frozen?_more

theorem rows9 {w : World} {a b g : Nat} (ha : Has w a 3 #[.int .i64 0, .int .i64 1]) (hb : Has w b 3 #[.int .i64 1])
    (hg : Has w g 47 #[.slice (some ⟨a, 0, none⟩) 2 2, .int .i64 4, .slice (some ⟨b, 0, none⟩) 1 1, .int .i64 2]) : RRows w (some ⟨g, 0, none⟩) 2 2 e3 := by
  have h1 : RInts w (some ⟨a, 0, none⟩) 2 2 [0, 1] := ints_of' [0, 1] ha (by decide) (by intro x hx; simp at hx; omega)
  have h2 : RInts w (some ⟨b, 0, none⟩) 1 1 [1] := ints_of' [1] hb (by decide) (by intro x hx; simp at hx; omega)
  refine ⟨rfl, Nat.le_refl _, by omega, fun _ => ⟨g, 0, rfl, fun i hi => ?_⟩⟩
  have : i = 0 ∨ i = 1 := by omega
  rcases this with rfl | rfl
  · exact ⟨_, 2, 2, hg.cell 0, h1, hg.cell 1, by simp [e3]⟩
  · exact ⟨_, 1, 1, hg.cell 2, h2, hg.cell 3, by simp [e3]⟩
theorem bals9 {w : World} {a b g : Nat} (ha : RInts w (some ⟨a, 0, none⟩) 2 2 [0, 1]) (hb : RInts w (some ⟨b, 0, none⟩) 1 1 [1])
    (hg : Has w g 32 #[.int .u8 1, .slice (some ⟨b, 0, none⟩) 1 1, .int .u8 1, .slice (some ⟨a, 0, none⟩) 2 2, .int .u8 1, .slice (some ⟨a, 0, none⟩) 2 2, .int .u8 1, .slice (some ⟨b, 0, none⟩) 1 1, .int .u8 1, .slice (some ⟨a, 0, none⟩) 2 2, .int .u8 1, .slice (some ⟨a, 0, none⟩) 2 2]) :
    RBals w (some ⟨g, 0, none⟩) 6 6 eb := by
  refine ⟨rfl, Nat.le_refl _, by omega, fun _ => ⟨g, 0, rfl, fun i hi => ?_⟩⟩
  have : i = 0 ∨ i = 1 ∨ i = 2 ∨ i = 3 ∨ i = 4 ∨ i = 5 := by omega
  rcases this with rfl | rfl | rfl | rfl | rfl | rfl
  · exact ⟨_, 1, 1, hg.cell 0, hg.cell 1, hb⟩
  · exact ⟨_, 2, 2, hg.cell 2, hg.cell 3, ha⟩
  · exact ⟨_, 2, 2, hg.cell 4, hg.cell 5, ha⟩
  · exact ⟨_, 1, 1, hg.cell 6, hg.cell 7, hb⟩
  · exact ⟨_, 2, 2, hg.cell 8, hg.cell 9, ha⟩
  · exact ⟨_, 2, 2, hg.cell 10, hg.cell 11, ha⟩
theorem bools9 {w : World} {g : Nat} (hg : Has w g 4 #[.bool false, .bool true]) : RBools w (some ⟨g, 0, none⟩) 2 2 [false, true] := by
  refine ⟨rfl, Nat.le_refl _, by omega, fun _ => ⟨g, 0, rfl, fun i hi => ?_⟩⟩
  have : i = 0 ∨ i = 1 := by omega
  rcases this with rfl | rfl
  · exact hg.cell 0
  · exact hg.cell 1

set_option maxRecDepth 100000 in
set_option maxHeartbeats 8000000 in
theorem wakes9_any (w : World) :
    Calls Tryz.prog 5 #[] w fun e w' => e = .returned (.bool true) ∧ Below w.heap.size w w' := by
  go_enter Tryz.func5, Tryz.ntmps5
  go_wp2_with fail
  have hb0 : Below w.heap.size w ((((w.alloc (.cells #[.int .i64 0, .int .i64 1] 3)).alloc (.cells #[.int .i64 1] 3)).alloc (.cells #[.int .u8 1, .slice (some ⟨w.heap.size, 0, none⟩) 2 2] 32)).alloc (.cells #[.int .u8 1, .slice (some ⟨w.heap.size + 1, 0, none⟩) 1 1] 32)) :=
    ((((Below.refl _ _).alloc (Nat.le_refl _) _).alloc (by simp) _).alloc (by simp; omega) _).alloc (by simp; omega) _
  have hF0 : Fs ((((w.alloc (.cells #[.int .i64 0, .int .i64 1] 3)).alloc (.cells #[.int .i64 1] 3)).alloc (.cells #[.int .u8 1, .slice (some ⟨w.heap.size, 0, none⟩) 2 2] 32)).alloc (.cells #[.int .u8 1, .slice (some ⟨w.heap.size + 1, 0, none⟩) 1 1] 32))
      [fHas (w.heap.size + 1 + 1) 32 #[.int .u8 1, .slice (some ⟨w.heap.size, 0, none⟩) 2 2], fHas (w.heap.size + 1 + 1 + 1) 32 #[.int .u8 1, .slice (some ⟨w.heap.size + 1, 0, none⟩) 1 1], fInts (some ⟨w.heap.size, 0, none⟩) 2 2 [0, 1], fInts (some ⟨w.heap.size + 1, 0, none⟩) 1 1 [1]] :=
    ⟨by simpa [fHas] using (Has.new ((w.alloc (.cells #[.int .i64 0, .int .i64 1] 3)).alloc (.cells #[.int .i64 1] 3)) 32 #[.int .u8 1, .slice (some ⟨w.heap.size, 0, none⟩) 2 2]).alloc _,
     by simpa [fHas] using Has.new (((w.alloc (.cells #[.int .i64 0, .int .i64 1] 3)).alloc (.cells #[.int .i64 1] 3)).alloc (.cells #[.int .u8 1, .slice (some ⟨w.heap.size, 0, none⟩) 2 2] 32)) 32 #[.int .u8 1, .slice (some ⟨w.heap.size + 1, 0, none⟩) 1 1],
     ints_of' [0, 1] (((Has.new w 3 (icells [0, 1])).alloc _).alloc _ |>.alloc _) (by decide) (by intro x hx; simp at hx; omega),
     ints_of' [1] (((Has.new2 w _ 3 (icells [1])).alloc _).alloc _) (by decide) (by intro x hx; simp at hx; omega), trivial⟩
  generalize hW : World.alloc (World.alloc (World.alloc (World.alloc w _) _) _) _ = W0 at hF0 hb0
  try rw [hW]
  clear hW
  generalize w.heap.size + 1 + 1 + 1 = gb at hF0 ⊢
  generalize w.heap.size + 1 + 1 = ga at hF0 ⊢
  obtain ⟨mb, hmb⟩ : ∃ mb, mb = w.heap.size + 1 := ⟨_, rfl⟩
  rw [← hmb] at hF0 ⊢
  obtain ⟨ma, hma⟩ : ∃ ma, ma = w.heap.size := ⟨_, rfl⟩
  rw [← hma] at hF0 ⊢
  clear hmb hma
  refine (new_ok 2 1 _ ex9_new).mono ?_
  rintro e W1 ⟨rfl, hbw⟩
  have hF := hF0.below hbw
  have hB1 := Below_trans' hb0 hb0.size hbw
  clear hF0 hb0 hbw
  go_upto_region 3 with fail
  have hV0 : Has (W1.alloc (.cells #[.int .i64 2, .int .u8 1, .slice none 0 0] 24)) W1.heap.size 24 #[.int .i64 2, .int .u8 1, .slice none 0 0] := Has.new _ _ _
  have hb0 : Below W1.heap.size W1 (W1.alloc (.cells #[.int .i64 2, .int .u8 1, .slice none 0 0] 24)) := (Below.refl _ _).alloc (Nat.le_refl _) _
  have hz0 : W1.heap.size < (W1.alloc (.cells #[.int .i64 2, .int .u8 1, .slice none 0 0] 24)).heap.size := by simp
  generalize hW : World.alloc W1 _ = w0 at hV0 hb0 hz0
  try rw [hW]
  clear hW
  obtain ⟨g, hg⟩ : ∃ g, g = W1.heap.size := ⟨_, rfl⟩
  have hgw : W1.heap.size ≤ g := by omega
  rw [← hg] at hV0 hz0 ⊢
  clear hg
  obtain ⟨A0, n0, c0, hA0⟩ : ∃ A0 n0 c0, Value.slice A0 n0 c0 = .slice none 0 0 := ⟨none, 0, 0, rfl⟩
  rw [← hA0] at hV0
  have hO0 : ORows w0 (g + 1) (.slice A0 n0 c0) [] := by rw [hA0]; exact ORows.nil_ _ _
  clear hA0
  have hF0 := hF.below hb0
  have a0 : w0.cell? ⟨ga, 0, none⟩ = some (.int .u8 1) := hF0.1.cell 0
  have a1 : w0.cell? ⟨ga, 1, none⟩ = some (.slice (some ⟨ma, 0, none⟩) 2 2) := hF0.1.cell 1
  have b0 : w0.cell? ⟨gb, 0, none⟩ = some (.int .u8 1) := hF0.2.1.cell 0
  have b1 : w0.cell? ⟨gb, 1, none⟩ = some (.slice (some ⟨mb, 0, none⟩) 1 1) := hF0.2.1.cell 1
  have p0 : w0.cell? ⟨g, 0, none⟩ = some (.int .i64 2) := hV0.cell 0
  have p1 : w0.cell? ⟨g, 1, none⟩ = some (.int .u8 1) := hV0.cell 1
  have p2 : w0.cell? ⟨g, 2, none⟩ = some (.slice A0 n0 c0) := hV0.cell 2
  go_wp2_with fail
  refine (padd_any 2 1 A0 n0 c0 [] 1 _ _ _ [0, 1] 3 w0 hO0.rows hF0.2.2.1).mono ?_
  rintro e w4 ⟨A1, n1, c1, rfl, hO4, hbw⟩
  rw [ex9_a1] at hO4 ⊢
  simp only at hO4 ⊢
  have hV4 := hV0.below hbw hV0.lt
  have hb4 := Below_trans' hb0 hb0.size hbw
  have hz4 := Nat.lt_of_lt_of_le hz0 hbw.size
  replace hO4 := hO4.mono (show g + 1 ≤ w0.heap.size by omega)
  have hV1 := put3 (x' := .int .i64 2) (y' := .int .u8 1) (z' := .slice A1 n1 c1) hV4
  have k5 := frame3 w4 g (.int .i64 2) (.int .u8 1) (.slice A1 n1 c1)
  have hO1 := hO4.frame k5 (fun b hb _ e => by have e : b = g := e; omega)
  have hb1 := below3 hb4 hgw (.int .i64 2) (.int .u8 1) (.slice A1 n1 c1)
  have hz1 := Nat.lt_of_lt_of_le hz4 k5.size
  clear hV0 hO0 hb0 hz0 hF0 hbw hO4 hb4 a0 a1 b0 b1 p0 p1 p2
  have p0 : w4.cell? ⟨g, 0, none⟩ = some (.int .i64 2) := hV4.cell 0
  have p1 : w4.cell? ⟨g, 1, none⟩ = some (.int .u8 1) := hV4.cell 1
  have p2 : w4.cell? ⟨g, 2, none⟩ = some (.slice A0 n0 c0) := hV4.cell 2
  have f0 := hV4.free 0
  have f1 := hV4.free 1
  have f2 := hV4.free 2
  clear k5 hz4 hV4
  go_upto_region 4 with fail
  generalize hW : World.setCell (World.setCell (World.setCell w4 _ _) _ _) _ _ = w1 at hV1 hO1 hb1 hz1
  try rw [hW]
  clear hW p0 p1 p2 f0 f1 f2
  clear w4
  have hF1 := hF.below hb1
  have a0 : w1.cell? ⟨ga, 0, none⟩ = some (.int .u8 1) := hF1.1.cell 0
  have a1 : w1.cell? ⟨ga, 1, none⟩ = some (.slice (some ⟨ma, 0, none⟩) 2 2) := hF1.1.cell 1
  have b0 : w1.cell? ⟨gb, 0, none⟩ = some (.int .u8 1) := hF1.2.1.cell 0
  have b1 : w1.cell? ⟨gb, 1, none⟩ = some (.slice (some ⟨mb, 0, none⟩) 1 1) := hF1.2.1.cell 1
  have p0 : w1.cell? ⟨g, 0, none⟩ = some (.int .i64 2) := hV1.cell 0
  have p1 : w1.cell? ⟨g, 1, none⟩ = some (.int .u8 1) := hV1.cell 1
  have p2 : w1.cell? ⟨g, 2, none⟩ = some (.slice A1 n1 c1) := hV1.cell 2
  go_wp2_with fail
  refine (padd_any 2 1 A1 n1 c1 e1 1 _ _ _ [1] 2 w1 hO1.rows hF1.2.2.2.1).mono ?_
  rintro e w4 ⟨A2, n2, c2, rfl, hO4, hbw⟩
  rw [ex9_a2] at hO4 ⊢
  simp only at hO4 ⊢
  have hV4 := hV1.below hbw hV1.lt
  have hb4 := Below_trans' hb1 hb1.size hbw
  have hz4 := Nat.lt_of_lt_of_le hz1 hbw.size
  replace hO4 := hO4.mono (show g + 1 ≤ w1.heap.size by omega)
  have hV2 := put3 (x' := .int .i64 2) (y' := .int .u8 1) (z' := .slice A2 n2 c2) hV4
  have k5 := frame3 w4 g (.int .i64 2) (.int .u8 1) (.slice A2 n2 c2)
  have hO2 := hO4.frame k5 (fun b hb _ e => by have e : b = g := e; omega)
  have hb2 := below3 hb4 hgw (.int .i64 2) (.int .u8 1) (.slice A2 n2 c2)
  have hz2 := Nat.lt_of_lt_of_le hz4 k5.size
  clear hV1 hO1 hb1 hz1 hF1 hbw hO4 hb4 a0 a1 b0 b1 p0 p1 p2
  have p0 : w4.cell? ⟨g, 0, none⟩ = some (.int .i64 2) := hV4.cell 0
  have p1 : w4.cell? ⟨g, 1, none⟩ = some (.int .u8 1) := hV4.cell 1
  have p2 : w4.cell? ⟨g, 2, none⟩ = some (.slice A1 n1 c1) := hV4.cell 2
  have f0 := hV4.free 0
  have f1 := hV4.free 1
  have f2 := hV4.free 2
  clear k5 hz4 hV4
  go_upto_region 5 with fail
  generalize hW : World.setCell (World.setCell (World.setCell w4 _ _) _ _) _ _ = w2 at hV2 hO2 hb2 hz2
  try rw [hW]
  clear hW p0 p1 p2 f0 f1 f2
  clear w4
  have hF2 := hF.below hb2
  have a0 : w2.cell? ⟨ga, 0, none⟩ = some (.int .u8 1) := hF2.1.cell 0
  have a1 : w2.cell? ⟨ga, 1, none⟩ = some (.slice (some ⟨ma, 0, none⟩) 2 2) := hF2.1.cell 1
  have b0 : w2.cell? ⟨gb, 0, none⟩ = some (.int .u8 1) := hF2.2.1.cell 0
  have b1 : w2.cell? ⟨gb, 1, none⟩ = some (.slice (some ⟨mb, 0, none⟩) 1 1) := hF2.2.1.cell 1
  have p0 : w2.cell? ⟨g, 0, none⟩ = some (.int .i64 2) := hV2.cell 0
  have p1 : w2.cell? ⟨g, 1, none⟩ = some (.int .u8 1) := hV2.cell 1
  have p2 : w2.cell? ⟨g, 2, none⟩ = some (.slice A2 n2 c2) := hV2.cell 2
  go_wp2_with fail
  refine (padd_any 2 1 A2 n2 c2 e2 1 _ _ _ [0, 1] 1 w2 hO2.rows hF2.2.2.1).mono ?_
  rintro e w4 ⟨A3, n3, c3, rfl, hO4, hbw⟩
  rw [ex9_a3] at hO4 ⊢
  simp only at hO4 ⊢
  have hV4 := hV2.below hbw hV2.lt
  have hb4 := Below_trans' hb2 hb2.size hbw
  have hz4 := Nat.lt_of_lt_of_le hz2 hbw.size
  replace hO4 := hO4.mono (show g + 1 ≤ w2.heap.size by omega)
  have hV3 := put3 (x' := .int .i64 2) (y' := .int .u8 1) (z' := .slice A3 n3 c3) hV4
  have k5 := frame3 w4 g (.int .i64 2) (.int .u8 1) (.slice A3 n3 c3)
  have hO3 := hO4.frame k5 (fun b hb _ e => by have e : b = g := e; omega)
  have hb3 := below3 hb4 hgw (.int .i64 2) (.int .u8 1) (.slice A3 n3 c3)
  have hz3 := Nat.lt_of_lt_of_le hz4 k5.size
  clear hV2 hO2 hb2 hz2 hF2 hbw hO4 hb4 a0 a1 b0 b1 p0 p1 p2
  have p0 : w4.cell? ⟨g, 0, none⟩ = some (.int .i64 2) := hV4.cell 0
  have p1 : w4.cell? ⟨g, 1, none⟩ = some (.int .u8 1) := hV4.cell 1
  have p2 : w4.cell? ⟨g, 2, none⟩ = some (.slice A2 n2 c2) := hV4.cell 2
  have f0 := hV4.free 0
  have f1 := hV4.free 1
  have f2 := hV4.free 2
  clear k5 hz4 hV4
  go_upto_region 6 with fail
  generalize hW : World.setCell (World.setCell (World.setCell w4 _ _) _ _) _ _ = w3 at hV3 hO3 hb3 hz3
  try rw [hW]
  clear hW p0 p1 p2 f0 f1 f2
  clear w4
  have hF3 := hF.below hb3
  have hQ3 : Fs w3 [fHas g 24 #[.int .i64 2, .int .u8 1, .slice A3 n3 c3], fHas ga 32 #[.int .u8 1, .slice (some ⟨ma, 0, none⟩) 2 2], fHas gb 32 #[.int .u8 1, .slice (some ⟨mb, 0, none⟩) 1 1], fInts (some ⟨ma, 0, none⟩) 2 2 [0, 1], fInts (some ⟨mb, 0, none⟩) 1 1 [1], fRows A3 n3 c3 e3] :=
    ⟨hV3, hF3.1, hF3.2.1, hF3.2.2.1, hF3.2.2.2.1, hO3.rows, trivial⟩
  have hb4 := Below_trans' hB1 hB1.size hb3
  clear hF3 hV3 hO3 hb3 hz3 hF hB1 hgw W1
  go_upto_region 7 with fail
  have hw1 : Has ((w3.alloc (.cells #[.int .i64 0, .int .i64 1] 3)).alloc (.cells #[.int .i64 1] 3)) w3.heap.size 3 #[.int .i64 0, .int .i64 1] := (Has.new w3 3 _).alloc _
  have hw2 : Has ((w3.alloc (.cells #[.int .i64 0, .int .i64 1] 3)).alloc (.cells #[.int .i64 1] 3)) (w3.heap.size + 1) 3 #[.int .i64 1] := Has.new2 w3 _ 3 _
  have hw3 : Has (((w3.alloc (.cells #[.int .i64 0, .int .i64 1] 3)).alloc (.cells #[.int .i64 1] 3)).alloc (.cells #[.slice (some ⟨w3.heap.size, 0, none⟩) 2 2, .int .i64 4, .slice (some ⟨w3.heap.size + 1, 0, none⟩) 1 1, .int .i64 2] 47)) (w3.heap.size + 1 + 1) 47 #[.slice (some ⟨w3.heap.size, 0, none⟩) 2 2, .int .i64 4, .slice (some ⟨w3.heap.size + 1, 0, none⟩) 1 1, .int .i64 2] := by
    simpa using Has.new ((w3.alloc (.cells #[.int .i64 0, .int .i64 1] 3)).alloc (.cells #[.int .i64 1] 3)) 47 #[.slice (some ⟨w3.heap.size, 0, none⟩) 2 2, .int .i64 4, .slice (some ⟨w3.heap.size + 1, 0, none⟩) 1 1, .int .i64 2]
  have hwr := (rows9 (hw1.alloc _) (hw2.alloc _) hw3).below ((Below.refl _ _).alloc (Nat.le_refl _) (.cells #[.int .i64 2, .int .u8 1, .slice (some ⟨w3.heap.size + 1 + 1, 0, none⟩) 2 2] 24))
  have hw4 : Has ((((w3.alloc (.cells #[.int .i64 0, .int .i64 1] 3)).alloc (.cells #[.int .i64 1] 3)).alloc (.cells #[.slice (some ⟨w3.heap.size, 0, none⟩) 2 2, .int .i64 4, .slice (some ⟨w3.heap.size + 1, 0, none⟩) 1 1, .int .i64 2] 47)).alloc (.cells #[.int .i64 2, .int .u8 1, .slice (some ⟨w3.heap.size + 1 + 1, 0, none⟩) 2 2] 24)) (w3.heap.size + 1 + 1 + 1) 24 #[.int .i64 2, .int .u8 1, .slice (some ⟨w3.heap.size + 1 + 1, 0, none⟩) 2 2] := by
    simpa using Has.new (((w3.alloc (.cells #[.int .i64 0, .int .i64 1] 3)).alloc (.cells #[.int .i64 1] 3)).alloc (.cells #[.slice (some ⟨w3.heap.size, 0, none⟩) 2 2, .int .i64 4, .slice (some ⟨w3.heap.size + 1, 0, none⟩) 1 1, .int .i64 2] 47)) 24 #[.int .i64 2, .int .u8 1, .slice (some ⟨w3.heap.size + 1 + 1, 0, none⟩) 2 2]
  have hbw : Below w3.heap.size w3 ((((w3.alloc (.cells #[.int .i64 0, .int .i64 1] 3)).alloc (.cells #[.int .i64 1] 3)).alloc (.cells #[.slice (some ⟨w3.heap.size, 0, none⟩) 2 2, .int .i64 4, .slice (some ⟨w3.heap.size + 1, 0, none⟩) 1 1, .int .i64 2] 47)).alloc (.cells #[.int .i64 2, .int .u8 1, .slice (some ⟨w3.heap.size + 1 + 1, 0, none⟩) 2 2] 24)) :=
    ((((Below.refl _ _).alloc (Nat.le_refl _) _).alloc (by simp) _).alloc (by simp; omega) _).alloc (by simp; omega) _
  have hQ5 := hQ3.below hbw
  have hb5 := Below_trans' hb4 hb4.size hbw
  have hS5 := ((Fs.nil _).rows hwr).has hw4
  clear hQ3 hb4 hbw hw1 hw2 hw3 hw4 hwr
  generalize hW : World.alloc (World.alloc (World.alloc (World.alloc w3 _) _) _) _ = w5 at hQ5 hS5 hb5
  try rw [hW]
  clear hW
  generalize w3.heap.size + 1 + 1 + 1 = gw at hS5 ⊢
  generalize w3.heap.size + 1 + 1 = gr at hS5 ⊢
  have a0 : w5.cell? ⟨ga, 0, none⟩ = some (.int .u8 1) := hQ5.2.1.cell 0
  have a1 : w5.cell? ⟨ga, 1, none⟩ = some (.slice (some ⟨ma, 0, none⟩) 2 2) := hQ5.2.1.cell 1
  have b0 : w5.cell? ⟨gb, 0, none⟩ = some (.int .u8 1) := hQ5.2.2.1.cell 0
  have b1 : w5.cell? ⟨gb, 1, none⟩ = some (.slice (some ⟨mb, 0, none⟩) 1 1) := hQ5.2.2.1.cell 1
  have p0 : w5.cell? ⟨g, 0, none⟩ = some (.int .i64 2) := hQ5.1.cell 0
  have p1 : w5.cell? ⟨g, 1, none⟩ = some (.int .u8 1) := hQ5.1.cell 1
  have p2 : w5.cell? ⟨g, 2, none⟩ = some (.slice A3 n3 c3) := hQ5.1.cell 2
  go_wp2_with fail
  have hbw5 : Below w5.heap.size w5 (w5.alloc (.cells #[.bool false, .bool true] 4)) := (Below.refl _ _).alloc (Nat.le_refl _) _
  have hbo := bools9 (Has.new w5 4 #[.bool false, .bool true])
  refine (pkeep_any 2 1 A3 n3 c3 e3 _ _ _ [false, true] _ (hQ5.below hbw5).2.2.2.2.2.1 hbo).mono ?_
  rintro e w6 ⟨Ak, nk, ck, rfl, hOk, hbw6⟩
  rw [ex9_keep] at hOk ⊢
  simp only at hOk ⊢
  have hbw := Below_trans' hbw5 hbw5.size hbw6
  obtain rfl : nk = 1 := hOk.rows.len.symm
  clear a0 a1 b0 b1 p0 p1 p2
  have hQ6 := hQ5.below hbw
  have hS6 := hS5.below hbw
  have hb6 := Below_trans' hb5 hb5.size hbw
  clear hQ5 hS5 hb5 hbw
  have hS6 := hS6.rows hOk.rows
  clear hbw5 hbo hOk hbw6
  go_upto_region 8 with fail
  have hbw : Below w6.heap.size w6 (w6.alloc (.cells #[.int .i64 2, .int .u8 1, .slice Ak 1 ck] 24)) := (Below.refl _ _).alloc (Nat.le_refl _) _
  have hN := Has.new w6 24 #[.int .i64 2, .int .u8 1, .slice Ak 1 ck]
  have hQ7 := hQ6.below hbw
  have hS7 := (hS6.below hbw).has hN
  have hb7 := Below_trans' hb6 hb6.size hbw
  clear hQ6 hS6 hb6 hN hbw
  generalize hW : World.alloc w6 _ = w7 at hQ7 hS7 hb7
  try rw [hW]
  clear hW
  generalize w6.heap.size = gk at hS7 ⊢
  have a0 : w7.cell? ⟨ga, 0, none⟩ = some (.int .u8 1) := hQ7.2.1.cell 0
  have a1 : w7.cell? ⟨ga, 1, none⟩ = some (.slice (some ⟨ma, 0, none⟩) 2 2) := hQ7.2.1.cell 1
  have b0 : w7.cell? ⟨gb, 0, none⟩ = some (.int .u8 1) := hQ7.2.2.1.cell 0
  have b1 : w7.cell? ⟨gb, 1, none⟩ = some (.slice (some ⟨mb, 0, none⟩) 1 1) := hQ7.2.2.1.cell 1
  have p0 : w7.cell? ⟨g, 0, none⟩ = some (.int .i64 2) := hQ7.1.cell 0
  have p1 : w7.cell? ⟨g, 1, none⟩ = some (.int .u8 1) := hQ7.1.cell 1
  have p2 : w7.cell? ⟨g, 2, none⟩ = some (.slice A3 n3 c3) := hQ7.1.cell 2
  go_wp2_with fail
  refine (ptake_any 2 1 A3 n3 c3 e3 1 _ _ _ [1] 2 _ hQ7.2.2.2.2.2.1 hQ7.2.2.2.2.1 (by omega)).mono ?_
  rintro e w8 ⟨Al, nl, cl, rfl, hOl, hbw⟩
  rw [ex9_take] at hOl ⊢
  simp only at hOl ⊢
  obtain rfl : nl = 1 := hOl.rows.len.symm
  clear a0 a1 b0 b1 p0 p1 p2
  have hQ8 := hQ7.below hbw
  have hS8 := hS7.below hbw
  have hb8 := Below_trans' hb7 hb7.size hbw
  clear hQ7 hS7 hb7 hbw
  clear hOl
  go_upto_region 9 with fail
  have hbw : Below w8.heap.size w8 (w8.alloc (.cells #[.int .i64 2, .int .u8 1, .slice Al 1 cl] 24)) := (Below.refl _ _).alloc (Nat.le_refl _) _
  have hN := Has.new w8 24 #[.int .i64 2, .int .u8 1, .slice Al 1 cl]
  have hQ9 := hQ8.below hbw
  have hS9 := (hS8.below hbw).has hN
  have hb9 := Below_trans' hb8 hb8.size hbw
  clear hQ8 hS8 hb8 hN hbw
  generalize hW : World.alloc w8 _ = w9 at hQ9 hS9 hb9
  try rw [hW]
  clear hW
  generalize w8.heap.size = gl at hS9 ⊢
  have a0 : w9.cell? ⟨ga, 0, none⟩ = some (.int .u8 1) := hQ9.2.1.cell 0
  have a1 : w9.cell? ⟨ga, 1, none⟩ = some (.slice (some ⟨ma, 0, none⟩) 2 2) := hQ9.2.1.cell 1
  have b0 : w9.cell? ⟨gb, 0, none⟩ = some (.int .u8 1) := hQ9.2.2.1.cell 0
  have b1 : w9.cell? ⟨gb, 1, none⟩ = some (.slice (some ⟨mb, 0, none⟩) 1 1) := hQ9.2.2.1.cell 1
  have p0 : w9.cell? ⟨g, 0, none⟩ = some (.int .i64 2) := hQ9.1.cell 0
  have p1 : w9.cell? ⟨g, 1, none⟩ = some (.int .u8 1) := hQ9.1.cell 1
  have p2 : w9.cell? ⟨g, 2, none⟩ = some (.slice A3 n3 c3) := hQ9.1.cell 2
  go_wp2_with fail
  refine (ptake_any 2 1 A3 n3 c3 e3 1 _ _ _ [1] 3 _ hQ9.2.2.2.2.2.1 hQ9.2.2.2.2.1 (by omega)).mono ?_
  rintro e w10 ⟨A9, n9, c9, rfl, -, hbw⟩
  rw [ex9_none]
  simp only
  clear a0 a1 b0 b1 p0 p1 p2
  have hQ10 := hQ9.below hbw
  have hS10 := hS9.below hbw
  have hb10 := Below_trans' hb9 hb9.size hbw
  clear hQ9 hS9 hb9 hbw
  go_upto_region 10 with fail
  have hbw : Below w10.heap.size w10 (w10.alloc (.cells #[.int .i64 0, .int .u8 0, .slice A9 n9 c9] 24)) := (Below.refl _ _).alloc (Nat.le_refl _) _
  have hQ11 := hQ10.below hbw
  have hS11 := hS10.below hbw
  have hb11 := Below_trans' hb10 hb10.size hbw
  clear hQ10 hS10 hb10 hbw
  generalize hW : World.alloc w10 _ = w11 at hQ11 hS11 hb11
  try rw [hW]
  clear hW
  have a0 : w11.cell? ⟨ga, 0, none⟩ = some (.int .u8 1) := hQ11.2.1.cell 0
  have a1 : w11.cell? ⟨ga, 1, none⟩ = some (.slice (some ⟨ma, 0, none⟩) 2 2) := hQ11.2.1.cell 1
  have b0 : w11.cell? ⟨gb, 0, none⟩ = some (.int .u8 1) := hQ11.2.2.1.cell 0
  have b1 : w11.cell? ⟨gb, 1, none⟩ = some (.slice (some ⟨mb, 0, none⟩) 1 1) := hQ11.2.2.1.cell 1
  have p0 : w11.cell? ⟨g, 0, none⟩ = some (.int .i64 2) := hQ11.1.cell 0
  have p1 : w11.cell? ⟨g, 1, none⟩ = some (.int .u8 1) := hQ11.1.cell 1
  have p2 : w11.cell? ⟨g, 2, none⟩ = some (.slice A3 n3 c3) := hQ11.1.cell 2
  go_wp2_with fail
  refine (padd_any 2 1 A3 n3 c3 e3 1 _ _ _ [1] 0 _ hQ11.2.2.2.2.2.1 hQ11.2.2.2.2.1).mono ?_
  rintro e w12 ⟨A9, n9, c9, rfl, -, hbw⟩
  rw [ex9_arg]
  simp only
  clear a0 a1 b0 b1 p0 p1 p2
  have hQ12 := hQ11.below hbw
  have hS12 := hS11.below hbw
  have hb12 := Below_trans' hb11 hb11.size hbw
  clear hQ11 hS11 hb11 hbw
  go_upto_region 11 with fail
  have hbw : Below w12.heap.size w12 (w12.alloc (.cells #[.int .i64 0, .int .u8 0, .slice A9 n9 c9] 24)) := (Below.refl _ _).alloc (Nat.le_refl _) _
  have hQ13 := hQ12.below hbw
  have hS13 := hS12.below hbw
  have hb13 := Below_trans' hb12 hb12.size hbw
  clear hQ12 hS12 hb12 hbw
  generalize hW : World.alloc w12 _ = w13 at hQ13 hS13 hb13
  try rw [hW]
  clear hW
  have a0 : w13.cell? ⟨ga, 0, none⟩ = some (.int .u8 1) := hQ13.2.1.cell 0
  have a1 : w13.cell? ⟨ga, 1, none⟩ = some (.slice (some ⟨ma, 0, none⟩) 2 2) := hQ13.2.1.cell 1
  have b0 : w13.cell? ⟨gb, 0, none⟩ = some (.int .u8 1) := hQ13.2.2.1.cell 0
  have b1 : w13.cell? ⟨gb, 1, none⟩ = some (.slice (some ⟨mb, 0, none⟩) 1 1) := hQ13.2.2.1.cell 1
  have p0 : w13.cell? ⟨g, 0, none⟩ = some (.int .i64 2) := hQ13.1.cell 0
  have p1 : w13.cell? ⟨g, 1, none⟩ = some (.int .u8 1) := hQ13.1.cell 1
  have p2 : w13.cell? ⟨g, 2, none⟩ = some (.slice A3 n3 c3) := hQ13.1.cell 2
  go_wp2_with fail
  refine (padd_any 2 1 A3 n3 c3 e3 2 none 0 0 [] 1 _ hQ13.2.2.2.2.2.1 (RInts.nil_ _)).mono ?_
  rintro e w14 ⟨A9, n9, c9, rfl, -, hbw⟩
  rw [ex9_bad]
  simp only
  clear a0 a1 b0 b1 p0 p1 p2
  have hQ14 := hQ13.below hbw
  have hS14 := hS13.below hbw
  have hb14 := Below_trans' hb13 hb13.size hbw
  clear hQ13 hS13 hb13 hbw
  go_upto_region 12 with fail
  have hbw : Below w14.heap.size w14 (w14.alloc (.cells #[.int .i64 0, .int .u8 0, .slice A9 n9 c9] 24)) := (Below.refl _ _).alloc (Nat.le_refl _) _
  have hQ15 := hQ14.below hbw
  have hS15 := hS14.below hbw
  have hb15 := Below_trans' hb14 hb14.size hbw
  clear hQ14 hS14 hb14 hbw
  generalize hW : World.alloc w14 _ = w15 at hQ15 hS15 hb15
  try rw [hW]
  clear hW
  have a0 : w15.cell? ⟨ga, 0, none⟩ = some (.int .u8 1) := hQ15.2.1.cell 0
  have a1 : w15.cell? ⟨ga, 1, none⟩ = some (.slice (some ⟨ma, 0, none⟩) 2 2) := hQ15.2.1.cell 1
  have b0 : w15.cell? ⟨gb, 0, none⟩ = some (.int .u8 1) := hQ15.2.2.1.cell 0
  have b1 : w15.cell? ⟨gb, 1, none⟩ = some (.slice (some ⟨mb, 0, none⟩) 1 1) := hQ15.2.2.1.cell 1
  have p0 : w15.cell? ⟨g, 0, none⟩ = some (.int .i64 2) := hQ15.1.cell 0
  have p1 : w15.cell? ⟨g, 1, none⟩ = some (.int .u8 1) := hQ15.1.cell 1
  have p2 : w15.cell? ⟨g, 2, none⟩ = some (.slice A3 n3 c3) := hQ15.1.cell 2
  go_wp2_with fail
  refine (padd_any 2 1 A3 n3 c3 e3 1 _ _ _ [1] 1000000 _ hQ15.2.2.2.2.2.1 hQ15.2.2.2.2.1).mono ?_
  rintro e w16 ⟨A9, n9, c9, rfl, -, hbw⟩
  rw [ex9_many]
  simp only
  clear a0 a1 b0 b1 p0 p1 p2
  have hQ16 := hQ15.below hbw
  have hS16 := hS15.below hbw
  have hb16 := Below_trans' hb15 hb15.size hbw
  clear hQ15 hS15 hb15 hbw
  go_upto_region 13 with fail
  have hbw : Below w16.heap.size w16 (w16.alloc (.cells #[.int .i64 0, .int .u8 0, .slice A9 n9 c9] 24)) := (Below.refl _ _).alloc (Nat.le_refl _) _
  have hQ17 := hQ16.below hbw
  have hS17 := hS16.below hbw
  have hb17 := Below_trans' hb16 hb16.size hbw
  clear hQ16 hS16 hb16 hbw
  generalize hW : World.alloc w16 _ = w17 at hQ17 hS17 hb17
  try rw [hW]
  clear hW
  go_wp2_with fail
  refine (new_bad 0 1 _ ex9_new0).mono ?_
  rintro e w18 ⟨rfl, hbw⟩
  have hQ18 := hQ17.below hbw
  have hS18 := hS17.below hbw
  have hb18 := Below_trans' hb17 hb17.size hbw
  clear hQ17 hS17 hb17 hbw
  go_upto_region 14 with fail
  have hbw : Below w18.heap.size w18 (w18.alloc (.cells #[.int .i64 0, .int .u8 0, .slice none 0 0] 24)) := (Below.refl _ _).alloc (Nat.le_refl _) _
  have hQ19 := hQ18.below hbw
  have hS19 := hS18.below hbw
  have hb19 := Below_trans' hb18 hb18.size hbw
  clear hQ18 hS18 hb18 hbw
  generalize hW : World.alloc w18 _ = w19 at hQ19 hS19 hb19
  try rw [hW]
  clear hW
  have a0 : w19.cell? ⟨ga, 0, none⟩ = some (.int .u8 1) := hQ19.2.1.cell 0
  have a1 : w19.cell? ⟨ga, 1, none⟩ = some (.slice (some ⟨ma, 0, none⟩) 2 2) := hQ19.2.1.cell 1
  have b0 : w19.cell? ⟨gb, 0, none⟩ = some (.int .u8 1) := hQ19.2.2.1.cell 0
  have b1 : w19.cell? ⟨gb, 1, none⟩ = some (.slice (some ⟨mb, 0, none⟩) 1 1) := hQ19.2.2.1.cell 1
  have p0 : w19.cell? ⟨g, 0, none⟩ = some (.int .i64 2) := hQ19.1.cell 0
  have p1 : w19.cell? ⟨g, 1, none⟩ = some (.int .u8 1) := hQ19.1.cell 1
  have p2 : w19.cell? ⟨g, 2, none⟩ = some (.slice A3 n3 c3) := hQ19.1.cell 2
  go_wp2_with fail
  refine (many_any 2 1 A3 n3 c3 e3 _ hQ19.2.2.2.2.2.1).mono ?_
  rintro e w20 ⟨rfl, hbw⟩
  rw [ex9_cnt, ex9_chk]
  clear a0 a1 b0 b1 p0 p1 p2
  have hQ20 := hQ19.below hbw
  have hS20 := hS19.below hbw
  have hb20 := Below_trans' hb19 hb19.size hbw
  clear hQ19 hS19 hb19 hbw
  go_upto_region 15 with fail
  have a0 : w20.cell? ⟨ga, 0, none⟩ = some (.int .u8 1) := hQ20.2.1.cell 0
  have a1 : w20.cell? ⟨ga, 1, none⟩ = some (.slice (some ⟨ma, 0, none⟩) 2 2) := hQ20.2.1.cell 1
  have b0 : w20.cell? ⟨gb, 0, none⟩ = some (.int .u8 1) := hQ20.2.2.1.cell 0
  have b1 : w20.cell? ⟨gb, 1, none⟩ = some (.slice (some ⟨mb, 0, none⟩) 1 1) := hQ20.2.2.1.cell 1
  have p0 : w20.cell? ⟨g, 0, none⟩ = some (.int .i64 2) := hQ20.1.cell 0
  have p1 : w20.cell? ⟨g, 1, none⟩ = some (.int .u8 1) := hQ20.1.cell 1
  have p2 : w20.cell? ⟨g, 2, none⟩ = some (.slice A3 n3 c3) := hQ20.1.cell 2
  go_wp2_with fail
  have hbw5 : Below w20.heap.size w20 (w20.alloc (.cells #[.int .u8 1, .slice (some ⟨mb, 0, none⟩) 1 1, .int .u8 1, .slice (some ⟨ma, 0, none⟩) 2 2, .int .u8 1, .slice (some ⟨ma, 0, none⟩) 2 2, .int .u8 1, .slice (some ⟨mb, 0, none⟩) 1 1, .int .u8 1, .slice (some ⟨ma, 0, none⟩) 2 2, .int .u8 1, .slice (some ⟨ma, 0, none⟩) 2 2] 32)) := (Below.refl _ _).alloc (Nat.le_refl _) _
  have hbl := bals9 (hQ20.below hbw5).2.2.2.1 (hQ20.below hbw5).2.2.2.2.1 (Has.new w20 32 #[.int .u8 1, .slice (some ⟨mb, 0, none⟩) 1 1, .int .u8 1, .slice (some ⟨ma, 0, none⟩) 2 2, .int .u8 1, .slice (some ⟨ma, 0, none⟩) 2 2, .int .u8 1, .slice (some ⟨mb, 0, none⟩) 1 1, .int .u8 1, .slice (some ⟨ma, 0, none⟩) 2 2, .int .u8 1, .slice (some ⟨ma, 0, none⟩) 2 2])
  refine (pmake_any 2 1 _ 6 6 eb _ hbl).mono ?_
  rintro e w21 ⟨Am, nm, cm, rfl, hOm, hbw6⟩
  rw [ex9_make] at hOm ⊢
  simp only at hOm ⊢
  have hbw := Below_trans' hbw5 hbw5.size hbw6
  clear a0 a1 b0 b1 p0 p1 p2
  have hQ21 := hQ20.below hbw
  have hS21 := hS20.below hbw
  have hb21 := Below_trans' hb20 hb20.size hbw
  clear hQ20 hS20 hb20 hbw
  have hS21 := hS21.rows hOm.rows
  clear hbw5 hbl hOm hbw6
  go_upto_region 16 with fail
  have hbw : Below w21.heap.size w21 (w21.alloc (.cells #[.int .i64 2, .int .u8 1, .slice Am nm cm] 24)) := (Below.refl _ _).alloc (Nat.le_refl _) _
  have hN := Has.new w21 24 #[.int .i64 2, .int .u8 1, .slice Am nm cm]
  have hQ22 := hQ21.below hbw
  have hS22 := (hS21.below hbw).has hN
  have hb22 := Below_trans' hb21 hb21.size hbw
  clear hQ21 hS21 hb21 hN hbw
  generalize hW : World.alloc w21 _ = w22 at hQ22 hS22 hb22
  try rw [hW]
  clear hW
  generalize w21.heap.size = gm at hS22 ⊢
  go_upto_region 17 with fail
  have hS' := hS22
  obtain ⟨-, -, hl, hk, hkr, -, -, -⟩ := hS'
  obtain ⟨b, off, Ar, nr, cr, ms, y, rfl, hc0, hm0, hc1, -, hat, -⟩ := hkr.step (k := 0) (by omega)
  obtain ⟨rfl, rfl⟩ : ms = [1] ∧ y = 6 := by have := hat.out; cases this; exact ⟨rfl, rfl⟩
  simp only [Nat.zero_mul, Nat.add_zero] at hc0 hc1
  have k2 : w22.cell? ⟨gk, 2, none⟩ = some (.slice (some ⟨b, off, none⟩) 1 ck) := hk.cell 2
  have l2 : w22.cell? ⟨gl, 2, none⟩ = some (.slice Al 1 cl) := hl.cell 2
  clear hl hk hkr hat
  go_wp2_with fail
  have hbw5 : Below w22.heap.size w22 (w22.alloc (.cells #[.int .i64 1] 3)) := (Below.refl _ _).alloc (Nat.le_refl _) _
  refine (ints_any Ar _ nr cr 1 1 [1] [1] _ (hm0.below hbw5) (ints_of' [1] (Has.new w22 3 (icells [1])) (by decide) (by intro x hx; simp at hx; omega))).mono ?_
  rintro e w23 ⟨rfl, hbw6⟩
  rw [show (([1] : List Int) == [1]) = true from rfl]
  have hbw := Below_trans' hbw5 hbw5.size hbw6
  have hQ23 := hQ22.below hbw
  have hS23 := hS22.below hbw
  have hb23 := Below_trans' hb22 hb22.size hbw
  clear hQ22 hS22 hb22 hbw
  clear hbw5 hbw6 hc0 hc1 hm0 k2 l2
  have l2 : w23.cell? ⟨gl, 2, none⟩ = some (.slice Al 1 cl) := hS23.2.2.1.cell 2
  go_upto_region 18 with fail
  clear l2
  try simp only [List.append]
  have p0 : w23.cell? ⟨g, 0, none⟩ = some (.int .i64 2) := hQ23.1.cell 0
  have p1 : w23.cell? ⟨g, 1, none⟩ = some (.int .u8 1) := hQ23.1.cell 1
  have p2 : w23.cell? ⟨g, 2, none⟩ = some (.slice A3 n3 c3) := hQ23.1.cell 2
  have m0 : w23.cell? ⟨gm, 0, none⟩ = some (.int .i64 2) := hS23.1.cell 0
  have m1 : w23.cell? ⟨gm, 1, none⟩ = some (.int .u8 1) := hS23.1.cell 1
  have m2 : w23.cell? ⟨gm, 2, none⟩ = some (.slice Am nm cm) := hS23.1.cell 2
  have k0 : w23.cell? ⟨gk, 0, none⟩ = some (.int .i64 2) := hS23.2.2.2.1.cell 0
  have k1 : w23.cell? ⟨gk, 1, none⟩ = some (.int .u8 1) := hS23.2.2.2.1.cell 1
  have k2 : w23.cell? ⟨gk, 2, none⟩ = some (.slice (some ⟨b, off, none⟩) 1 ck) := hS23.2.2.2.1.cell 2
  have v0 : w23.cell? ⟨gw, 0, none⟩ = some (.int .i64 2) := hS23.2.2.2.2.2.1.cell 0
  have v1 : w23.cell? ⟨gw, 1, none⟩ = some (.int .u8 1) := hS23.2.2.2.2.2.1.cell 1
  have v2 : w23.cell? ⟨gw, 2, none⟩ = some (.slice (some ⟨gr, 0, none⟩) 2 2) := hS23.2.2.2.2.2.1.cell 2
  go_wp2_with fail
  refine (rsame_any 2 1 A3 n3 c3 e3 2 1 (some ⟨gr, 0, none⟩) 2 2 e3 _ hQ23.2.2.2.2.2.1 hS23.2.2.2.2.2.2.1).mono ?_
  rintro e w24 ⟨rfl, hbw⟩
  rw [ex9_same]
  clear p0 p1 p2 m0 m1 m2 k0 k1 k2 v0 v1 v2
  have hQ24 := hQ23.below hbw
  have hS24 := hS23.below hbw
  have hb24 := Below_trans' hb23 hb23.size hbw
  clear hQ23 hS23 hb23 hbw
  have p0 : w24.cell? ⟨g, 0, none⟩ = some (.int .i64 2) := hQ24.1.cell 0
  have p1 : w24.cell? ⟨g, 1, none⟩ = some (.int .u8 1) := hQ24.1.cell 1
  have p2 : w24.cell? ⟨g, 2, none⟩ = some (.slice A3 n3 c3) := hQ24.1.cell 2
  have m0 : w24.cell? ⟨gm, 0, none⟩ = some (.int .i64 2) := hS24.1.cell 0
  have m1 : w24.cell? ⟨gm, 1, none⟩ = some (.int .u8 1) := hS24.1.cell 1
  have m2 : w24.cell? ⟨gm, 2, none⟩ = some (.slice Am nm cm) := hS24.1.cell 2
  have k0 : w24.cell? ⟨gk, 0, none⟩ = some (.int .i64 2) := hS24.2.2.2.1.cell 0
  have k1 : w24.cell? ⟨gk, 1, none⟩ = some (.int .u8 1) := hS24.2.2.2.1.cell 1
  have k2 : w24.cell? ⟨gk, 2, none⟩ = some (.slice (some ⟨b, off, none⟩) 1 ck) := hS24.2.2.2.1.cell 2
  have v0 : w24.cell? ⟨gw, 0, none⟩ = some (.int .i64 2) := hS24.2.2.2.2.2.1.cell 0
  have v1 : w24.cell? ⟨gw, 1, none⟩ = some (.int .u8 1) := hS24.2.2.2.2.2.1.cell 1
  have v2 : w24.cell? ⟨gw, 2, none⟩ = some (.slice (some ⟨gr, 0, none⟩) 2 2) := hS24.2.2.2.2.2.1.cell 2
  go_wp2_with fail
  refine (psame_any 2 1 Am nm cm e3 2 1 A3 n3 c3 e3 _ hS24.2.1 hQ24.2.2.2.2.2.1).mono ?_
  rintro e w25 ⟨rfl, hbw⟩
  rw [ex9_same]
  clear p0 p1 p2 m0 m1 m2 k0 k1 k2 v0 v1 v2
  have hQ25 := hQ24.below hbw
  have hS25 := hS24.below hbw
  have hb25 := Below_trans' hb24 hb24.size hbw
  clear hQ24 hS24 hb24 hbw
  have p0 : w25.cell? ⟨g, 0, none⟩ = some (.int .i64 2) := hQ25.1.cell 0
  have p1 : w25.cell? ⟨g, 1, none⟩ = some (.int .u8 1) := hQ25.1.cell 1
  have p2 : w25.cell? ⟨g, 2, none⟩ = some (.slice A3 n3 c3) := hQ25.1.cell 2
  have m0 : w25.cell? ⟨gm, 0, none⟩ = some (.int .i64 2) := hS25.1.cell 0
  have m1 : w25.cell? ⟨gm, 1, none⟩ = some (.int .u8 1) := hS25.1.cell 1
  have m2 : w25.cell? ⟨gm, 2, none⟩ = some (.slice Am nm cm) := hS25.1.cell 2
  have k0 : w25.cell? ⟨gk, 0, none⟩ = some (.int .i64 2) := hS25.2.2.2.1.cell 0
  have k1 : w25.cell? ⟨gk, 1, none⟩ = some (.int .u8 1) := hS25.2.2.2.1.cell 1
  have k2 : w25.cell? ⟨gk, 2, none⟩ = some (.slice (some ⟨b, off, none⟩) 1 ck) := hS25.2.2.2.1.cell 2
  have v0 : w25.cell? ⟨gw, 0, none⟩ = some (.int .i64 2) := hS25.2.2.2.2.2.1.cell 0
  have v1 : w25.cell? ⟨gw, 1, none⟩ = some (.int .u8 1) := hS25.2.2.2.2.2.1.cell 1
  have v2 : w25.cell? ⟨gw, 2, none⟩ = some (.slice (some ⟨gr, 0, none⟩) 2 2) := hS25.2.2.2.2.2.1.cell 2
  go_wp2_with fail
  refine (psame_any 2 1 (some ⟨b, off, none⟩) 1 ck [([1], 6)] 2 1 A3 n3 c3 e3 _ hS25.2.2.2.2.1 hQ25.2.2.2.2.2.1).mono ?_
  rintro e w26 ⟨rfl, hbw⟩
  rw [ex9_less]
  clear p0 p1 p2 m0 m1 m2 k0 k1 k2 v0 v1 v2
  have hQ26 := hQ25.below hbw
  have hS26 := hS25.below hbw
  have hb26 := Below_trans' hb25 hb25.size hbw
  clear hQ25 hS25 hb25 hbw
  have p0 : w26.cell? ⟨g, 0, none⟩ = some (.int .i64 2) := hQ26.1.cell 0
  have p1 : w26.cell? ⟨g, 1, none⟩ = some (.int .u8 1) := hQ26.1.cell 1
  have p2 : w26.cell? ⟨g, 2, none⟩ = some (.slice A3 n3 c3) := hQ26.1.cell 2
  have m0 : w26.cell? ⟨gm, 0, none⟩ = some (.int .i64 2) := hS26.1.cell 0
  have m1 : w26.cell? ⟨gm, 1, none⟩ = some (.int .u8 1) := hS26.1.cell 1
  have m2 : w26.cell? ⟨gm, 2, none⟩ = some (.slice Am nm cm) := hS26.1.cell 2
  have k0 : w26.cell? ⟨gk, 0, none⟩ = some (.int .i64 2) := hS26.2.2.2.1.cell 0
  have k1 : w26.cell? ⟨gk, 1, none⟩ = some (.int .u8 1) := hS26.2.2.2.1.cell 1
  have k2 : w26.cell? ⟨gk, 2, none⟩ = some (.slice (some ⟨b, off, none⟩) 1 ck) := hS26.2.2.2.1.cell 2
  have v0 : w26.cell? ⟨gw, 0, none⟩ = some (.int .i64 2) := hS26.2.2.2.2.2.1.cell 0
  have v1 : w26.cell? ⟨gw, 1, none⟩ = some (.int .u8 1) := hS26.2.2.2.2.2.1.cell 1
  have v2 : w26.cell? ⟨gw, 2, none⟩ = some (.slice (some ⟨gr, 0, none⟩) 2 2) := hS26.2.2.2.2.2.1.cell 2
  go_wp2_with fail
  refine (pcheck_any 2 1 A3 n3 c3 e3 _ hQ26.2.2.2.2.2.1).mono ?_
  rintro e w27 ⟨rfl, hbw⟩
  rw [ex9_chk]
  clear p0 p1 p2 m0 m1 m2 k0 k1 k2 v0 v1 v2
  have hb27 := Below_trans' hb26 hb26.size hbw
  clear hQ26 hS26 hb26 hbw
  go_wp2_with fail
  refine (pcheck_any 0 0 none 0 0 [] _ (RRows.nil_ _)).mono ?_
  rintro e w28 ⟨rfl, hbw⟩
  rw [ex9_chk0]
  have hb28 := Below_trans' hb27 hb27.size hbw
  clear hb27 hbw
  have hmk := ex9_mk
  go_wp2_with fail
  have hbw5 : Below w28.heap.size w28 (w28.alloc (.cells (Builtin.zeroCells #[.slice none 0 0, .int .i64 0] 65) 47)) := (Below.refl _ _).alloc (Nat.le_refl _) _
  refine (pcheck_any 0 0 _ 65 65 (List.replicate 65 ([], 0)) _ (rows65 (Has.new w28 47 _))).mono ?_
  rintro e w29 ⟨rfl, hbw⟩
  rw [ex9_full _ (by simp)]
  have hb29 := Below_trans' hb28 hb28.size (Below_trans' hbw5 hbw5.size hbw)
  clear hmk hbw5 hb28 hbw
  go_wp2
  go_ret
  exact ⟨rfl, hb29⟩
end Go.Proofs.YtleniljhacnikaaGreat
