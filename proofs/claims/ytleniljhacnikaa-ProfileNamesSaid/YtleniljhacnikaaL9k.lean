/-
  The law ProfileKept.
-/
import Derived.Test.YtleniljhacnikaaW9z
import Derived.Test.YtleniljhacnikaaSpecF
namespace Go.Proofs.Ytleniljhacnikaa
open Go.RowKit Go.Proofs
attribute [local go_sem] cell?_more cell?_alloc_some cell?_setCell_far frozen?_alloc_some frozen?_more

theorem info4 : (Try.prog.info? 4).map (fun i => (i.zero, i.size, i.bytes)) = some (some (.bool false), 1, 1) := by kernel_rfl
/-- The slice value v owns the truth values bs, in a block from base on. -/
def OwnB (w : World) (base : Nat) (v : Value) (bs : List Bool) : Prop := w.ownsRow base 4 1 v bs.length (bs.map Value.bool)
theorem OwnB.bools {w : World} {base : Nat} {A : Option Addr} {n c : Nat} {bs : List Bool} (h : OwnB w base (.slice A n c) bs) : RBools w A n c bs := by
  obtain ⟨h1, h2⟩ := h
  rcases h2 with ⟨e, h0⟩ | ⟨g, cap, cur, e, _, hg, hnc, hcm, hcs, ht⟩
  · cases e
    exact ⟨h0, Nat.le_refl _, by omega, fun h => absurd h (by omega)⟩
  · cases e
    refine ⟨rfl, hnc, hcm, fun _ => ⟨g, 0, rfl, fun i hi => ?_⟩⟩
    rw [Nat.zero_add, cell_of_row w g i cur 4 (0, 0) hg, ← Array.getElem?_toList]
    have h3 : (cur.toList.take (bs.length * 1))[i]? = (bs.map Value.bool)[i]? := by rw [ht]
    rw [List.getElem?_take_of_lt (by omega)] at h3
    rw [h3]
    simp [List.getD, hi]
theorem OwnB.set {w : World} {B g n c : Nat} {bs : List Bool} (h : OwnB w B (.slice (some ⟨g, 0, none⟩) n c) bs) (hl : bs.length = n) (i : Nat) (b : Bool) : OwnB (w.setCell ⟨g, i, none⟩ (.bool b)) B (.slice (some ⟨g, 0, none⟩) n c) (bs.set i b) := by
  unfold OwnB at *
  rw [hl] at h
  rw [List.length_set, hl, List.map_set]
  exact (h.stored i _).1
theorem OwnB.at {w : World} {B g n c : Nat} {bs : List Bool} (h : OwnB w B (.slice (some ⟨g, 0, none⟩) n c) bs) (hl : bs.length = n) {i : Nat} (hi : i < n) : ∃ u, w.cell? ⟨g, i, none⟩ = some (.bool u) ∧ w.frozen? ⟨g, i, none⟩ = false := by
  unfold OwnB at h
  rw [hl] at h
  refine ⟨bs[i]'(by omega), ?_, h.frozenAt i⟩
  rw [h.cellAt i (by omega), List.getElem?_map, List.getElem?_eq_getElem (by omega)]; rfl
theorem RBools.step {w : World} {A : Option Addr} {n c t : Nat} {bs : List Bool} (h : RBools w A n c bs) (ht : t < n) : ∃ b off, A = some ⟨b, off, none⟩ ∧ w.cell? ⟨b, off + t, none⟩ = some (.bool (bs.getD t false)) := by
  obtain ⟨b, off, e, hc⟩ := h.2.2.2 (by omega)
  exact ⟨b, off, e, hc t ht⟩
theorem RBools.len {w : World} {A : Option Addr} {n c : Nat} {bs : List Bool} (h : RBools w A n c bs) : bs.length = n := h.1
theorem OwnB.made (w : World) (B n : Nat) (hB : B ≤ w.heap.size) (hn : n ≤ 1000000) : OwnB (w.alloc (.cells (madeCells #[.bool false] n) 4)) B (.slice (some ⟨w.heap.size, 0, none⟩) n n) (List.replicate n false) := by
  unfold OwnB
  have := World.ownsRow_lit (base := B) (e := 4) (size := 1) w (madeCells #[.bool false] n) n hB (by unfold maxLen; omega) (by rw [size_madeCells]; simp)
  rw [toList_madeCells_one] at this
  simpa using this

/-- The first t of n set. -/
def allB (n t : Nat) : List Bool := (List.range n).map fun i : Nat => decide (i < t)
theorem length_allB (n t : Nat) : (allB n t).length = n := by simp [allB]
theorem allB_zero (n : Nat) : allB n 0 = List.replicate n false := by
  unfold allB
  apply List.ext_getElem?
  intro i
  rw [List.getElem?_map, List.getElem?_replicate]
  by_cases h : i < n
  · rw [List.getElem?_range h, if_pos h]; simp
  · rw [List.getElem?_eq_none (by simpa using h), if_neg h]; rfl
theorem allB_end (n : Nat) : allB n n = List.replicate n true := by
  unfold allB
  apply List.ext_getElem?
  intro i
  rw [List.getElem?_map, List.getElem?_replicate]
  by_cases h : i < n
  · rw [List.getElem?_range h, if_pos h]; simp [h]
  · rw [List.getElem?_eq_none (by simpa using h), if_neg h]; rfl
theorem allB_succ {n t : Nat} (ht : t < n) : allB n (t + 1) = (allB n t).set t true := by
  apply List.ext_getElem?
  intro i
  by_cases h : i = t
  · subst h
    rw [List.getElem?_set_self (by rw [length_allB]; exact ht)]
    unfold allB
    rw [List.getElem?_map, List.getElem?_range ht]
    simp
  · rw [List.getElem?_set_ne (Ne.symm h)]
    unfold allB
    rw [List.getElem?_map, List.getElem?_map]
    by_cases hi : i < n
    · rw [List.getElem?_range hi]
      simp only [Option.map_some]
      by_cases e : i < t
      · simp [e, show i < t + 1 by omega]
      · simp [e, show ¬ i < t + 1 by omega]
    · rw [List.getElem?_eq_none (by simpa using hi)]; rfl

theorem kept_law {c k : Int} {C : Nat} {l : List Row} {one two both : List Bool} (h : checkS c k l = 0) (hC : c = C) (hb : ∀ x, isS both x = (isS one x && isS two x)) :
    ∃ La Lb T, turnP (fun ms => keptS k ms one) c k l = ⟨0, c, k, La⟩ ∧ turnP (fun ms => keptS k ms two) c k La = ⟨0, c, k, Lb⟩ ∧ turnP (fun ms => keptS k ms both) c k l = ⟨0, c, k, Lb⟩ ∧
      turnP (fun ms => keptS k ms (List.replicate C true)) c k l = ⟨0, c, k, l⟩ ∧ cntV c k l anyRow = T ∧ cntV c k Lb anyRow = T ∧ checkS c k Lb = 0 := by
  have ha := kept_check' one h
  have hb2 := kept_check' two ha
  obtain ⟨h1, h2, h3, h4, h5, h6, h7, h8, h9⟩ := check_iff.1 h
  have he : eachS (fun ms => keptS k ms two) (eachS (fun ms => keptS k ms one) l) = eachS (fun ms => keptS k ms both) l := by
    rw [each_each _ _ h8]
    exact each_congr fun r _ => kept_kept k r.1 hb
  refine ⟨eachS (fun ms => keptS k ms one) l, eachS (fun ms => keptS k ms two) (eachS (fun ms => keptS k ms one) l), totS l, ?_, ?_, ?_, ?_, ?_, ?_, hb2⟩
  · unfold turnP; rw [if_pos h]
  · unfold turnP; rw [if_pos ha]
  · unfold turnP; rw [if_pos h, he]
  · unfold turnP; rw [if_pos h, each_same h7 h8 (fun r hr => kept_all (by rw [← hC]; exact h9 r hr))]
  · unfold cntV; rw [if_pos h, cntP_any]
  · unfold cntV; rw [if_pos hb2, cntP_any, tot_each, tot_each]


set_option maxRecDepth 100000 in
set_option maxHeartbeats 8000000 in
theorem profileKept_any (c k : Int) (A : Option Addr) (n cp : Nat) (l : List Row) (A1 : Option Addr) (n1 c1 : Nat) (one : List Bool) (A2 : Option Addr) (n2 c2 : Nat) (two : List Bool) (w : World) (h : RRows w A n cp l) (h1 : RBools w A1 n1 c1 one) (h2 : RBools w A2 n2 c2 two) :
    Calls Try.prog 6 #[.agg #[.int .i64 c, .int .u8 k, .slice A n cp], .slice A1 n1 c1, .slice A2 n2 c2] w fun e w' => e = .returned (.bool true) ∧ Below w.heap.size w w' := by
  have hl1 := hide h1.len
  have hl2 := hide h2.len
  have hP0 : Has (w.alloc (.cells #[.int .i64 c, .int .u8 k, .slice A n cp] 24)) w.heap.size 24 #[.int .i64 c, .int .u8 k, .slice A n cp] := Has.new _ _ _
  have hb0 : Below w.heap.size w (w.alloc (.cells #[.int .i64 c, .int .u8 k, .slice A n cp] 24)) := (Below.refl _ _).alloc (Nat.le_refl _) _
  go_enter Try.func6, Try.ntmps6
  go_wp2_with fail
  refine (rcheck_any _ _ A n cp l _ (h.below hb0)).mono ?_
  rintro e w1 ⟨rfl, hbw⟩
  have hP1 := hP0.below hbw hP0.lt
  have hb1 := Below_trans' hb0 hb0.size hbw
  clear hP0 hb0 hbw
  by_cases herr : checkS c k l = 0
  · rw [herr]
    have H1 := hide herr
    obtain ⟨C, rfl, hC1, hC10⟩ : ∃ C : Nat, c = C ∧ 1 ≤ C ∧ C ≤ 10 := by
      obtain ⟨_, q1, q2, _⟩ := check_iff.1 herr
      exact ⟨c.toNat, by omega, by omega, by omega⟩
    clear herr
    by_cases hn1 : 60 < n1
    · have q1 : (60 : Int) < (n1 : Int) := by omega
      go_wp2_with fail
      refine (wakes9_any _).mono ?_
      rintro e w9 ⟨rfl, hbw⟩
      go_wp2
      go_ret
      exact ⟨rfl, Below_trans' hb1 hb1.size hbw⟩
    · have q1 : ¬ (60 : Int) < (n1 : Int) := by omega
      by_cases hn2 : 60 < n2
      · have q2 : (60 : Int) < (n2 : Int) := by omega
        go_wp2_with fail
        refine (wakes9_any _).mono ?_
        rintro e w9 ⟨rfl, hbw⟩
        go_wp2
        go_ret
        exact ⟨rfl, Below_trans' hb1 hb1.size hbw⟩
      · have q2 : ¬ (60 : Int) < (n2 : Int) := by omega
        by_cases hm : (n2 : Int) < (n1 : Int)
        · have hmk := run_make_row' (P := Try.prog) 52 4 (.bool false) 1 Try.underlying52 info4 rfl .i64 .i64 n2 (by omega) (by omega)
          have hmin : Hid (min one.length two.length = n2) := by unfold Hid; rw [hl1.out, hl2.out]; omega
          have hu2 : Below w1.heap.size w1 (w1.alloc (.cells (madeCells #[.bool false] n2) 4)) := (Below.refl _ _).alloc (Nat.le_refl _) _
          have hO2 : OwnB (w1.alloc (.cells (madeCells #[.bool false] n2) 4)) (w.heap.size + 1) (.slice (some ⟨w1.heap.size, 0, none⟩) n2 n2) (bothB one two 0) := by
            rw [bothB_zero, hmin.out]
            exact OwnB.made w1 _ n2 hP1.lt (by omega)
          go_upto_region 4 with fail
          have hP2 := hP1.below hu2 hP1.lt
          have hb2 := Below_trans' hb1 hb1.size hu2
          have hga : w.heap.size + 1 ≤ w1.heap.size := hP1.lt
          generalize hW : World.alloc _ _ = W2 at hP2 hb2 hO2
          try rw [hW]
          clear hW hu2 hP1 hb1 hmk
          generalize w1.heap.size = ga at hga hO2
          go_wp2_with fail
          go_loopw [8] (fun i wr => ∃ (t : Nat), t ≤ n2 ∧ i = .int .i64 t ∧ Hid (OwnB wr (w.heap.size + 1) (.slice (some ⟨ga, 0, none⟩) n2 n2) (bothB one two t)) ∧ Hid (Frame' (fun b => b = ga) W2 wr)) (fun i _ => n2 - (intOf i).toNat)
          case atStart => exact ⟨0, Nat.zero_le _, rfl, hO2, Frame'.refl _ _⟩
          case round =>
            obtain ⟨t, ht, rfl, hO, hF⟩ := hrel
            have hbr := Frame'.below hb2 hF.out (fun k e => by have e : k = ga := e; omega) hb2.size
            by_cases hlt : t < n2
            · obtain ⟨b1, off1, rfl, hc1⟩ := (h1.below hbr).step (t := t) (by omega)
              obtain ⟨b2, off2, rfl, hc2⟩ := (h2.below hbr).step (t := t) (by omega)
              have hyl : Hid ((bothB one two t).length = n2) := by unfold Hid; rw [length_bothB, hmin.out]
              obtain ⟨u, cu, fu⟩ := hO.out.at hyl.out hlt
              have hnext : Hid (bothB one two (t + 1) = (bothB one two t).set t (one.getD t false && two.getD t false)) := bothB_succ (by rw [hmin.out]; exact hlt)
              have i1 : (0 : Int) ≤ (t : Int) := by omega
              have i2 : (t : Int) < (n1 : Int) := by omega
              have i3 : (t : Int) < (n2 : Int) := by omega
              have hO7 := OwnB.set hO.out hyl.out t (one.getD t false && two.getD t false)
              have hF7 := Frame'.setCell (p := ⟨ga, t, none⟩) hF.out (.inl rfl) (.bool (one.getD t false && two.getD t false))
              rw [← hnext.out] at hO7
              clear hbr hO hF hnext
              generalize one.getD t false = x1 at hc1 hO7 hF7
              generalize two.getD t false = x2 at hc2 hO7 hF7
              cases x1
              all_goals
                go_wp2
                go_roundw
                case rel => exact ⟨t + 1, by omega, by go_num, by first | exact hO7 | simpa using hO7, by first | exact hF7 | simpa using hF7⟩
                case measure => simp [intOf] <;> omega
            · have htn : t = n2 := by omega
              subst htn
              have hbo := hO.out.bools
              have hP3 := hF.out.has hP2 (fun e => absurd (show _ = _ from e) (by omega))
              have hb3 := hbr
              have hisb := hide (fun x => isS_both one two x)
              rw [hmin.out] at hisb
              generalize bothB one two t = both at hbo hisb
              clear hO hF hbr hP2 hb2 hO2 hlt
              have p0 : wr.cell? ⟨w.heap.size, 0, none⟩ = some (.int .i64 C) := (hP3).cell 0
              have p1 : wr.cell? ⟨w.heap.size, 1, none⟩ = some (.int .u8 k) := (hP3).cell 1
              have p2 : wr.cell? ⟨w.heap.size, 2, none⟩ = some (.slice A n cp) := (hP3).cell 2
              have b2 : ¬ (t : Int) < (t : Int) := by omega
              have hmk := run_make_row' (P := Try.prog) 52 4 (.bool false) 1 Try.underlying52 info4 rfl .i64 .i64 C (by omega) (by omega)
              have hu2 : Below wr.heap.size wr (wr.alloc (.cells (madeCells #[.bool false] C) 4)) := (Below.refl _ _).alloc (Nat.le_refl _) _
              have hO2 : OwnB (wr.alloc (.cells (madeCells #[.bool false] C) 4)) (w.heap.size + 1) (.slice (some ⟨wr.heap.size, 0, none⟩) C C) (allB C 0) := by
                rw [allB_zero]
                exact OwnB.made wr _ C hP3.lt (by omega)
              go_upto_region 9 with fail
              have hP4 := hP3.below hu2 hP3.lt
              have hb4 := Below_trans' hb3 hb3.size hu2
              have hbo4 : RBools (wr.alloc (.cells (madeCells #[.bool false] C) 4)) (some ⟨ga, 0, none⟩) t t both := hbo.below hu2
              have hgc : w.heap.size + 1 ≤ wr.heap.size := hP3.lt
              have hgl : ga < wr.heap.size ∨ t = 0 := by
                by_cases h0 : 0 < t
                · obtain ⟨b5, off5, e5, hc5⟩ := hbo.2.2.2 h0
                  cases e5
                  exact .inl (World.block_lt_of_cell? wr _ (hc5 0 h0))
                · exact .inr (by omega)
              generalize hW : World.alloc wr _ = W4 at hP4 hb4 hO2 hbo4
              try rw [hW]
              clear hW hu2 hP3 hb3 hmk p0 p1 p2 hbo
              generalize wr.heap.size = gc at hgc hgl hO2
              go_wp2_with fail
              go_loopw [10] (fun i wr => ∃ (s : Nat), s ≤ C ∧ i = .int .i64 s ∧ Hid (OwnB wr (w.heap.size + 1) (.slice (some ⟨gc, 0, none⟩) C C) (allB C s)) ∧ Hid (Frame' (fun b => b = gc) W4 wr)) (fun i _ => C - (intOf i).toNat)
              case atStart => exact ⟨0, Nat.zero_le _, rfl, hO2, Frame'.refl _ _⟩
              case round =>
                obtain ⟨s, hs, rfl, hO, hF⟩ := hrel
                by_cases hlt : s < C
                · have hyl : Hid ((allB C s).length = C) := length_allB C s
                  obtain ⟨u, cu, fu⟩ := hO.out.at hyl.out hlt
                  have hnext : Hid (allB C (s + 1) = (allB C s).set s true) := allB_succ hlt
                  have i1 : (0 : Int) ≤ (s : Int) := by omega
                  have i2 : (s : Int) < (C : Int) := by omega
                  have hO7 := OwnB.set hO.out hyl.out s true
                  have hF7 := Frame'.setCell (p := ⟨gc, s, none⟩) hF.out (.inl rfl) (.bool true)
                  rw [← hnext.out] at hO7
                  clear hO hF hnext
                  go_wp2
                  go_roundw
                  case rel => exact ⟨s + 1, by omega, by go_num, hO7, hF7⟩
                  case measure => simp [intOf] <;> omega
                · have hsn : s = C := by omega
                  subst hsn
                  have hal := hO.out.bools
                  rw [allB_end] at hal
                  have hb0 := Frame'.below hb4 hF.out (fun k e => by have e : k = gc := e; omega) hb4.size
                  have hP5 := hF.out.has hP4 (fun e => absurd (show _ = _ from e) (by omega))
                  have hbo5 : RBools wr (some ⟨ga, 0, none⟩) t t both := by
                    refine ⟨hbo4.1, hbo4.2.1, hbo4.2.2.1, fun hn => ?_⟩
                    obtain ⟨b5, off5, e5, hc5⟩ := hbo4.2.2.2 hn
                    refine ⟨b5, off5, e5, fun i hi => ?_⟩
                    cases e5
                    have hgn : ga ≠ gc := by omega
                    rw [World.cell?_of_block (w := W4) (hF.out.block ga (World.block_lt_of_cell? W4 _ (hc5 i hi)) (fun e => hgn e))]
                    exact hc5 i hi
                  obtain ⟨La, Lb, T, tA, tB, tC, tD, tN, tM, tK⟩ := kept_law (k := k) (l := l) (one := one) (two := two) (both := both) (C := s) H1.out rfl hisb.out
                  have TA := hide tA
                  have TB := hide tB
                  have TC := hide tC
                  have TD := hide tD
                  have TN := hide tN
                  have TM := hide tM
                  have TK := hide tK
                  clear tA tB tC tD tN tM tK
                  have hQ0 : Fs wr [fHas w.heap.size 24 #[.int .i64 (s : Int), .int .u8 k, .slice A n cp], fBools (some ⟨ga, 0, none⟩) t t both, fBools (some ⟨gc, 0, none⟩) s s (List.replicate s true)] := ⟨hP5, hbo5, hal, trivial⟩
                  have hS0 := Fs.nil wr
                  obtain ⟨w0, hw0⟩ : ∃ w0, w0 = wr := ⟨_, rfl⟩
                  subst hw0
                  have b2 : ¬ (s : Int) < (s : Int) := by omega
                  clear hO hF hP4 hb4 hO2 hbo4 hP5 hbo5 hal hlt hs ht hgl hgc hga
                  have p0 : w0.cell? ⟨w.heap.size, 0, none⟩ = some (.int .i64 (s : Int)) := (hQ0.1).cell 0
                  have p1 : w0.cell? ⟨w.heap.size, 1, none⟩ = some (.int .u8 k) := (hQ0.1).cell 1
                  have p2 : w0.cell? ⟨w.heap.size, 2, none⟩ = some (.slice A n cp) := (hQ0.1).cell 2
                  go_wp2_with fail
                  refine (pkeep_any s k A n cp l _ _ _ one _ (h.below hb0) (h1.below hb0)).mono ?_
                  rintro e w1 ⟨Aa, na, ca, rfl, hOk, hbw⟩
                  rw [(TA).out] at hOk ⊢
                  simp only at hOk ⊢
                  clear p0 p1 p2
                  have hQ1 := hQ0.below hbw
                  have hS1 := hS0.below hbw
                  have hb1 := Below_trans' hb0 hb0.size hbw
                  clear hQ0 hS0 hb0 hbw
                  replace hS1 := hS1.rows hOk.rows
                  clear hOk
                  go_upto_region 14 with fail
                  have hbw : Below w1.heap.size w1 (w1.alloc (.cells #[.int .i64 (s : Int), .int .u8 k, .slice Aa na ca] 24)) := (Below.refl _ _).alloc (Nat.le_refl _) _
                  have hN := Has.new w1 24 #[.int .i64 (s : Int), .int .u8 k, .slice Aa na ca]
                  have hQ2 := hQ1.below hbw
                  have hS2 := (hS1.below hbw).has hN
                  have hb2 := Below_trans' hb1 hb1.size hbw
                  clear hQ1 hS1 hb1 hN hbw
                  generalize hW : World.alloc w1 _ = w2 at hQ2 hS2 hb2
                  try rw [hW]
                  clear hW
                  generalize w1.heap.size = va at hS2 ⊢
                  have p0 : w2.cell? ⟨va, 0, none⟩ = some (.int .i64 (s : Int)) := (hS2.1).cell 0
                  have p1 : w2.cell? ⟨va, 1, none⟩ = some (.int .u8 k) := (hS2.1).cell 1
                  have p2 : w2.cell? ⟨va, 2, none⟩ = some (.slice Aa na ca) := (hS2.1).cell 2
                  go_wp2_with fail
                  refine (pkeep_any s k Aa na ca La _ _ _ two _ (hS2.2.1) (h2.below hb2)).mono ?_
                  rintro e w3 ⟨Ab, nb, cb, rfl, hOk, hbw⟩
                  rw [(TB).out] at hOk ⊢
                  simp only at hOk ⊢
                  clear p0 p1 p2
                  have hQ3 := hQ2.below hbw
                  have hS3 := hS2.below hbw
                  have hb3 := Below_trans' hb2 hb2.size hbw
                  clear hQ2 hS2 hb2 hbw
                  replace hS3 := hS3.rows hOk.rows
                  clear hOk
                  go_upto_region 15 with fail
                  have hbw : Below w3.heap.size w3 (w3.alloc (.cells #[.int .i64 (s : Int), .int .u8 k, .slice Ab nb cb] 24)) := (Below.refl _ _).alloc (Nat.le_refl _) _
                  have hN := Has.new w3 24 #[.int .i64 (s : Int), .int .u8 k, .slice Ab nb cb]
                  have hQ4 := hQ3.below hbw
                  have hS4 := (hS3.below hbw).has hN
                  have hb4 := Below_trans' hb3 hb3.size hbw
                  clear hQ3 hS3 hb3 hN hbw
                  generalize hW : World.alloc w3 _ = w4 at hQ4 hS4 hb4
                  try rw [hW]
                  clear hW
                  generalize w3.heap.size = vb at hS4 ⊢
                  have p0 : w4.cell? ⟨w.heap.size, 0, none⟩ = some (.int .i64 (s : Int)) := (hQ4.1).cell 0
                  have p1 : w4.cell? ⟨w.heap.size, 1, none⟩ = some (.int .u8 k) := (hQ4.1).cell 1
                  have p2 : w4.cell? ⟨w.heap.size, 2, none⟩ = some (.slice A n cp) := (hQ4.1).cell 2
                  go_wp2_with fail
                  refine (pkeep_any s k A n cp l _ _ _ both _ (h.below hb4) (hQ4.2.1)).mono ?_
                  rintro e w5 ⟨Ac, nc, cc, rfl, hOk, hbw⟩
                  rw [(TC).out] at hOk ⊢
                  simp only at hOk ⊢
                  clear p0 p1 p2
                  have hQ5 := hQ4.below hbw
                  have hS5 := hS4.below hbw
                  have hb5 := Below_trans' hb4 hb4.size hbw
                  clear hQ4 hS4 hb4 hbw
                  replace hS5 := hS5.rows hOk.rows
                  clear hOk
                  go_upto_region 16 with fail
                  have hbw : Below w5.heap.size w5 (w5.alloc (.cells #[.int .i64 (s : Int), .int .u8 k, .slice Ac nc cc] 24)) := (Below.refl _ _).alloc (Nat.le_refl _) _
                  have hN := Has.new w5 24 #[.int .i64 (s : Int), .int .u8 k, .slice Ac nc cc]
                  have hQ6 := hQ5.below hbw
                  have hS6 := (hS5.below hbw).has hN
                  have hb6 := Below_trans' hb5 hb5.size hbw
                  clear hQ5 hS5 hb5 hN hbw
                  generalize hW : World.alloc w5 _ = w6 at hQ6 hS6 hb6
                  try rw [hW]
                  clear hW
                  generalize w5.heap.size = vc at hS6 ⊢
                  have p0 : w6.cell? ⟨w.heap.size, 0, none⟩ = some (.int .i64 (s : Int)) := (hQ6.1).cell 0
                  have p1 : w6.cell? ⟨w.heap.size, 1, none⟩ = some (.int .u8 k) := (hQ6.1).cell 1
                  have p2 : w6.cell? ⟨w.heap.size, 2, none⟩ = some (.slice A n cp) := (hQ6.1).cell 2
                  go_wp2_with fail
                  refine (pkeep_any s k A n cp l _ _ _ (List.replicate s true) _ (h.below hb6) (hQ6.2.2.1)).mono ?_
                  rintro e w7 ⟨Ad, nd, cd, rfl, hOk, hbw⟩
                  rw [(TD).out] at hOk ⊢
                  simp only at hOk ⊢
                  clear p0 p1 p2
                  have hQ7 := hQ6.below hbw
                  have hS7 := hS6.below hbw
                  have hb7 := Below_trans' hb6 hb6.size hbw
                  clear hQ6 hS6 hb6 hbw
                  replace hS7 := hS7.rows hOk.rows
                  clear hOk
                  go_upto_region 17 with fail
                  have hbw : Below w7.heap.size w7 (w7.alloc (.cells #[.int .i64 (s : Int), .int .u8 k, .slice Ad nd cd] 24)) := (Below.refl _ _).alloc (Nat.le_refl _) _
                  have hN := Has.new w7 24 #[.int .i64 (s : Int), .int .u8 k, .slice Ad nd cd]
                  have hQ8 := hQ7.below hbw
                  have hS8 := (hS7.below hbw).has hN
                  have hb8 := Below_trans' hb7 hb7.size hbw
                  clear hQ7 hS7 hb7 hN hbw
                  generalize hW : World.alloc w7 _ = w8 at hQ8 hS8 hb8
                  try rw [hW]
                  clear hW
                  generalize w7.heap.size = vd at hS8 ⊢
                  have p0 : w8.cell? ⟨w.heap.size, 0, none⟩ = some (.int .i64 (s : Int)) := (hQ8.1).cell 0
                  have p1 : w8.cell? ⟨w.heap.size, 1, none⟩ = some (.int .u8 k) := (hQ8.1).cell 1
                  have p2 : w8.cell? ⟨w.heap.size, 2, none⟩ = some (.slice A n cp) := (hQ8.1).cell 2
                  go_wp2_with fail
                  refine (many_any s k A n cp l _ (h.below hb8)).mono ?_
                  rintro e w9 ⟨rfl, hbw⟩
                  rw [TN.out, H1.out]
                  clear p0 p1 p2
                  have hQ9 := hQ8.below hbw
                  have hS9 := hS8.below hbw
                  have hb9 := Below_trans' hb8 hb8.size hbw
                  clear hQ8 hS8 hb8 hbw
                  go_upto_region 18 with fail
                  have p0 : w9.cell? ⟨vb, 0, none⟩ = some (.int .i64 (s : Int)) := (hS9.2.2.2.2.1).cell 0
                  have p1 : w9.cell? ⟨vb, 1, none⟩ = some (.int .u8 k) := (hS9.2.2.2.2.1).cell 1
                  have p2 : w9.cell? ⟨vb, 2, none⟩ = some (.slice Ab nb cb) := (hS9.2.2.2.2.1).cell 2
                  go_wp2_with fail
                  refine (many_any s k Ab nb cb Lb _ hS9.2.2.2.2.2.1).mono ?_
                  rintro e w10 ⟨rfl, hbw⟩
                  rw [TM.out, TK.out]
                  clear p0 p1 p2
                  have hQ10 := hQ9.below hbw
                  have hS10 := hS9.below hbw
                  have hb10 := Below_trans' hb9 hb9.size hbw
                  clear hQ9 hS9 hb9 hbw
                  go_upto_region 19 with fail
                  try simp only [List.append]
                  have p0 : w10.cell? ⟨vb, 0, none⟩ = some (.int .i64 (s : Int)) := (hS10.2.2.2.2.1).cell 0
                  have p1 : w10.cell? ⟨vb, 1, none⟩ = some (.int .u8 k) := (hS10.2.2.2.2.1).cell 1
                  have p2 : w10.cell? ⟨vb, 2, none⟩ = some (.slice Ab nb cb) := (hS10.2.2.2.2.1).cell 2
                  have q0 : w10.cell? ⟨vc, 0, none⟩ = some (.int .i64 (s : Int)) := (hS10.2.2.1).cell 0
                  have q1 : w10.cell? ⟨vc, 1, none⟩ = some (.int .u8 k) := (hS10.2.2.1).cell 1
                  have q2 : w10.cell? ⟨vc, 2, none⟩ = some (.slice Ac nc cc) := (hS10.2.2.1).cell 2
                  go_wp2_with fail
                  refine (rsame_any s k Ab nb cb Lb s k Ac nc cc Lb _ hS10.2.2.2.2.2.1 hS10.2.2.2.1).mono ?_
                  rintro e w11 ⟨rfl, hbw⟩
                  rw [sameB_self]
                  clear p0 p1 p2 q0 q1 q2
                  have hQ11 := hQ10.below hbw
                  have hS11 := hS10.below hbw
                  have hb11 := Below_trans' hb10 hb10.size hbw
                  clear hQ10 hS10 hb10 hbw
                  have p0 : w11.cell? ⟨vd, 0, none⟩ = some (.int .i64 (s : Int)) := (hS11.1).cell 0
                  have p1 : w11.cell? ⟨vd, 1, none⟩ = some (.int .u8 k) := (hS11.1).cell 1
                  have p2 : w11.cell? ⟨vd, 2, none⟩ = some (.slice Ad nd cd) := (hS11.1).cell 2
                  have q0 : w11.cell? ⟨w.heap.size, 0, none⟩ = some (.int .i64 (s : Int)) := (hQ11.1).cell 0
                  have q1 : w11.cell? ⟨w.heap.size, 1, none⟩ = some (.int .u8 k) := (hQ11.1).cell 1
                  have q2 : w11.cell? ⟨w.heap.size, 2, none⟩ = some (.slice A n cp) := (hQ11.1).cell 2
                  go_wp2_with fail
                  refine (rsame_any s k Ad nd cd l s k A n cp l _ hS11.2.1 (h.below hb11)).mono ?_
                  rintro e w12 ⟨rfl, hbw⟩
                  rw [sameB_self]
                  clear p0 p1 p2 q0 q1 q2
                  have hQ12 := hQ11.below hbw
                  have hS12 := hS11.below hbw
                  have hb12 := Below_trans' hb11 hb11.size hbw
                  clear hQ11 hS11 hb11 hbw
                  have p0 : w12.cell? ⟨vb, 0, none⟩ = some (.int .i64 (s : Int)) := (hS12.2.2.2.2.1).cell 0
                  have p1 : w12.cell? ⟨vb, 1, none⟩ = some (.int .u8 k) := (hS12.2.2.2.2.1).cell 1
                  have p2 : w12.cell? ⟨vb, 2, none⟩ = some (.slice Ab nb cb) := (hS12.2.2.2.2.1).cell 2
                  go_wp2_with fail
                  refine (pcheck_any s k Ab nb cb Lb _ hS12.2.2.2.2.2.1).mono ?_
                  rintro e w13 ⟨rfl, hbw⟩
                  rw [TK.out]
                  clear p0 p1 p2
                  have hb13 := Below_trans' hb12 hb12.size hbw
                  clear hQ12 hS12 hb12 hbw
                  go_wp2_with fail
                  refine (wakes9_any _).mono ?_
                  rintro e w9 ⟨rfl, hbw⟩
                  go_wp2
                  go_ret
                  exact ⟨rfl, Below_trans' hb13 hb13.size hbw⟩
        · have hmk := run_make_row' (P := Try.prog) 52 4 (.bool false) 1 Try.underlying52 info4 rfl .i64 .i64 n1 (by omega) (by omega)
          have hmin : Hid (min one.length two.length = n1) := by unfold Hid; rw [hl1.out, hl2.out]; omega
          have hu2 : Below w1.heap.size w1 (w1.alloc (.cells (madeCells #[.bool false] n1) 4)) := (Below.refl _ _).alloc (Nat.le_refl _) _
          have hO2 : OwnB (w1.alloc (.cells (madeCells #[.bool false] n1) 4)) (w.heap.size + 1) (.slice (some ⟨w1.heap.size, 0, none⟩) n1 n1) (bothB one two 0) := by
            rw [bothB_zero, hmin.out]
            exact OwnB.made w1 _ n1 hP1.lt (by omega)
          go_upto_region 4 with fail
          have hP2 := hP1.below hu2 hP1.lt
          have hb2 := Below_trans' hb1 hb1.size hu2
          have hga : w.heap.size + 1 ≤ w1.heap.size := hP1.lt
          generalize hW : World.alloc _ _ = W2 at hP2 hb2 hO2
          try rw [hW]
          clear hW hu2 hP1 hb1 hmk
          generalize w1.heap.size = ga at hga hO2
          go_wp2_with fail
          go_loopw [8] (fun i wr => ∃ (t : Nat), t ≤ n1 ∧ i = .int .i64 t ∧ Hid (OwnB wr (w.heap.size + 1) (.slice (some ⟨ga, 0, none⟩) n1 n1) (bothB one two t)) ∧ Hid (Frame' (fun b => b = ga) W2 wr)) (fun i _ => n1 - (intOf i).toNat)
          case atStart => exact ⟨0, Nat.zero_le _, rfl, hO2, Frame'.refl _ _⟩
          case round =>
            obtain ⟨t, ht, rfl, hO, hF⟩ := hrel
            have hbr := Frame'.below hb2 hF.out (fun k e => by have e : k = ga := e; omega) hb2.size
            by_cases hlt : t < n1
            · obtain ⟨b1, off1, rfl, hc1⟩ := (h1.below hbr).step (t := t) (by omega)
              obtain ⟨b2, off2, rfl, hc2⟩ := (h2.below hbr).step (t := t) (by omega)
              have hyl : Hid ((bothB one two t).length = n1) := by unfold Hid; rw [length_bothB, hmin.out]
              obtain ⟨u, cu, fu⟩ := hO.out.at hyl.out hlt
              have hnext : Hid (bothB one two (t + 1) = (bothB one two t).set t (one.getD t false && two.getD t false)) := bothB_succ (by rw [hmin.out]; exact hlt)
              have i1 : (0 : Int) ≤ (t : Int) := by omega
              have i2 : (t : Int) < (n1 : Int) := by omega
              have i3 : (t : Int) < (n2 : Int) := by omega
              have hO7 := OwnB.set hO.out hyl.out t (one.getD t false && two.getD t false)
              have hF7 := Frame'.setCell (p := ⟨ga, t, none⟩) hF.out (.inl rfl) (.bool (one.getD t false && two.getD t false))
              rw [← hnext.out] at hO7
              clear hbr hO hF hnext
              generalize one.getD t false = x1 at hc1 hO7 hF7
              generalize two.getD t false = x2 at hc2 hO7 hF7
              cases x1
              all_goals
                go_wp2
                go_roundw
                case rel => exact ⟨t + 1, by omega, by go_num, by first | exact hO7 | simpa using hO7, by first | exact hF7 | simpa using hF7⟩
                case measure => simp [intOf] <;> omega
            · have htn : t = n1 := by omega
              subst htn
              have hbo := hO.out.bools
              have hP3 := hF.out.has hP2 (fun e => absurd (show _ = _ from e) (by omega))
              have hb3 := hbr
              have hisb := hide (fun x => isS_both one two x)
              rw [hmin.out] at hisb
              generalize bothB one two t = both at hbo hisb
              clear hO hF hbr hP2 hb2 hO2 hlt
              have p0 : wr.cell? ⟨w.heap.size, 0, none⟩ = some (.int .i64 C) := (hP3).cell 0
              have p1 : wr.cell? ⟨w.heap.size, 1, none⟩ = some (.int .u8 k) := (hP3).cell 1
              have p2 : wr.cell? ⟨w.heap.size, 2, none⟩ = some (.slice A n cp) := (hP3).cell 2
              have b2 : ¬ (t : Int) < (t : Int) := by omega
              have hmk := run_make_row' (P := Try.prog) 52 4 (.bool false) 1 Try.underlying52 info4 rfl .i64 .i64 C (by omega) (by omega)
              have hu2 : Below wr.heap.size wr (wr.alloc (.cells (madeCells #[.bool false] C) 4)) := (Below.refl _ _).alloc (Nat.le_refl _) _
              have hO2 : OwnB (wr.alloc (.cells (madeCells #[.bool false] C) 4)) (w.heap.size + 1) (.slice (some ⟨wr.heap.size, 0, none⟩) C C) (allB C 0) := by
                rw [allB_zero]
                exact OwnB.made wr _ C hP3.lt (by omega)
              go_upto_region 9 with fail
              have hP4 := hP3.below hu2 hP3.lt
              have hb4 := Below_trans' hb3 hb3.size hu2
              have hbo4 : RBools (wr.alloc (.cells (madeCells #[.bool false] C) 4)) (some ⟨ga, 0, none⟩) t t both := hbo.below hu2
              have hgc : w.heap.size + 1 ≤ wr.heap.size := hP3.lt
              have hgl : ga < wr.heap.size ∨ t = 0 := by
                by_cases h0 : 0 < t
                · obtain ⟨b5, off5, e5, hc5⟩ := hbo.2.2.2 h0
                  cases e5
                  exact .inl (World.block_lt_of_cell? wr _ (hc5 0 h0))
                · exact .inr (by omega)
              generalize hW : World.alloc wr _ = W4 at hP4 hb4 hO2 hbo4
              try rw [hW]
              clear hW hu2 hP3 hb3 hmk p0 p1 p2 hbo
              generalize wr.heap.size = gc at hgc hgl hO2
              go_wp2_with fail
              go_loopw [10] (fun i wr => ∃ (s : Nat), s ≤ C ∧ i = .int .i64 s ∧ Hid (OwnB wr (w.heap.size + 1) (.slice (some ⟨gc, 0, none⟩) C C) (allB C s)) ∧ Hid (Frame' (fun b => b = gc) W4 wr)) (fun i _ => C - (intOf i).toNat)
              case atStart => exact ⟨0, Nat.zero_le _, rfl, hO2, Frame'.refl _ _⟩
              case round =>
                obtain ⟨s, hs, rfl, hO, hF⟩ := hrel
                by_cases hlt : s < C
                · have hyl : Hid ((allB C s).length = C) := length_allB C s
                  obtain ⟨u, cu, fu⟩ := hO.out.at hyl.out hlt
                  have hnext : Hid (allB C (s + 1) = (allB C s).set s true) := allB_succ hlt
                  have i1 : (0 : Int) ≤ (s : Int) := by omega
                  have i2 : (s : Int) < (C : Int) := by omega
                  have hO7 := OwnB.set hO.out hyl.out s true
                  have hF7 := Frame'.setCell (p := ⟨gc, s, none⟩) hF.out (.inl rfl) (.bool true)
                  rw [← hnext.out] at hO7
                  clear hO hF hnext
                  go_wp2
                  go_roundw
                  case rel => exact ⟨s + 1, by omega, by go_num, hO7, hF7⟩
                  case measure => simp [intOf] <;> omega
                · have hsn : s = C := by omega
                  subst hsn
                  have hal := hO.out.bools
                  rw [allB_end] at hal
                  have hb0 := Frame'.below hb4 hF.out (fun k e => by have e : k = gc := e; omega) hb4.size
                  have hP5 := hF.out.has hP4 (fun e => absurd (show _ = _ from e) (by omega))
                  have hbo5 : RBools wr (some ⟨ga, 0, none⟩) t t both := by
                    refine ⟨hbo4.1, hbo4.2.1, hbo4.2.2.1, fun hn => ?_⟩
                    obtain ⟨b5, off5, e5, hc5⟩ := hbo4.2.2.2 hn
                    refine ⟨b5, off5, e5, fun i hi => ?_⟩
                    cases e5
                    have hgn : ga ≠ gc := by omega
                    rw [World.cell?_of_block (w := W4) (hF.out.block ga (World.block_lt_of_cell? W4 _ (hc5 i hi)) (fun e => hgn e))]
                    exact hc5 i hi
                  obtain ⟨La, Lb, T, tA, tB, tC, tD, tN, tM, tK⟩ := kept_law (k := k) (l := l) (one := one) (two := two) (both := both) (C := s) H1.out rfl hisb.out
                  have TA := hide tA
                  have TB := hide tB
                  have TC := hide tC
                  have TD := hide tD
                  have TN := hide tN
                  have TM := hide tM
                  have TK := hide tK
                  clear tA tB tC tD tN tM tK
                  have hQ0 : Fs wr [fHas w.heap.size 24 #[.int .i64 (s : Int), .int .u8 k, .slice A n cp], fBools (some ⟨ga, 0, none⟩) t t both, fBools (some ⟨gc, 0, none⟩) s s (List.replicate s true)] := ⟨hP5, hbo5, hal, trivial⟩
                  have hS0 := Fs.nil wr
                  obtain ⟨w0, hw0⟩ : ∃ w0, w0 = wr := ⟨_, rfl⟩
                  subst hw0
                  have b2 : ¬ (s : Int) < (s : Int) := by omega
                  clear hO hF hP4 hb4 hO2 hbo4 hP5 hbo5 hal hlt hs ht hgl hgc hga
                  have p0 : w0.cell? ⟨w.heap.size, 0, none⟩ = some (.int .i64 (s : Int)) := (hQ0.1).cell 0
                  have p1 : w0.cell? ⟨w.heap.size, 1, none⟩ = some (.int .u8 k) := (hQ0.1).cell 1
                  have p2 : w0.cell? ⟨w.heap.size, 2, none⟩ = some (.slice A n cp) := (hQ0.1).cell 2
                  go_wp2_with fail
                  refine (pkeep_any s k A n cp l _ _ _ one _ (h.below hb0) (h1.below hb0)).mono ?_
                  rintro e w1 ⟨Aa, na, ca, rfl, hOk, hbw⟩
                  rw [(TA).out] at hOk ⊢
                  simp only at hOk ⊢
                  clear p0 p1 p2
                  have hQ1 := hQ0.below hbw
                  have hS1 := hS0.below hbw
                  have hb1 := Below_trans' hb0 hb0.size hbw
                  clear hQ0 hS0 hb0 hbw
                  replace hS1 := hS1.rows hOk.rows
                  clear hOk
                  go_upto_region 14 with fail
                  have hbw : Below w1.heap.size w1 (w1.alloc (.cells #[.int .i64 (s : Int), .int .u8 k, .slice Aa na ca] 24)) := (Below.refl _ _).alloc (Nat.le_refl _) _
                  have hN := Has.new w1 24 #[.int .i64 (s : Int), .int .u8 k, .slice Aa na ca]
                  have hQ2 := hQ1.below hbw
                  have hS2 := (hS1.below hbw).has hN
                  have hb2 := Below_trans' hb1 hb1.size hbw
                  clear hQ1 hS1 hb1 hN hbw
                  generalize hW : World.alloc w1 _ = w2 at hQ2 hS2 hb2
                  try rw [hW]
                  clear hW
                  generalize w1.heap.size = va at hS2 ⊢
                  have p0 : w2.cell? ⟨va, 0, none⟩ = some (.int .i64 (s : Int)) := (hS2.1).cell 0
                  have p1 : w2.cell? ⟨va, 1, none⟩ = some (.int .u8 k) := (hS2.1).cell 1
                  have p2 : w2.cell? ⟨va, 2, none⟩ = some (.slice Aa na ca) := (hS2.1).cell 2
                  go_wp2_with fail
                  refine (pkeep_any s k Aa na ca La _ _ _ two _ (hS2.2.1) (h2.below hb2)).mono ?_
                  rintro e w3 ⟨Ab, nb, cb, rfl, hOk, hbw⟩
                  rw [(TB).out] at hOk ⊢
                  simp only at hOk ⊢
                  clear p0 p1 p2
                  have hQ3 := hQ2.below hbw
                  have hS3 := hS2.below hbw
                  have hb3 := Below_trans' hb2 hb2.size hbw
                  clear hQ2 hS2 hb2 hbw
                  replace hS3 := hS3.rows hOk.rows
                  clear hOk
                  go_upto_region 15 with fail
                  have hbw : Below w3.heap.size w3 (w3.alloc (.cells #[.int .i64 (s : Int), .int .u8 k, .slice Ab nb cb] 24)) := (Below.refl _ _).alloc (Nat.le_refl _) _
                  have hN := Has.new w3 24 #[.int .i64 (s : Int), .int .u8 k, .slice Ab nb cb]
                  have hQ4 := hQ3.below hbw
                  have hS4 := (hS3.below hbw).has hN
                  have hb4 := Below_trans' hb3 hb3.size hbw
                  clear hQ3 hS3 hb3 hN hbw
                  generalize hW : World.alloc w3 _ = w4 at hQ4 hS4 hb4
                  try rw [hW]
                  clear hW
                  generalize w3.heap.size = vb at hS4 ⊢
                  have p0 : w4.cell? ⟨w.heap.size, 0, none⟩ = some (.int .i64 (s : Int)) := (hQ4.1).cell 0
                  have p1 : w4.cell? ⟨w.heap.size, 1, none⟩ = some (.int .u8 k) := (hQ4.1).cell 1
                  have p2 : w4.cell? ⟨w.heap.size, 2, none⟩ = some (.slice A n cp) := (hQ4.1).cell 2
                  go_wp2_with fail
                  refine (pkeep_any s k A n cp l _ _ _ both _ (h.below hb4) (hQ4.2.1)).mono ?_
                  rintro e w5 ⟨Ac, nc, cc, rfl, hOk, hbw⟩
                  rw [(TC).out] at hOk ⊢
                  simp only at hOk ⊢
                  clear p0 p1 p2
                  have hQ5 := hQ4.below hbw
                  have hS5 := hS4.below hbw
                  have hb5 := Below_trans' hb4 hb4.size hbw
                  clear hQ4 hS4 hb4 hbw
                  replace hS5 := hS5.rows hOk.rows
                  clear hOk
                  go_upto_region 16 with fail
                  have hbw : Below w5.heap.size w5 (w5.alloc (.cells #[.int .i64 (s : Int), .int .u8 k, .slice Ac nc cc] 24)) := (Below.refl _ _).alloc (Nat.le_refl _) _
                  have hN := Has.new w5 24 #[.int .i64 (s : Int), .int .u8 k, .slice Ac nc cc]
                  have hQ6 := hQ5.below hbw
                  have hS6 := (hS5.below hbw).has hN
                  have hb6 := Below_trans' hb5 hb5.size hbw
                  clear hQ5 hS5 hb5 hN hbw
                  generalize hW : World.alloc w5 _ = w6 at hQ6 hS6 hb6
                  try rw [hW]
                  clear hW
                  generalize w5.heap.size = vc at hS6 ⊢
                  have p0 : w6.cell? ⟨w.heap.size, 0, none⟩ = some (.int .i64 (s : Int)) := (hQ6.1).cell 0
                  have p1 : w6.cell? ⟨w.heap.size, 1, none⟩ = some (.int .u8 k) := (hQ6.1).cell 1
                  have p2 : w6.cell? ⟨w.heap.size, 2, none⟩ = some (.slice A n cp) := (hQ6.1).cell 2
                  go_wp2_with fail
                  refine (pkeep_any s k A n cp l _ _ _ (List.replicate s true) _ (h.below hb6) (hQ6.2.2.1)).mono ?_
                  rintro e w7 ⟨Ad, nd, cd, rfl, hOk, hbw⟩
                  rw [(TD).out] at hOk ⊢
                  simp only at hOk ⊢
                  clear p0 p1 p2
                  have hQ7 := hQ6.below hbw
                  have hS7 := hS6.below hbw
                  have hb7 := Below_trans' hb6 hb6.size hbw
                  clear hQ6 hS6 hb6 hbw
                  replace hS7 := hS7.rows hOk.rows
                  clear hOk
                  go_upto_region 17 with fail
                  have hbw : Below w7.heap.size w7 (w7.alloc (.cells #[.int .i64 (s : Int), .int .u8 k, .slice Ad nd cd] 24)) := (Below.refl _ _).alloc (Nat.le_refl _) _
                  have hN := Has.new w7 24 #[.int .i64 (s : Int), .int .u8 k, .slice Ad nd cd]
                  have hQ8 := hQ7.below hbw
                  have hS8 := (hS7.below hbw).has hN
                  have hb8 := Below_trans' hb7 hb7.size hbw
                  clear hQ7 hS7 hb7 hN hbw
                  generalize hW : World.alloc w7 _ = w8 at hQ8 hS8 hb8
                  try rw [hW]
                  clear hW
                  generalize w7.heap.size = vd at hS8 ⊢
                  have p0 : w8.cell? ⟨w.heap.size, 0, none⟩ = some (.int .i64 (s : Int)) := (hQ8.1).cell 0
                  have p1 : w8.cell? ⟨w.heap.size, 1, none⟩ = some (.int .u8 k) := (hQ8.1).cell 1
                  have p2 : w8.cell? ⟨w.heap.size, 2, none⟩ = some (.slice A n cp) := (hQ8.1).cell 2
                  go_wp2_with fail
                  refine (many_any s k A n cp l _ (h.below hb8)).mono ?_
                  rintro e w9 ⟨rfl, hbw⟩
                  rw [TN.out, H1.out]
                  clear p0 p1 p2
                  have hQ9 := hQ8.below hbw
                  have hS9 := hS8.below hbw
                  have hb9 := Below_trans' hb8 hb8.size hbw
                  clear hQ8 hS8 hb8 hbw
                  go_upto_region 18 with fail
                  have p0 : w9.cell? ⟨vb, 0, none⟩ = some (.int .i64 (s : Int)) := (hS9.2.2.2.2.1).cell 0
                  have p1 : w9.cell? ⟨vb, 1, none⟩ = some (.int .u8 k) := (hS9.2.2.2.2.1).cell 1
                  have p2 : w9.cell? ⟨vb, 2, none⟩ = some (.slice Ab nb cb) := (hS9.2.2.2.2.1).cell 2
                  go_wp2_with fail
                  refine (many_any s k Ab nb cb Lb _ hS9.2.2.2.2.2.1).mono ?_
                  rintro e w10 ⟨rfl, hbw⟩
                  rw [TM.out, TK.out]
                  clear p0 p1 p2
                  have hQ10 := hQ9.below hbw
                  have hS10 := hS9.below hbw
                  have hb10 := Below_trans' hb9 hb9.size hbw
                  clear hQ9 hS9 hb9 hbw
                  go_upto_region 19 with fail
                  try simp only [List.append]
                  have p0 : w10.cell? ⟨vb, 0, none⟩ = some (.int .i64 (s : Int)) := (hS10.2.2.2.2.1).cell 0
                  have p1 : w10.cell? ⟨vb, 1, none⟩ = some (.int .u8 k) := (hS10.2.2.2.2.1).cell 1
                  have p2 : w10.cell? ⟨vb, 2, none⟩ = some (.slice Ab nb cb) := (hS10.2.2.2.2.1).cell 2
                  have q0 : w10.cell? ⟨vc, 0, none⟩ = some (.int .i64 (s : Int)) := (hS10.2.2.1).cell 0
                  have q1 : w10.cell? ⟨vc, 1, none⟩ = some (.int .u8 k) := (hS10.2.2.1).cell 1
                  have q2 : w10.cell? ⟨vc, 2, none⟩ = some (.slice Ac nc cc) := (hS10.2.2.1).cell 2
                  go_wp2_with fail
                  refine (rsame_any s k Ab nb cb Lb s k Ac nc cc Lb _ hS10.2.2.2.2.2.1 hS10.2.2.2.1).mono ?_
                  rintro e w11 ⟨rfl, hbw⟩
                  rw [sameB_self]
                  clear p0 p1 p2 q0 q1 q2
                  have hQ11 := hQ10.below hbw
                  have hS11 := hS10.below hbw
                  have hb11 := Below_trans' hb10 hb10.size hbw
                  clear hQ10 hS10 hb10 hbw
                  have p0 : w11.cell? ⟨vd, 0, none⟩ = some (.int .i64 (s : Int)) := (hS11.1).cell 0
                  have p1 : w11.cell? ⟨vd, 1, none⟩ = some (.int .u8 k) := (hS11.1).cell 1
                  have p2 : w11.cell? ⟨vd, 2, none⟩ = some (.slice Ad nd cd) := (hS11.1).cell 2
                  have q0 : w11.cell? ⟨w.heap.size, 0, none⟩ = some (.int .i64 (s : Int)) := (hQ11.1).cell 0
                  have q1 : w11.cell? ⟨w.heap.size, 1, none⟩ = some (.int .u8 k) := (hQ11.1).cell 1
                  have q2 : w11.cell? ⟨w.heap.size, 2, none⟩ = some (.slice A n cp) := (hQ11.1).cell 2
                  go_wp2_with fail
                  refine (rsame_any s k Ad nd cd l s k A n cp l _ hS11.2.1 (h.below hb11)).mono ?_
                  rintro e w12 ⟨rfl, hbw⟩
                  rw [sameB_self]
                  clear p0 p1 p2 q0 q1 q2
                  have hQ12 := hQ11.below hbw
                  have hS12 := hS11.below hbw
                  have hb12 := Below_trans' hb11 hb11.size hbw
                  clear hQ11 hS11 hb11 hbw
                  have p0 : w12.cell? ⟨vb, 0, none⟩ = some (.int .i64 (s : Int)) := (hS12.2.2.2.2.1).cell 0
                  have p1 : w12.cell? ⟨vb, 1, none⟩ = some (.int .u8 k) := (hS12.2.2.2.2.1).cell 1
                  have p2 : w12.cell? ⟨vb, 2, none⟩ = some (.slice Ab nb cb) := (hS12.2.2.2.2.1).cell 2
                  go_wp2_with fail
                  refine (pcheck_any s k Ab nb cb Lb _ hS12.2.2.2.2.2.1).mono ?_
                  rintro e w13 ⟨rfl, hbw⟩
                  rw [TK.out]
                  clear p0 p1 p2
                  have hb13 := Below_trans' hb12 hb12.size hbw
                  clear hQ12 hS12 hb12 hbw
                  go_wp2_with fail
                  refine (wakes9_any _).mono ?_
                  rintro e w9 ⟨rfl, hbw⟩
                  go_wp2
                  go_ret
                  exact ⟨rfl, Below_trans' hb13 hb13.size hbw⟩
  · have hne : (checkS c k l != 0) = true := by rw [bne_iff_ne]; exact herr
    clear herr
    go_wp2_with fail
    refine (wakes9_any _).mono ?_
    rintro e w9 ⟨rfl, hbw⟩
    go_wp2
    go_ret
    exact ⟨rfl, Below_trans' hb1 hb1.size hbw⟩
end Go.Proofs.Ytleniljhacnikaa
