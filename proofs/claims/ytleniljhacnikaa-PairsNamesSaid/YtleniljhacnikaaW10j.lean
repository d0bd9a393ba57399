/-
  Wins, in the program.
-/
import Derived.Test.YtleniljhacnikaaW10i
import Derived.Test.YtleniljhacnikaaOwn
import Derived.Test.YtleniljhacnikaaSpecA
import Derived.Deep.OwnRows
namespace Go.Proofs.Ytleniljhacnikaa
open Go.RowKit Go.Proofs
attribute [local go_sem] cell?_more cell?_alloc_some cell?_setCell_far frozen?_alloc_some frozen?_more

/-- The n cells D are the numbers f 0, f 1, .. -/
structure Vec (D : Array Value) (n : Nat) (f : Nat → Int) : Prop where
  size : D.size = n
  at_ : ∀ i, i < n → D[i]? = some (.int .i64 (f i))

theorem Vec.congr {D : Array Value} {n : Nat} {f f' : Nat → Int} (h : Vec D n f) (e : ∀ i, i < n → f i = f' i) : Vec D n f' :=
  ⟨h.size, fun i hi => by rw [h.at_ i hi, e i hi]⟩
theorem Vec.put {D : Array Value} {n : Nat} {f : Nat → Int} (h : Vec D n f) {k : Nat} (hk : k < n) (v : Int) :
    Vec (D.setIfInBounds k (.int .i64 v)) n (fun i => if i = k then v else f i) := by
  refine ⟨by simp [h.size], fun i hi => ?_⟩
  by_cases e : i = k
  · subst e; rw [Array.getElem?_setIfInBounds_self_of_lt (by have := h.size; omega)]; simp
  · rw [Array.getElem?_setIfInBounds_ne (by omega), h.at_ i hi, if_neg e]
theorem Vec.made (n : Nat) : Vec (madeCells #[.int .i64 0] n) n (fun _ => 0) := by
  refine ⟨size_madeCells _ _, fun i hi => ?_⟩
  rw [← Array.getElem?_toList, toList_madeCells_one, List.getElem?_replicate, if_pos hi]
/-- A vector in memory is a slice of numbers. -/
theorem Vec.ints {D : Array Value} {n : Nat} {f : Nat → Int} (h : Vec D n f) {w : World} {g t : Nat} (hg : Has w g t D) (hn : n ≤ 9223372036854775807) (hf : ∀ i, i < n → -9223372036854775808 ≤ f i ∧ f i ≤ 9223372036854775807) :
    RInts w (some ⟨g, 0, none⟩) n n ((List.range n).map f) := by
  refine ⟨by simp, Nat.le_refl _, hn, fun x hx => ?_, fun _ => ⟨g, 0, rfl, fun i hi => ?_⟩⟩
  · obtain ⟨i, hi, rfl⟩ := List.mem_map.1 hx
    exact hf i (List.mem_range.1 hi)
  · rw [Nat.zero_add, hg.cell, h.at_ i hi]
    simp [List.getD, hi]

theorem clip_any (A : Option Addr) (n c : Nat) (w : World) (h : n ≤ c) (_hc : c ≤ 9223372036854775807) (_hA : 0 < n → ∃ b off, A = some ⟨b, off, none⟩) :
    Calls Try.prog 64 #[.slice A n c] w fun e w' => e = .returned (.slice A n n) ∧ w = w' := by
  go_enter Try.func64, Try.ntmps64
  go_wp2
  go_ret
  exact ⟨rfl, rfl⟩

section
variable {ops : Array Oper} {rest : List Oper} {o : Oper} {a : Act} {w : World} {Q : Exit → Act → World → Prop}
/-- A row of a matrix in memory is read. -/
theorem ldRowAt (hgd : o.guard = none) {x : Operand} (ho : o.op = .load 25 x) {g X : Nat} (hx : a.eval x = .pointer (some ⟨g, X * 10, none⟩)) {C : Array Value} {m : M} (hg : Has w g 27 C) (hC : Mat C m) (hX : X < 10)
    (h : wpList Try.prog ops Q rest (a.put o.dst (.agg (C.extract (X * 10) (X * 10 + 10)))) w) : wpList Try.prog ops Q (o :: rest) a w :=
  wpList_plain hgd fun K hK => by
    have hR := hC.row hX
    have hl : (loadCells ⟨g, X * 10, none⟩ (C.extract (X * 10) (X * 10 + 10)).toList.length).run Try.prog w = .ok (C.extract (X * 10) (X * 10 + 10)).toList.toArray w :=
      run_loadCells_list (P := Try.prog) w ⟨g, X * 10, none⟩ _ (fun j v hv => by
        have hadd : (⟨g, X * 10, none⟩ : Addr).add j = ⟨g, X * 10 + j, none⟩ := by unfold Addr.add; split <;> simp_all
        rw [hadd, hg.cell]
        rw [Array.getElem?_toList, Array.getElem?_extract] at hv
        split at hv
        · exact hv
        · cases hv)
    have hs : (C.extract (X * 10) (X * 10 + 10)).toList.length = 10 := by rw [Array.length_toList, hR.size]
    rw [hs, Array.toArray_toList] at hl
    have hu := Try.underlying25
    have h1 := Try.sizeOf25
    have h2 := Try.isAgg25
    have hv : (loadVar 25 ⟨g, X * 10, none⟩).run Try.prog w = .ok (.agg (C.extract (X * 10) (X * 10 + 10))) w := by
      simp [loadVar, Sem.run_bind, h2, h1, hl]
    unfold Oper.wp execOp
    simp only [ho, hx, Instr.loadAt, Instr.sureAddr, Sem.run_bind, Sem.run_pure, Result.andThen_ok, hv]
    exact hK _ _ h
end


/-- The hundred and more ways: the answer is a slice of the wins, and an error. -/
def WinsPost (w : World) (m : M) (c : Int) (e : Ending) (w' : World) : Prop :=
  ∃ A n k, e = .returned (.tuple #[.slice A n k, .int .i64 (winErr m c)]) ∧ RInts w' A n k (winM m c) ∧ Below w.heap.size w w'

set_option maxRecDepth 100000 in
set_option maxHeartbeats 4000000 in
theorem wins_any (C : Array Value) (m : M) (hC : Mat C m) (c : Int) (w : World) :
    Calls Try.prog 22 #[.agg C, .int .i64 c] w (WinsPost w m c) := by
  have hsC := hC.size
  have hA0 : Has (w.alloc (.cells C 27)) w.heap.size 27 C := Has.new _ _ _
  have hb0 : Below w.heap.size w (w.alloc (.cells C 27)) := (Below.refl _ _).alloc (Nat.le_refl _) _
  by_cases c1 : c < 1
  · have hr : Hid (winErr m c = 2 ∧ winM m c = []) := by
      have : winErr m c = 2 := by unfold winErr; rw [if_neg (by omega)]
      exact ⟨this, by unfold winM; rw [if_neg (by omega)]⟩
    go_enter Try.func22, Try.ntmps22
    go_wp2
    go_ret2
    exact ⟨none, 0, 0, by rw [hr.out.1]; rfl, by rw [hr.out.2]; exact RInts.nil_ _, hb0⟩
  by_cases c2 : 10 < c
  · have hr : Hid (winErr m c = 2 ∧ winM m c = []) := by
      have : winErr m c = 2 := by unfold winErr; rw [if_neg (by omega)]
      exact ⟨this, by unfold winM; rw [if_neg (by omega)]⟩
    go_enter Try.func22, Try.ntmps22
    go_wp2
    go_ret2
    exact ⟨none, 0, 0, by rw [hr.out.1]; rfl, by rw [hr.out.2]; exact RInts.nil_ _, hb0⟩
  obtain ⟨n, rfl⟩ : ∃ n : Nat, c = n := ⟨c.toNat, by omega⟩
  cases e1 : rightS m n with
  | false =>
    have hr : Hid (winErr m n = 8 ∧ winM m n = []) := by
      have : winErr m n = 8 := by unfold winErr; rw [if_pos (by omega), if_neg (by simp [e1])]
      exact ⟨this, by unfold winM; rw [if_neg (by omega)]⟩
    go_enter Try.func22, Try.ntmps22
    go_wp2_with (refine ldMat rfl rfl rfl hA0 hsC ?_)
    refine (right_any C m hC _ _).mono ?_
    rintro e w1 ⟨rfl, hbw1⟩
    have hA1 := hA0.below hbw1 hA0.lt
    have hb1 := Below_trans' hb0 hb0.size hbw1
    clear hbw1 hA0 hb0
    go_wp2
    go_ret2
    exact ⟨none, 0, 0, by rw [hr.out.1]; rfl, by rw [hr.out.2]; exact RInts.nil_ _, hb1⟩
  | true =>
    have hr : Hid (winErr m n = 0 ∧ winM m n = winsL m n) := by
      have : winErr m n = 0 := by unfold winErr; rw [if_pos (by omega), if_pos e1]
      exact ⟨this, by unfold winM; rw [if_pos this, Int.toNat_natCast]⟩
    have H1 := hide e1
    have hmk := run_make_row' (P := Try.prog) 28 3 (.int .i64 0) 8 Try.underlying28 info3 rfl .i64 .i64 n (by omega) (by omega)
    go_enter Try.func22, Try.ntmps22
    go_wp2_with (refine ldMat rfl rfl rfl hA0 hsC ?_)
    refine (right_any C m hC _ _).mono ?_
    rintro e w1 ⟨rfl, hbw1⟩
    have hA1 := hA0.below hbw1 hA0.lt
    have hb1 := Below_trans' hb0 hb0.size hbw1
    clear hbw1 hA0 hb0
    go_wp2_with (refine ldMat rfl rfl rfl hA1 hsC ?_)
    clear e1
    refine (turn_any C m hC _).mono ?_
    rintro e w2 ⟨T, rfl, hT, hbw2⟩
    have hA2 := hA1.below hbw2 hA1.lt
    have hb2 := Below_trans' hb1 hb1.size hbw2
    clear hbw2 hA1 hb1
    have hz2 := hA2.lt
    have hN2 : Has (w2.alloc (.cells Try.zeroCells27 27)) w2.heap.size 27 Try.zeroCells27 := Has.new _ _ _
    have hA3 : Has ((w2.alloc (.cells Try.zeroCells27 27)).setRow w2.heap.size T) w.heap.size 27 C := (hA2.alloc _).farRow (by omega) _
    have hT3 : Has ((w2.alloc (.cells Try.zeroCells27 27)).setRow w2.heap.size T) w2.heap.size 27 T := hN2.setRow _
    have hb3 : Below w.heap.size w ((w2.alloc (.cells Try.zeroCells27 27)).setRow w2.heap.size T) := below_setRow (hb2.alloc hb2.size _) hb2.size _
    have hz3 : ((w2.alloc (.cells Try.zeroCells27 27)).setRow w2.heap.size T).heap.size = w2.heap.size + 1 := by simp
    have hV3 := Has.new ((w2.alloc (.cells Try.zeroCells27 27)).setRow w2.heap.size T) 3 (madeCells #[.int .i64 0] n)
    have hA4 := hA3.alloc (.cells (madeCells #[.int .i64 0] n) 3)
    have hT4 := hT3.alloc (.cells (madeCells #[.int .i64 0] n) 3)
    have hb4 := hb3.alloc hb3.size (.cells (madeCells #[.int .i64 0] n) 3)
    rw [hz3] at hV3
    go_wp2_with (refine stMat rfl rfl rfl rfl hN2 zeroMat.size hT.size hT.one ?_)
    generalize hW : World.alloc (World.setRow _ _ _) _ = W at hA4 hT4 hb4 hV3
    try rw [hW]
    clear hW hA3 hT3 hb3 hz3 hmk
    go_loopw [27] (fun i wr => ∃ (X : Nat) (D : Array Value), X ≤ n ∧ i = .int .i64 X ∧ Has wr w.heap.size 27 C ∧ Has wr w2.heap.size 27 T ∧ Has wr (w2.heap.size + 1) 3 D ∧ Vec D n (winT m X 0) ∧ Below w.heap.size w wr) (fun i _ => n - (intOf i).toNat)
    case atStart => exact ⟨0, _, by omega, rfl, hA4, hT4, hV3, (Vec.made n).congr (fun i _ => winT_zero m i), hb4⟩
    case round =>
      obtain ⟨X, D, hX, rfl, hA, hTr, hV, hD, hb⟩ := hrel
      obtain ⟨wo, rfl⟩ : ∃ wo : World, wo = wr := ⟨_, rfl⟩
      by_cases hlt : X < n
      · have b1 : (X : Int) < 10 := by omega
        have hX10 : X < 10 := by omega
        have hRow := hC.row hX10
        go_wp2_with (refine ldRowAt rfl rfl rfl hA hC hX10 ?_)
        generalize C.extract (X * 10) (X * 10 + 10) = R at hRow
        go_loopw [33] (fun i wr => ∃ (Y : Nat) (D : Array Value), Y ≤ 10 ∧ i = .int .i64 Y ∧ Has wr w.heap.size 27 C ∧ Has wr w2.heap.size 27 T ∧ Has wr (w2.heap.size + 1) 3 D ∧ Vec D n (winT m X Y) ∧ Below w.heap.size w wr) (fun i _ => 10 - (intOf i).toNat)
        case atStart => exact ⟨0, D, by omega, rfl, hA, hTr, hV, hD, hb⟩
        case round =>
          obtain ⟨Y, D', hY, rfl, hA', hTr', hV', hD', hb'⟩ := hrel
          by_cases hltY : Y < 10
          · have b2 : (Y : Int) < 10 := by omega
            have hix2 := ixRow hRow hltY
            have hct := (hTr'.cell (X * 10 + Y)).trans (hT.at_ X Y hX10 hltY)
            have hcv := (hV'.cell X).trans (hD'.at_ X hlt)
            rw [winT_here] at hcv
            have hfr := hV'.free X
            have hcnt := cntS_le m X Y
            have hput := hide (hD'.put hlt ((cntS m X Y : Int) + 1))
            have hwin := hide (@winT_put m X Y)
            have hwno := hide (@winT_no m X Y)
            have hmv := hide (show m X Y = m X Y from rfl)
            generalize hk : cntS m X Y = k at hcv hcnt hput
            have Hk := hide hk
            clear hk
            have e4 : IntKind.i64.wrap ((k : Int) + 1) = (k : Int) + 1 := IntWalk.i64_in _ (by omega)
            by_cases hgt : m Y X < m X Y
            · go_wp2
              go_roundw
              case rel =>
                refine ⟨Y + 1, _, by omega, by go_num, hA'.far (by show w.heap.size ≠ w2.heap.size + 1; omega) _, hTr'.far (by show w2.heap.size ≠ w2.heap.size + 1; omega) _, hV'.put _ _, hput.out.congr (fun i _ => ?_), hb'.setCell (by show w.heap.size ≤ w2.heap.size + 1; omega) _⟩
                have := hwin.out hgt i
                rw [Hk.out] at this
                exact this
              case measure => simp [intOf] <;> omega
            · go_wp2
              go_roundw
              case rel => exact ⟨Y + 1, D', by omega, by go_num, hA', hTr', hV', hD'.congr (fun i _ => hwno.out hgt i), hb'⟩
              case measure => simp [intOf] <;> omega
          · have hY10 := hide (show Y = 10 by omega)
            have b2 : ¬ (Y : Int) < 10 := by omega
            clear hltY hY
            go_wp2
            go_roundw
            case rel => exact ⟨X + 1, D', by omega, by go_num, hA', hTr', hV', hD'.congr (fun i _ => by rw [hY10.out]; exact winT_row i), hb'⟩
            case measure => simp [intOf] <;> omega
      · have hXn := hide (show X = n by omega)
        have b2 : ¬ (X : Int) < n := by omega
        clear hlt hX
        go_wp2_with (go_at_call 64; refine (clip_any _ _ _ _ (Nat.le_refl _) (by omega) (fun _ => ⟨_, _, rfl⟩)).mono ?_; rintro e w' ⟨rfl, rfl⟩)
        go_ret2
        refine ⟨_, n, n, by rw [hr.out.1]; rfl, ?_, hb⟩
        rw [hr.out.2]
        have hD2 : Vec D n (fun i => (cntS m i n : Int)) := hD.congr (fun i hi => by rw [hXn.out]; exact winT_all H1.out i hi)
        exact hD2.ints hV (by omega) (fun i _ => by have := cntS_le m i n; omega)
end Go.Proofs.Ytleniljhacnikaa
