/-
  Sum, in the program and in the reference.
  Sum in the reference.
  Rename, in the program.
  Rename in the reference.
  Wins, in the program.
  Wins, in the reference.
  Of, in the program.
-/
import Derived.Test.YtolbceckbnifmaaGreatW10a
import Derived.Test.YtolbceckbnifmaaGreatSpecA
import Derived.Test.YtolbceckbnifmaaGreatOwn
import Derived.Deep.OwnRows
namespace Go.Proofs.YtolbceckbnifmaaGreat
open Go.RowKit Go.Proofs
attribute [local go_sem] cell?_more cell?_alloc_some cell?_setCell_far frozen?_alloc_some frozen?_more
theorem Has.new3 (w : World) (o o' : Obj) (t : Nat) (cs : Array Value) : Has (((w.alloc o).alloc o').alloc (.cells cs t)) (w.heap.size + 2) t cs := by
  have := Has.new2 (w.alloc o) o' t cs
  simpa using this
theorem Has.new4 (w : World) (o o' o'' : Obj) (t : Nat) (cs : Array Value) : Has ((((w.alloc o).alloc o').alloc o'').alloc (.cells cs t)) (w.heap.size + 3) t cs := by
  have := Has.new3 (w.alloc o) o' o'' t cs
  simpa using this

/-- The value that a build without parts makes. -/
theorem runZero (w : World) : (Instr.build 24 #[]).run Tryz.prog w = .ok (.agg Tryz.zeroCells24) w := run_build w _ _ _ (by kernel_rfl)

section
variable {ops : Array Oper} {rest : List Oper} {o : Oper} {a : Act} {w : World} {Q : Exit → Act → World → Prop}
theorem bdMat (hgd : o.guard = none) (ho : o.op = .build 24 #[])
    (h : wpList Tryz.prog ops Q rest (a.put o.dst (.agg Tryz.zeroCells24)) w) : wpList Tryz.prog ops Q (o :: rest) a w :=
  wpList_plain hgd fun _ hK => by
    unfold Oper.wp execOp
    have hz := runZero w
    simp only [ho, List.map_toArray, List.map_nil, Sem.run_bind, Result.andThen_ok, hz]
    exact hK _ _ h
end

end Go.Proofs.YtolbceckbnifmaaGreat

namespace Go.Proofs.YtolbceckbnifmaaGreat
open Go.RowKit Go.Proofs
attribute [local go_sem] cell?_more cell?_alloc_some cell?_setCell_far frozen?_alloc_some frozen?_more
end Go.Proofs.YtolbceckbnifmaaGreat

namespace Go.Proofs.YtolbceckbnifmaaGreat
open Go.RowKit Go.Proofs
attribute [local go_sem] cell?_more cell?_alloc_some cell?_setCell_far frozen?_alloc_some frozen?_more
/-- An element of a permutation: a number below ten. -/
theorem turned_elem {p : List Int} (ht : turnedS p = true) {X : Nat} {v : Int} (h : p[X]? = some v) : ∃ u : Nat, v = (u : Int) ∧ u < 10 := by
  have := (turned_iff.1 ht).2.2 v (List.mem_of_getElem? h)
  exact ⟨v.toNat, by omega, by omega⟩

end Go.Proofs.YtolbceckbnifmaaGreat

namespace Go.Proofs.YtolbceckbnifmaaGreat
open Go.RowKit Go.Proofs
attribute [local go_sem] cell?_more cell?_alloc_some cell?_setCell_far frozen?_alloc_some frozen?_more
end Go.Proofs.YtolbceckbnifmaaGreat

namespace Go.Proofs.YtolbceckbnifmaaGreat
open Go.RowKit Go.Proofs
attribute [local go_sem] cell?_more cell?_alloc_some cell?_setCell_far frozen?_alloc_some frozen?_more
/-- The n cells D are the numbers f 0, f 1, .. -/
structure Vec (D : Array Value) (n : Nat) (f : Nat → Int) : Prop where
  size : D.size = n
  at_ : ∀ i, i < n → D[i]? = some (.int .i64 (f i))

theorem Vec.congr {D : Array Value} {n : Nat} {f f' : Nat → Int} (h : Vec D n f) (e : ∀ i, i < n → f i = f' i) : Vec D n f' :=
  ⟨h.size, fun i hi => by rw [h.at_ i hi, e i hi]⟩
theorem Vec.put {D : Array Value} {n : Nat} {f : Nat → Int} (h : Vec D n f) {k : Nat} (hk : k < n) (v : Int) :
    Vec (D.setIfInBounds k (.int .i64 v)) n (fun i => if i = k then v else f i) := by
  refine ⟨by simp [h.size], fun i hi => ?_⟩
  by_cases e : i = k
  · subst e; rw [Array.getElem?_setIfInBounds_self_of_lt (by have := h.size; omega)]; simp
  · rw [Array.getElem?_setIfInBounds_ne (by omega), h.at_ i hi, if_neg e]
theorem Vec.made (n : Nat) : Vec (madeCells #[.int .i64 0] n) n (fun _ => 0) := by
  refine ⟨size_madeCells _ _, fun i hi => ?_⟩
  rw [← Array.getElem?_toList, toList_madeCells_one, List.getElem?_replicate, if_pos hi]
/-- A vector in memory is a slice of numbers. -/
theorem Vec.ints {D : Array Value} {n : Nat} {f : Nat → Int} (h : Vec D n f) {w : World} {g t : Nat} (hg : Has w g t D) (hn : n ≤ 9223372036854775807) (hf : ∀ i, i < n → -9223372036854775808 ≤ f i ∧ f i ≤ 9223372036854775807) :
    RInts w (some ⟨g, 0, none⟩) n n ((List.range n).map f) := by
  refine ⟨by simp, Nat.le_refl _, hn, fun x hx => ?_, fun _ => ⟨g, 0, rfl, fun i hi => ?_⟩⟩
  · obtain ⟨i, hi, rfl⟩ := List.mem_map.1 hx
    exact hf i (List.mem_range.1 hi)
  · rw [Nat.zero_add, hg.cell, h.at_ i hi]
    simp [List.getD, hi]

section
variable {ops : Array Oper} {rest : List Oper} {o : Oper} {a : Act} {w : World} {Q : Exit → Act → World → Prop}
/-- A row of a matrix in memory is read. -/
theorem ldRowAt (hgd : o.guard = none) {x : Operand} (ho : o.op = .load 22 x) {g X : Nat} (hx : a.eval x = .pointer (some ⟨g, X * 10, none⟩)) {C : Array Value} {m : M} (hg : Has w g 24 C) (hC : Mat C m) (hX : X < 10)
    (h : wpList Tryz.prog ops Q rest (a.put o.dst (.agg (C.extract (X * 10) (X * 10 + 10)))) w) : wpList Tryz.prog ops Q (o :: rest) a w :=
  wpList_plain hgd fun K hK => by
    have hR := hC.row hX
    have hl : (loadCells ⟨g, X * 10, none⟩ (C.extract (X * 10) (X * 10 + 10)).toList.length).run Tryz.prog w = .ok (C.extract (X * 10) (X * 10 + 10)).toList.toArray w :=
      run_loadCells_list (P := Tryz.prog) w ⟨g, X * 10, none⟩ _ (fun j v hv => by
        have hadd : (⟨g, X * 10, none⟩ : Addr).add j = ⟨g, X * 10 + j, none⟩ := by unfold Addr.add; split <;> simp_all
        rw [hadd, hg.cell]
        rw [Array.getElem?_toList, Array.getElem?_extract] at hv
        split at hv
        · exact hv
        · cases hv)
    have hs : (C.extract (X * 10) (X * 10 + 10)).toList.length = 10 := by rw [Array.length_toList, hR.size]
    rw [hs, Array.toArray_toList] at hl
    have hu := Tryz.underlying22
    have h1 := Tryz.sizeOf22
    have h2 := Tryz.isAgg22
    have hv : (loadVar 22 ⟨g, X * 10, none⟩).run Tryz.prog w = .ok (.agg (C.extract (X * 10) (X * 10 + 10))) w := by
      simp [loadVar, Sem.run_bind, h2, h1, hl]
    unfold Oper.wp execOp
    simp only [ho, hx, Instr.loadAt, Instr.sureAddr, Sem.run_bind, Sem.run_pure, Result.andThen_ok, hv]
    exact hK _ _ h
end


/-- The hundred and more ways: the answer is a slice of the wins, and an error. -/
def WinsPost (w : World) (m : M) (c : Int) (e : Ending) (w' : World) : Prop :=
  ∃ A n k, e = .returned (.tuple #[.slice A n k, .int .i64 (winErr m c)]) ∧ RInts w' A n k (winM m c) ∧ Below w.heap.size w w'

end Go.Proofs.YtolbceckbnifmaaGreat

namespace Go.Proofs.YtolbceckbnifmaaGreat
open Go.RowKit Go.Proofs
attribute [local go_sem] cell?_more cell?_alloc_some cell?_setCell_far frozen?_alloc_some frozen?_more
end Go.Proofs.YtolbceckbnifmaaGreat

namespace Go.Proofs.YtolbceckbnifmaaGreat
open Go.RowKit Go.Proofs
attribute [local go_sem] cell?_more cell?_alloc_some cell?_setCell_far frozen?_alloc_some frozen?_more
/-- The answer of Of: a matrix and an error. -/
def POfPost (w : World) (c k : Int) (l : List Row) (e : Ending) (w' : World) : Prop :=
  ∃ R, e = .returned (.tuple #[.agg R, .int .i64 (checkS c k l)]) ∧ Mat R (ofR c k l) ∧ Below w.heap.size w w'

set_option maxRecDepth 100000 in
set_option maxHeartbeats 4000000 in
theorem pof_any (c k : Int) (A : Option Addr) (n cp : Nat) (l : List Row) (w : World) (h : RRows w A n cp l) :
    Calls Tryz.prog 28 #[.agg #[.int .i64 c, .int .u8 k, .slice A n cp]] w (POfPost w c k l) := by
  have hn := h.le
  have hl := h.len
  have hP0 : Has ((w.alloc (.cells #[.int .i64 c, .int .u8 k, .slice A n cp] 27)).alloc (.cells Tryz.zeroCells24 24)) w.heap.size 27 #[.int .i64 c, .int .u8 k, .slice A n cp] := (Has.new _ _ _).alloc _
  have hZ0 : Has ((w.alloc (.cells #[.int .i64 c, .int .u8 k, .slice A n cp] 27)).alloc (.cells Tryz.zeroCells24 24)) (w.heap.size + 1) 24 Tryz.zeroCells24 := Has.new2 _ _ _ _
  have hb0 : Below w.heap.size w ((w.alloc (.cells #[.int .i64 c, .int .u8 k, .slice A n cp] 27)).alloc (.cells Tryz.zeroCells24 24)) :=
    ((Below.refl _ _).alloc (Nat.le_refl _) _).alloc (by simp) _
  by_cases herr : checkS c k l = 0
  · have hr : Hid (ofR c k l = ofM k l c.toNat l.length) := by unfold Hid ofR; rw [if_pos herr]
    go_enter Tryz.func28, Tryz.ntmps28
    go_wp2_with fail
    refine (pcheck_any _ _ _ _ _ l _ (h.below hb0)).mono ?_
    rintro e w1 ⟨rfl, hbw1⟩
    have hP1 := hP0.below hbw1 hP0.lt
    have hZ1 := hZ0.below hbw1 hZ0.lt
    have hb1 := Below_trans' hb0 hb0.size hbw1
    clear hbw1 hP0 hZ0 hb0
    have p0 : w1.cell? ⟨w.heap.size, 0, none⟩ = some (.int .i64 c) := hP1.cell 0
    have p1 : w1.cell? ⟨w.heap.size, 1, none⟩ = some (.int .u8 k) := hP1.cell 1
    have p2 : w1.cell? ⟨w.heap.size, 2, none⟩ = some (.slice A n cp) := hP1.cell 2
    go_wp2_with fail
    have H0 := hide herr
    obtain ⟨k64, c1, c2, k1, k2, ht, hall⟩ := check_ok herr
    have Hall := hide hall
    have Ht := hide ht
    clear herr hall ht
    obtain ⟨cn, rfl⟩ : ∃ cn : Nat, c = cn := ⟨c.toNat, by omega⟩
    simp only [Int.toNat_natCast] at hr
    go_loopw [18] (fun i wr => ∃ (t : Nat) (R : Array Value), t ≤ n ∧ i = .int .i64 t ∧ Has wr w.heap.size 27 #[.int .i64 (cn : Int), .int .u8 k, .slice A n cp] ∧ Has wr (w.heap.size + 1) 24 R ∧ Mat R (ofM k l cn t) ∧ Below w.heap.size w wr) (fun i _ => n - (intOf i).toNat)
    case atStart => exact ⟨0, _, by omega, rfl, hP1, hZ1, zeroMat.congr (fun x y _ _ => ofM_zero k l cn x y), hb1⟩
    case round =>
      obtain ⟨t, R, htn, rfl, hP, hZ, hM, hb⟩ := hrel
      obtain ⟨wo, rfl⟩ : ∃ wo : World, wo = wr := ⟨_, rfl⟩
      by_cases hlt : t < n
      · obtain ⟨b, off, Am, nm, cm, ms, y, rfl, hc0, hm0, hc1, hd, hat, hy⟩ := h.step hlt
        have hc0' := keep_cell hb hc0
        have hc1' := keep_cell hb hc1
        clear hc0 hc1
        have p0 : wo.cell? ⟨w.heap.size, 0, none⟩ = some (.int .i64 (cn : Int)) := hP.cell 0
        have p1 : wo.cell? ⟨w.heap.size, 1, none⟩ = some (.int .u8 k) := hP.cell 1
        go_wp2
        obtain ⟨W, hW⟩ : ∃ W, W = (wo.alloc (.cells #[.slice Am nm cm, .int .i64 y] 80)).alloc (.cells #[.int .u8 k, .slice Am nm cm] 103) := ⟨_, rfl⟩
        rw [← hW]
        have hwW : Below wo.heap.size wo W := by rw [hW]; exact ((Below.refl _ _).alloc (Nat.le_refl _) _).alloc (by simp) _
        have hRW : Has W wo.heap.size 80 #[.slice Am nm cm, .int .i64 y] := by rw [hW]; exact (Has.new _ _ _).alloc _
        have hQW : Has W (wo.heap.size + 1) 103 #[.int .u8 k, .slice Am nm cm] := by rw [hW]; exact Has.new2 _ _ _ _
        have hPW := hP.below hwW hP.lt
        have hZW := hZ.below hwW hZ.lt
        have hbW := Below_trans' hb hb.size hwW
        have hsz := hide hZ.lt
        have hsb := hide hb.size
        have hyes := hide (fun x y (hx : x < cn) (hy : y < cn) => @ofM_yes k l cn t x y _ hat.out hx hy)
        have hno := hide (fun x y (hx : x < cn) (hy : y < cn) => @ofM_no k l cn t x y _ hat.out hx hy)
        have hy0 := rowOK_many (Hall.out t (by omega))
        rw [getD_of hat.out] at hy0
        simp only at hy0
        clear hW hwW hP hZ hb hc0' hc1' hd p0 p1 p2 hP1 hZ1 hb1
        have p0 : W.cell? ⟨w.heap.size, 0, none⟩ = some (.int .i64 (cn : Int)) := hPW.cell 0
        go_loopw [29] (fun i wr => ∃ (X : Nat) (R : Array Value), X ≤ cn ∧ i = .int .i64 X ∧ Has wr w.heap.size 27 #[.int .i64 (cn : Int), .int .u8 k, .slice (some ⟨b, off, none⟩) n cp] ∧ Has wr (w.heap.size + 1) 24 R ∧ Mat R (upFrom (ofM k l cn t) (ofM k l cn (t + 1)) X 0) ∧
          Has wr wo.heap.size 80 #[.slice Am nm cm, .int .i64 y] ∧ Has wr (wo.heap.size + 1) 103 #[.int .u8 k, .slice Am nm cm] ∧ Below w.heap.size w wr) (fun i _ => cn - (intOf i).toNat)
        case atStart => exact ⟨0, R, by omega, rfl, hPW, hZW, hM.congr (fun x y _ _ => upFrom_zero _ _ x y), hRW, hQW, hbW⟩
        case round =>
          obtain ⟨X, R, hX, rfl, hP, hZ, hM, hRo, hQ, hb⟩ := hrel
          obtain ⟨wx, rfl⟩ : ∃ wx : World, wx = wr := ⟨_, rfl⟩
          by_cases hltX : X < cn
          · have b1 : (X : Int) < 10 := by omega
            have p0 : wx.cell? ⟨w.heap.size, 0, none⟩ = some (.int .i64 (cn : Int)) := hP.cell 0
            go_wp2
            go_loopw [34] (fun i wr => ∃ (Y : Nat) (R : Array Value), Y ≤ cn ∧ i = .int .i64 Y ∧ Has wr w.heap.size 27 #[.int .i64 (cn : Int), .int .u8 k, .slice (some ⟨b, off, none⟩) n cp] ∧ Has wr (w.heap.size + 1) 24 R ∧ Mat R (upFrom (ofM k l cn t) (ofM k l cn (t + 1)) X Y) ∧
              Has wr wo.heap.size 80 #[.slice Am nm cm, .int .i64 y] ∧ Has wr (wo.heap.size + 1) 103 #[.int .u8 k, .slice Am nm cm] ∧ Below w.heap.size w wr) (fun i _ => cn - (intOf i).toNat)
            case atStart => exact ⟨0, R, by omega, rfl, hP, hZ, hM, hRo, hQ, hb⟩
            case round =>
              obtain ⟨Y, R', hY, rfl, hP', hZ', hM', hRo', hQ', hb'⟩ := hrel
              by_cases hltY : Y < cn
              · have b2 : (Y : Int) < 10 := by omega
                have q0 : wr.cell? ⟨wo.heap.size + 1, 0, none⟩ = some (.int .u8 k) := hQ'.cell 0
                have q1 : wr.cell? ⟨wo.heap.size + 1, 1, none⟩ = some (.slice Am nm cm) := hQ'.cell 1
                cases hpf : prefersS k ms X Y with
                | true =>
                  have hMp := hide ((hM'.put (x := X) (y := Y) (by omega) (by omega) (v := ofM k l cn (t + 1) X Y) (by have := ofM_bd H0.out cn (i := t + 1) (by omega) X Y; unfold I64; omega)).congr (fun x y _ _ => upFrom_put x y))
                  have hval := hide (hyes.out X Y hltX hltY hpf)
                  have hbd := ofM_bd H0.out cn (i := t) (by omega) X Y
                  have hbd' := ofM_bd H0.out cn (i := t + 1) (by omega) X Y
                  rw [hval.out] at hbd'
                  have hcell := hide (hM'.at_ X Y (by omega) (by omega))
                  go_wp2_with fail
                  refine (prefers_any _ _ _ _ ms _ _ _ (hm0.below hb')).mono ?_
                  rintro e w2 ⟨rfl, hbw2⟩
                  have hP2 := hP'.below hbw2 hP'.lt
                  have hZ2 := hZ'.below hbw2 hZ'.lt
                  have hRo2 := hRo'.below hbw2 hRo'.lt
                  have hQ2 := hQ'.below hbw2 hQ'.lt
                  have hb2 := Below_trans' hb' hb'.size hbw2
                  clear hbw2 hP' hZ' hRo' hQ' hb' q0 q1
                  generalize hv : ofM k l cn t X Y = v at hcell hbd hbd'
                  have Hv := hide hv
                  clear hv
                  have hcc := ((hZ2.drew).cell (X * 10 + Y)).trans hcell.out
                  rw [upFrom_here, Hv.out] at hcc
                  have hcy : w2.drew.cell? ⟨wo.heap.size, 1, none⟩ = some (.int .i64 y) := hRo2.drew.cell 1
                  have hfr := hZ2.drew.free (X * 10 + Y)
                  have e4 : IntKind.i64.wrap (v + y) = v + y := IntWalk.i64_in _ (by omega)
                  go_wp2
                  refine wp_region_still_tail 10 (by kernel_rfl) (by kernel_rfl) ?_
                  simp only [List.take_succ_cons, List.take_zero, List.drop_succ_cons, List.drop_zero]
                  change wpStill _ _ (World.drew _) _ _ _
                  repeat still_step
                  refine wpStill_nil ?_
                  go_wp2
                  go_roundw
                  case rel =>
                    have a1 := hsz.out
                    refine ⟨Y + 1, _, by omega, by go_num, hP2.drew.far (by show w.heap.size ≠ w.heap.size + 1; omega) _, hZ2.drew.put _ _, ?_, hRo2.drew.far (by show wo.heap.size ≠ w.heap.size + 1; omega) _, hQ2.drew.far (by show wo.heap.size + 1 ≠ w.heap.size + 1; omega) _, (below_drewN hb2 1).setCell (by show w.heap.size ≤ w.heap.size + 1; omega) _⟩
                    have := hMp.out
                    rw [hval.out] at this
                    simp only [Hv.out] at this
                    exact this
                  case measure => simp [intOf] <;> omega
                | false =>
                  have hval := hide (hno.out X Y hltX hltY hpf)
                  go_wp2_with fail
                  refine (prefers_any _ _ _ _ ms _ _ _ (hm0.below hb')).mono ?_
                  rintro e w2 ⟨rfl, hbw2⟩
                  have hP2 := hP'.below hbw2 hP'.lt
                  have hZ2 := hZ'.below hbw2 hZ'.lt
                  have hRo2 := hRo'.below hbw2 hRo'.lt
                  have hQ2 := hQ'.below hbw2 hQ'.lt
                  have hb2 := Below_trans' hb' hb'.size hbw2
                  clear hbw2 hP' hZ' hRo' hQ' hb' q0 q1
                  go_wp2
                  go_roundw
                  case rel =>
                    exact ⟨Y + 1, R', by omega, by go_num, hP2, hZ2, hM'.congr (fun x y _ _ => upFrom_same hval.out x y), hRo2, hQ2, hb2⟩
                  case measure => simp [intOf] <;> omega
              · have hYn := hide (show Y = cn by omega)
                have b2 : ¬ (Y : Int) < cn := by omega
                clear hltY hY
                go_wp2
                go_roundw
                case rel => exact ⟨X + 1, R', by omega, by go_num, hP', hZ', hM'.congr (fun x y _ _ => by rw [hYn.out]; exact upFrom_rowAt x y (fun hh => ofM_off (by omega))), hRo', hQ', hb'⟩
                case measure => simp [intOf] <;> omega
          · have hXn := hide (show X = cn by omega)
            have b2 : ¬ (X : Int) < cn := by omega
            clear hltX hX
            go_wp2
            go_roundw
            case rel => exact ⟨t + 1, R, by omega, by go_num, hP, hZ, hM.congr (fun x y _ _ => by rw [hXn.out]; exact upFrom_end x y (fun hh => ofM_off (by omega))), hb⟩
            case measure => simp [intOf] <;> omega
      · have htn' := hide (show t = l.length by omega)
        have b2 : ¬ (t : Int) < n := by omega
        clear hlt htn
        go_wp2_with (first | (refine ldMat rfl rfl rfl hZ hM.size ?_) | (refine stMat rfl rfl rfl rfl hZ hM.size hM.size hM.one ?_))
        refine retMat2 rfl rfl rfl (hZ.setRow _) hM.size rfl ⟨_, by rw [H0.out]; rfl, by rw [hr.out, ← htn'.out]; exact hM, below_setRow hb (by omega) _⟩
  · have hr : Hid (ofR c k l = fun _ _ => 0) := by unfold Hid ofR; rw [if_neg herr]
    have hne : (checkS c k l != 0) = true := by rw [bne_iff_ne]; exact herr
    go_enter Tryz.func28, Tryz.ntmps28
    go_wp2_with fail
    refine (pcheck_any _ _ _ _ _ l _ (h.below hb0)).mono ?_
    rintro e w1 ⟨rfl, hbw1⟩
    have hP1 := hP0.below hbw1 hP0.lt
    have hZ1 := hZ0.below hbw1 hZ0.lt
    have hb1 := Below_trans' hb0 hb0.size hbw1
    clear hbw1 hP0 hZ0 hb0
    have p0 : w1.cell? ⟨w.heap.size, 0, none⟩ = some (.int .i64 c) := hP1.cell 0
    have p1 : w1.cell? ⟨w.heap.size, 1, none⟩ = some (.int .u8 k) := hP1.cell 1
    have p2 : w1.cell? ⟨w.heap.size, 2, none⟩ = some (.slice A n cp) := hP1.cell 2
    go_wp2_with (first | (refine ldMat rfl rfl rfl hZ1 zeroMat.size ?_) | (refine stMat rfl rfl rfl rfl hZ1 zeroMat.size zeroMat.size zeroMat.one ?_))
    refine retMat2 rfl rfl rfl (hZ1.setRow _) zeroMat.size rfl ⟨_, rfl, by rw [hr.out]; exact zeroMat, below_setRow hb1 (by omega) _⟩
end Go.Proofs.YtolbceckbnifmaaGreat
