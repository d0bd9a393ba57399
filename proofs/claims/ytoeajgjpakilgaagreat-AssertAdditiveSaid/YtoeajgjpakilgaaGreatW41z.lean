/-
  Assertions: whether all hold, plain; and as both tell it.
-/
import Derived.Test.YtoeajgjpakilgaaGreatW41v
import Derived.Test.YtoeajgjpakilgaaGreatW41m
namespace Go.Proofs.YtoeajgjpakilgaaGreat
def aErr (c pk : Int) (l : List Row) (a : Asn) : Int := totErr a.1 a.2.1 a.2.2.1 a.2.2.2 c pk l
def aHold (c pk : Int) (l : List Row) (a : Asn) : Bool := decide (totN a.1 a.2.1 a.2.2.1 a.2.2.2 c pk l < totV a.1 a.2.1 a.2.2.1 a.2.2.2 c pk l)
/-- The first error of the totals. -/
def holdsE (c pk : Int) (l : List Row) : List Asn → Int
  | [] => 0
  | a :: r => if aErr c pk l a ≠ 0 then aErr c pk l a else holdsE c pk l r
def holdErr (c pk : Int) (l : List Row) (qs : List Asn) : Int := if checkS c pk l ≠ 0 then checkS c pk l else holdsE c pk l qs
def holdB (c pk : Int) (l : List Row) (qs : List Asn) : Bool := if holdErr c pk l qs = 0 then qs.all (aHold c pk l) else false
theorem aHold_mk (c pk : Int) (l : List Row) (k x y : Int) (L : List Int) : aHold c pk l (k, x, y, L) = decide (totN k x y L c pk l < totV k x y L c pk l) := rfl
theorem holdsE_mk (c pk : Int) (l : List Row) (k x y : Int) (L : List Int) (r : List Asn) : holdsE c pk l ((k, x, y, L) :: r) = if totErr k x y L c pk l ≠ 0 then totErr k x y L c pk l else holdsE c pk l r := rfl
theorem all_step {α : Type} {p : α → Bool} {qs : List α} {t : Nat} {a : α} (h : qs[t]? = some a) : (qs.take (t + 1)).all p = ((qs.take t).all p && p a) := by
  rw [List.take_add_one, h]
  simp
structure HoldIs (c pk : Int) (l : List Row) (qs : List Asn) (b : Bool) (e : Int) : Prop where
  b : holdB c pk l qs = b
  e : holdErr c pk l qs = e
theorem holdIs_bad {c pk e : Int} {l : List Row} {qs : List Asn} (h : holdErr c pk l qs = e) (he : e ≠ 0) : HoldIs c pk l qs false e := ⟨by unfold holdB; rw [h, if_neg he], h⟩
theorem holdIs_ok {c pk : Int} {l : List Row} {qs : List Asn} (h : holdErr c pk l qs = 0) : HoldIs c pk l qs (qs.all (aHold c pk l)) 0 := ⟨by unfold holdB; rw [h, if_pos rfl], h⟩
end Go.Proofs.YtoeajgjpakilgaaGreat

namespace Go.Proofs.YtoeajgjpakilgaaGreat
open Go.RowKit Go.Proofs Go.Shelf
attribute [local go_sem] cell?_more cell?_alloc_some cell?_setCell_far frozen?_alloc_some frozen?_more
theorem ret_bi {a a' : Bool} {b b' : Int} (h1 : a = a') (h2 : b = b') : Ending.returned (.tuple #[.bool a, .int .i64 b]) = .returned (.tuple #[.bool a', .int .i64 b']) := by rw [h1, h2]

set_option maxRecDepth 100000 in
set_option maxHeartbeats 1000000 in
theorem holds_any (C pk : Int) (Ar : Option Addr) (nr cr : Nat) (l : List Row) (Aa : Option Addr) (na ca : Nat) (qs : List Asn) (w : World) (hr : RRows w Ar nr cr l) (hA : RAgg EAsn 4 w Aa na ca qs) :
    Calls Tryz.prog 11 #[.agg #[.int .i64 C, .int .u8 pk, .slice Ar nr cr], .slice Aa na ca] w fun e w' => e = .returned (.tuple #[.bool (holdB C pk l qs), .int .i64 (holdErr C pk l qs)]) ∧ Below w.heap.size w w' := by
  have hle := hA.le
  have hlen := hide hA.len
  have hb : Below w.heap.size w (w.alloc (.cells #[.int .i64 C, .int .u8 pk, .slice Ar nr cr] 27)) := below_allocN
  have hQ := Has.new w 27 #[.int .i64 C, .int .u8 pk, .slice Ar nr cr]
  go_enter Tryz.func11, Tryz.ntmps11
  go_upto_region 1 with fail
  generalize World.alloc w _ = W0 at hb hQ ⊢
  have q0 := hQ.cell 0
  have q1 := hQ.cell 1
  have q2 := hQ.cell 2
  have hC := pcheck_any C pk Ar nr cr l W0 (hr.below hb)
  by_cases hc0 : checkS C pk l = 0
  · have hE0 : Hid (holdErr C pk l qs = holdsE C pk l qs) := by unfold Hid holdErr; rw [if_neg (by simp [hc0])]
    rw [hc0] at hC
    clear hc0
    go_upto_region 4 with (go_at_call 19; refine hC.mono ?_; rintro e w1 ⟨rfl, hd⟩)
    clear hC
    replace hQ := hQ.below hd hQ.lt
    replace hb := Below_trans' hb hb.size hd
    clear q0 q1 q2 hd
    have q0 := hQ.cell 0
    have q1 := hQ.cell 1
    have q2 := hQ.cell 2
    go_wp2
    go_loopw [7, 20] (fun b i wr => ∃ (t : Nat) (B : Bool), t ≤ na ∧ i = .int .i64 t ∧ b = .bool B ∧ Hid ((qs.take t).all (aHold C pk l) = B) ∧ Hid (holdErr C pk l qs = holdsE C pk l (qs.drop t)) ∧ Below w1.heap.size w1 wr) (fun _ i _ => na - (intOf i).toNat)
    case atStart => exact ⟨0, true, Nat.zero_le _, rfl, rfl, rfl, hE0, Below.refl _ _⟩
    case round =>
      obtain ⟨t, B, ht, rfl, rfl, hBo, hEo, hB⟩ := hrel
      have hQr := hQ.below hB hQ.lt
      clear q0 q1 q2
      have q0 := hQr.cell 0
      have q1 := hQr.cell 1
      have q2 := hQr.cell 2
      have hbB := Below_trans' hb hb.size hB
      by_cases hlt : t < na
      · obtain ⟨b, off, vs, a, rfl, _, hc, ⟨A1, n1, c1, rfl, hL⟩, hd, hat⟩ := (hA.below below_asn hbB).step hlt
        obtain ⟨ka, xa, ya, La⟩ := a
        dsimp only at hc hL
        have p0 := hc 0 _ rfl
        have p1 := hc 1 _ rfl
        have p2 := hc 2 _ rfl
        have p3 := hc 3 _ rfl
        simp only [Nat.add_zero] at p0
        clear hc
        have hba : Below wr.heap.size wr (wr.alloc (.cells #[.int .u8 ka, .int .i64 xa, .int .i64 ya, .slice A1 n1 c1] 24)) := below_allocN
        have hHr := Has.new wr 24 #[.int .u8 ka, .int .i64 xa, .int .i64 ya, .slice A1 n1 c1]
        have hqq := hQr.below hba hQr.lt
        generalize hV : World.alloc wr _ = V at hba hHr hqq
        have hTot := total_any ka xa ya A1 n1 c1 La C pk Ar nr cr l V (hL.below hba) ((hr.below hbB).below hba)
        have hst : Hid (holdsE C pk l (qs.drop t) = if totErr ka xa ya La C pk l ≠ 0 then totErr ka xa ya La C pk l else holdsE C pk l (qs.drop (t + 1))) := by unfold Hid; rw [hd.out, holdsE_mk]
        have hal : Hid ((qs.take (t + 1)).all (aHold C pk l) = ((qs.take t).all (aHold C pk l) && decide (totN ka xa ya La C pk l < totV ka xa ya La C pk l))) := by unfold Hid; rw [all_step hat.out, aHold_mk]
        have hlt' : t < na := hlt
        generalize totErr ka xa ya La C pk l = tE at hTot hst
        generalize totV ka xa ya La C pk l = tV at hTot hal
        generalize totN ka xa ya La C pk l = tN at hTot hal
        clear hat hd hlt
        go_upto_region 8 with fail
        try rw [hV]
        clear hV p0 p1 p2 p3 q0 q1 q2
        have s0 := hHr.cell 0
        have s1 := hHr.cell 1
        have s2 := hHr.cell 2
        have s3 := hHr.cell 3
        have q0' := hqq.cell 0
        have q1' := hqq.cell 1
        have q2' := hqq.cell 2
        by_cases hz : tE = 0
        · subst hz
          have hE1 : Hid (holdErr C pk l qs = holdsE C pk l (qs.drop (t + 1))) := by unfold Hid; rw [hEo.out, hst.out]; rfl
          clear hst
          go_upto_region 11 with (go_at_call 8; refine hTot.mono ?_; rintro e w2 ⟨rfl, hb2⟩)
          have hB2 := Below_trans' (Below_trans' hB hB.size hba) (Below_trans' hB hB.size hba).size hb2
          cases B with
          | true =>
            have hB1 : Hid ((qs.take (t + 1)).all (aHold C pk l) = decide (tN < tV)) := by unfold Hid; rw [hal.out, hBo.out]; rfl
            go_wp2
            go_roundw
            case rel => exact ⟨t + 1, _, by omega, by go_num, rfl, hB1, hE1, hB2⟩
            case measure => simp [intOf] <;> omega
          | false =>
            have hB1 : Hid ((qs.take (t + 1)).all (aHold C pk l) = false) := by unfold Hid; rw [hal.out, hBo.out]; rfl
            go_wp2
            go_roundw
            case rel => exact ⟨t + 1, _, by omega, by go_num, rfl, hB1, hE1, hB2⟩
            case measure => simp [intOf] <;> omega
        · have b1 : (tE != 0) = true := by simp [hz]
          have hT : Hid (HoldIs C pk l qs false tE) := holdIs_bad (by rw [hEo.out, hst.out, if_pos hz]) hz
          clear hz
          go_wp2_with (go_at_call 8; refine hTot.mono ?_; rintro e w2 ⟨rfl, hb2⟩)
          go_ret2
          exact ⟨ret_bi hT.out.b.symm hT.out.e.symm, Below_trans' (Below_trans' hbB hbB.size hba) (Below_trans' hbB hbB.size hba).size hb2⟩
      · have hT : Hid (HoldIs C pk l qs B 0) := by
          have h1 := hBo.out
          have h2 := hEo.out
          rw [List.drop_of_length_le (by rw [hlen.out]; omega)] at h2
          rw [List.take_of_length_le (by rw [hlen.out]; omega)] at h1
          exact h1 ▸ holdIs_ok h2
        go_wp2
        go_ret2
        exact ⟨ret_bi hT.out.b.symm hT.out.e.symm, hbB⟩
  · have hT : Hid (HoldIs C pk l qs false (checkS C pk l)) := holdIs_bad (by unfold holdErr; rw [if_pos hc0]) hc0
    have b1 : (checkS C pk l != 0) = true := by simp [hc0]
    generalize checkS C pk l = ce at *
    clear hc0
    go_wp2_with (go_at_call 19; refine hC.mono ?_; rintro e w2 ⟨rfl, hd⟩)
    replace hb := Below_trans' hb hb.size hd
    go_ret2
    exact ⟨ret_bi hT.out.b.symm hT.out.e.symm, hb⟩

end Go.Proofs.YtoeajgjpakilgaaGreat
