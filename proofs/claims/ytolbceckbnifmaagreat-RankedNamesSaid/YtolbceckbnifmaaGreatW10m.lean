/-
  Of, in the reference.
-/
import Derived.Test.YtolbceckbnifmaaGreatW10f
namespace Go.Proofs.YtolbceckbnifmaaGreat
open Go.RowKit Go.Proofs
attribute [local go_sem] cell?_more cell?_alloc_some cell?_setCell_far frozen?_alloc_some frozen?_more
/-- The matrix as the reference makes it: (X, Y) counts the first i rows. -/
def refT (k : Int) (l : List Row) (cn X Y i : Nat) : M := fun a b => if a = X ∧ b = Y then ofM k l cn i X Y else upFrom (fun _ _ => 0) (ofM k l cn l.length) X Y a b

theorem refT_zero (k : Int) (l : List Row) (cn X Y a b : Nat) : upFrom (fun _ _ => 0) (ofM k l cn l.length) X Y a b = refT k l cn X Y 0 a b := by
  unfold refT
  split
  · rename_i hh; obtain ⟨rfl, rfl⟩ := hh; rw [upFrom_here, ← ofM_zero]
  · rfl
theorem refT_put (k : Int) (l : List Row) (cn X Y i a b : Nat) : (if a = X ∧ b = Y then ofM k l cn (i + 1) X Y else refT k l cn X Y i a b) = refT k l cn X Y (i + 1) a b := by
  unfold refT
  split <;> rfl
theorem refT_same {k : Int} {l : List Row} {cn X Y i : Nat} (e : ofM k l cn (i + 1) X Y = ofM k l cn i X Y) (a b : Nat) : refT k l cn X Y i a b = refT k l cn X Y (i + 1) a b := by
  unfold refT
  rw [e]
theorem refT_here (k : Int) (l : List Row) (cn X Y i : Nat) : refT k l cn X Y i X Y = ofM k l cn i X Y := by unfold refT; rw [if_pos ⟨rfl, rfl⟩]
theorem refT_end (k : Int) (l : List Row) (cn X Y a b : Nat) : refT k l cn X Y l.length a b = upFrom (fun _ _ => 0) (ofM k l cn l.length) X (Y + 1) a b := by
  unfold refT; rw [upFrom_put]

set_option maxRecDepth 100000 in
set_option maxHeartbeats 4000000 in
theorem rof10_any (c k : Int) (A : Option Addr) (n cp : Nat) (l : List Row) (w : World) (h : RRows w A n cp l) :
    Calls Tryz.prog 61 #[.agg #[.int .i64 c, .int .u8 k, .slice A n cp]] w (POfPost w c k l) := by
  have hn := h.le
  have hl := h.len
  have hP0 : Has (((w.alloc (.cells #[.int .i64 c, .int .u8 k, .slice A n cp] 27)).alloc (.cells Tryz.zeroCells24 24)).alloc (.cells Tryz.zeroCells24 24)) w.heap.size 27 #[.int .i64 c, .int .u8 k, .slice A n cp] := ((Has.new _ _ _).alloc _).alloc _
  have hZ0 : Has (((w.alloc (.cells #[.int .i64 c, .int .u8 k, .slice A n cp] 27)).alloc (.cells Tryz.zeroCells24 24)).alloc (.cells Tryz.zeroCells24 24)) (w.heap.size + 1) 24 Tryz.zeroCells24 := (Has.new2 _ _ _ _).alloc _
  have hN0 : Has (((w.alloc (.cells #[.int .i64 c, .int .u8 k, .slice A n cp] 27)).alloc (.cells Tryz.zeroCells24 24)).alloc (.cells Tryz.zeroCells24 24)) (w.heap.size + 2) 24 Tryz.zeroCells24 := Has.new3 _ _ _ _ _
  have hb0 : Below w.heap.size w (((w.alloc (.cells #[.int .i64 c, .int .u8 k, .slice A n cp] 27)).alloc (.cells Tryz.zeroCells24 24)).alloc (.cells Tryz.zeroCells24 24)) :=
    (((Below.refl _ _).alloc (Nat.le_refl _) _).alloc (by simp) _).alloc (by simp; omega) _
  by_cases herr : checkS c k l = 0
  · have hr : Hid (ofR c k l = ofM k l c.toNat l.length) := by unfold Hid ofR; rw [if_pos herr]
    go_enter Tryz.func61, Tryz.ntmps61
    go_wp2_with fail
    refine (rcheck_any _ _ _ _ _ l _ (h.below hb0)).mono ?_
    rintro e w1 ⟨rfl, hbw1⟩
    have hP1 := hP0.below hbw1 hP0.lt
    have hZ1 := hZ0.below hbw1 hZ0.lt
    have hN1 := hN0.below hbw1 hN0.lt
    have hb1 := Below_trans' hb0 hb0.size hbw1
    clear hbw1 hP0 hZ0 hN0 hb0
    have p0 : w1.cell? ⟨w.heap.size, 0, none⟩ = some (.int .i64 c) := hP1.cell 0
    have p1 : w1.cell? ⟨w.heap.size, 1, none⟩ = some (.int .u8 k) := hP1.cell 1
    have p2 : w1.cell? ⟨w.heap.size, 2, none⟩ = some (.slice A n cp) := hP1.cell 2
    go_wp2_with fail
    have H0 := hide herr
    obtain ⟨k64, c1, c2, k1, k2, ht, hall⟩ := check_ok herr
    have Hall := hide hall
    have Ht := hide ht
    clear herr hall ht p0 p1 p2
    obtain ⟨cn, rfl⟩ : ∃ cn : Nat, c = cn := ⟨c.toNat, by omega⟩
    simp only [Int.toNat_natCast] at hr
    go_loopw [6] (fun i wr => ∃ (X : Nat) (R : Array Value), X ≤ cn ∧ i = .int .i64 X ∧ Has wr w.heap.size 27 #[.int .i64 (cn : Int), .int .u8 k, .slice A n cp] ∧ Has wr (w.heap.size + 1) 24 Tryz.zeroCells24 ∧ Has wr (w.heap.size + 2) 24 R ∧ Mat R (upFrom (fun _ _ => 0) (ofM k l cn l.length) X 0) ∧ Below w.heap.size w wr) (fun i _ => cn - (intOf i).toNat)
    case atStart => exact ⟨0, _, by omega, rfl, hP1, hZ1, hN1, zeroMat.congr (fun x y _ _ => upFrom_zero (fun _ _ => 0) (ofM k l cn l.length) x y), hb1⟩
    case round =>
      obtain ⟨X, R, hX, rfl, hP, hZ, hN, hM, hb⟩ := hrel
      obtain ⟨wx, rfl⟩ : ∃ wx : World, wx = wr := ⟨_, rfl⟩
      have p0 : wx.cell? ⟨w.heap.size, 0, none⟩ = some (.int .i64 (cn : Int)) := hP.cell 0
      by_cases hltX : X < cn
      · have b1 : (X : Int) < 10 := by omega
        go_wp2
        go_loopw [7] (fun i wr => ∃ (Y : Nat) (R : Array Value), Y ≤ cn ∧ i = .int .i64 Y ∧ Has wr w.heap.size 27 #[.int .i64 (cn : Int), .int .u8 k, .slice A n cp] ∧ Has wr (w.heap.size + 1) 24 Tryz.zeroCells24 ∧ Has wr (w.heap.size + 2) 24 R ∧ Mat R (upFrom (fun _ _ => 0) (ofM k l cn l.length) X Y) ∧ Below w.heap.size w wr) (fun i _ => cn - (intOf i).toNat)
        case atStart => exact ⟨0, R, by omega, rfl, hP, hZ, hN, hM, hb⟩
        case round =>
          obtain ⟨Y, R, hY, rfl, hP, hZ, hN, hM, hb⟩ := hrel
          obtain ⟨wy, rfl⟩ : ∃ wy : World, wy = wr := ⟨_, rfl⟩
          have p0 : wy.cell? ⟨w.heap.size, 0, none⟩ = some (.int .i64 (cn : Int)) := hP.cell 0
          by_cases hltY : Y < cn
          · have b2 : (Y : Int) < 10 := by omega
            go_wp2
            go_loopw [8] (fun i wr => ∃ (t : Nat) (R : Array Value), t ≤ n ∧ i = .int .i64 t ∧ Has wr w.heap.size 27 #[.int .i64 (cn : Int), .int .u8 k, .slice A n cp] ∧ Has wr (w.heap.size + 1) 24 Tryz.zeroCells24 ∧ Has wr (w.heap.size + 2) 24 R ∧ Mat R (refT k l cn X Y t) ∧ Below w.heap.size w wr) (fun i _ => n - (intOf i).toNat)
            case atStart => exact ⟨0, R, by omega, rfl, hP, hZ, hN, hM.congr (fun x y _ _ => refT_zero k l cn X Y x y), hb⟩
            case round =>
              obtain ⟨t, R', htn, rfl, hP', hZ', hN', hM', hb'⟩ := hrel
              have p0 : wr.cell? ⟨w.heap.size, 0, none⟩ = some (.int .i64 (cn : Int)) := hP'.cell 0
              have p1 : wr.cell? ⟨w.heap.size, 1, none⟩ = some (.int .u8 k) := hP'.cell 1
              have p2 : wr.cell? ⟨w.heap.size, 2, none⟩ = some (.slice A n cp) := hP'.cell 2
              by_cases hlt : t < n
              · obtain ⟨b, off, Am, nm, cm, ms, y, rfl, hc0, hm0, hc1, hd, hat, hy⟩ := (h.below hb').step hlt
                have b3 : (0 : Int) ≤ (t : Int) := by omega
                have b4 : (t : Int) < (n : Int) := by omega
                have hy0 := rowOK_many (Hall.out t (by omega))
                rw [getD_of hat.out] at hy0
                simp only at hy0
                cases hpf : prefersS k ms X Y with
                | true =>
                  have hMp := hide ((hM'.put (x := X) (y := Y) (by omega) (by omega) (v := ofM k l cn (t + 1) X Y) (by have := ofM_bd H0.out cn (i := t + 1) (by omega) X Y; unfold I64; omega)).congr (fun x y _ _ => refT_put k l cn X Y t x y))
                  have hval := hide (ofM_yes hat.out hltX hltY hpf)
                  have hbd := ofM_bd H0.out cn (i := t) (by omega) X Y
                  have hbd' := ofM_bd H0.out cn (i := t + 1) (by omega) X Y
                  rw [hval.out] at hbd'
                  have hcell := hide (hM'.at_ X Y (by omega) (by omega))
                  go_wp2
                  refine wp_region_more (by kernel_rfl) (by kernel_rfl) ?_
                  repeat (go_big_quiet_step ((go_at_call 92; exact more_of (rprefers_any _ _ _ _ ms _ _ _ (hm0.more _)))))
                  refine wpQuiet_nil ?_
                  rintro w2 ⟨qw2, hww2⟩
                  have hbw2 := below_of_eq hww2
                  clear hww2 qw2
                  rw [hpf]
                  have hP2 := hP'.below hbw2 hP'.lt
                  have hZ2 := hZ'.below hbw2 hZ'.lt
                  have hN2 := hN'.below hbw2 hN'.lt
                  have hb2 := Below_trans' hb' hb'.size hbw2
                  clear hP' hZ' hN' hb'
                  generalize hv : ofM k l cn t X Y = v at hcell hbd hbd'
                  have Hv := hide hv
                  clear hv
                  have hcc := ((hN2.drew).cell (X * 10 + Y)).trans hcell.out
                  rw [refT_here, Hv.out] at hcc
                  have hfr := hN2.drew.free (X * 10 + Y)
                  have e4 : IntKind.i64.wrap (v + y) = v + y := IntWalk.i64_in _ (by omega)
                  have hbd2 : Below w2.heap.size w2 w2.drew := (Below.refl _ _).drew
                  have g0 := keep_cell hbd2 (keep_cell hbw2 hc0)
                  have g1 := keep_cell hbd2 (keep_cell hbw2 hc1)
                  have g2 := keep_cell hbd2 (keep_cell hbw2 p2)
                  clear hbw2
                  go_wp2
                  refine wp_region_still_tail 16 (by kernel_rfl) (by kernel_rfl) ?_
                  simp only [List.take_succ_cons, List.take_zero, List.drop_succ_cons, List.drop_zero]
                  change wpStill _ _ (World.drew _) _ _ _
                  repeat still_step
                  refine wpStill_nil ?_
                  go_wp2
                  go_roundw
                  case rel =>
                    refine ⟨t + 1, _, by omega, by go_num, hP2.drew.far (by show w.heap.size ≠ w.heap.size + 2; omega) _, hZ2.drew.far (by show w.heap.size + 1 ≠ w.heap.size + 2; omega) _, hN2.drew.put _ _, ?_, (below_drewN hb2 1).setCell (by show w.heap.size ≤ w.heap.size + 2; omega) _⟩
                    have := hMp.out
                    rw [hval.out] at this
                    simp only [Hv.out] at this
                    exact this
                  case measure => simp [intOf] <;> omega
                | false =>
                  have hval := hide (ofM_no hat.out hltX hltY hpf)
                  go_wp2
                  refine wp_region_more (by kernel_rfl) (by kernel_rfl) ?_
                  repeat (go_big_quiet_step ((go_at_call 92; exact more_of (rprefers_any _ _ _ _ ms _ _ _ (hm0.more _)))))
                  refine wpQuiet_nil ?_
                  rintro w2 ⟨qw2, hww2⟩
                  have hbw2 := below_of_eq hww2
                  clear hww2 qw2
                  rw [hpf]
                  have hP2 := hP'.below hbw2 hP'.lt
                  have hZ2 := hZ'.below hbw2 hZ'.lt
                  have hN2 := hN'.below hbw2 hN'.lt
                  have hb2 := Below_trans' hb' hb'.size hbw2
                  clear hP' hZ' hN' hb'
                  clear hbw2
                  go_wp2
                  go_roundw
                  case rel =>
                    exact ⟨t + 1, R', by omega, by go_num, hP2, hZ2, hN2, hM'.congr (fun x y _ _ => refT_same hval.out x y), hb2⟩
                  case measure => simp [intOf] <;> omega
              · have htn' := hide (show t = l.length by omega)
                have b2 : ¬ (t : Int) < n := by omega
                clear hlt htn
                go_wp2
                go_roundw
                case rel => exact ⟨Y + 1, R', by omega, by go_num, hP', hZ', hN', hM'.congr (fun x y _ _ => by rw [htn'.out]; exact refT_end k l cn X Y x y), hb'⟩
                case measure => simp [intOf] <;> omega
          · have hYn := hide (show Y = cn by omega)
            have b2 : ¬ (Y : Int) < cn := by omega
            clear hltY hY
            go_wp2
            go_roundw
            case rel => exact ⟨X + 1, R, by omega, by go_num, hP, hZ, hN, hM.congr (fun x y _ _ => by rw [hYn.out]; exact upFrom_rowAt x y (fun hh => by unfold ofM; rw [if_neg (by omega)])), hb⟩
            case measure => simp [intOf] <;> omega
      · have hXn := hide (show X = cn by omega)
        have b2 : ¬ (X : Int) < cn := by omega
        clear hltX hX
        go_wp2_with (first | (refine ldMat rfl rfl rfl hN hM.size ?_) | (refine stMat rfl rfl rfl rfl hZ zeroMat.size hM.size hM.one ?_))
        refine retMat2 rfl rfl rfl (hZ.setRow _) hM.size rfl ⟨_, by rw [H0.out]; rfl, ?_, below_setRow hb (by omega) _⟩
        rw [hr.out]
        exact hM.congr (fun x y _ _ => by rw [hXn.out]; exact upFrom_end x y (fun hh => by unfold ofM; rw [if_neg (by omega)]))
  · have hr : Hid (ofR c k l = fun _ _ => 0) := by unfold Hid ofR; rw [if_neg herr]
    have hne : (checkS c k l != 0) = true := by rw [bne_iff_ne]; exact herr
    go_enter Tryz.func61, Tryz.ntmps61
    go_wp2_with fail
    refine (rcheck_any _ _ _ _ _ l _ (h.below hb0)).mono ?_
    rintro e w1 ⟨rfl, hbw1⟩
    have hP1 := hP0.below hbw1 hP0.lt
    have hZ1 := hZ0.below hbw1 hZ0.lt
    have hN1 := hN0.below hbw1 hN0.lt
    have hb1 := Below_trans' hb0 hb0.size hbw1
    clear hbw1 hP0 hZ0 hN0 hb0
    have p0 : w1.cell? ⟨w.heap.size, 0, none⟩ = some (.int .i64 c) := hP1.cell 0
    have p1 : w1.cell? ⟨w.heap.size, 1, none⟩ = some (.int .u8 k) := hP1.cell 1
    have p2 : w1.cell? ⟨w.heap.size, 2, none⟩ = some (.slice A n cp) := hP1.cell 2
    go_wp2_with (first | (refine ldMat rfl rfl rfl hN1 zeroMat.size ?_) | (refine stMat rfl rfl rfl rfl hZ1 zeroMat.size zeroMat.size zeroMat.one ?_))
    refine retMat2 rfl rfl rfl (hZ1.setRow _) zeroMat.size rfl ⟨_, rfl, by rw [hr.out]; exact zeroMat, below_setRow hb1 (by omega) _⟩
end Go.Proofs.YtolbceckbnifmaaGreat
