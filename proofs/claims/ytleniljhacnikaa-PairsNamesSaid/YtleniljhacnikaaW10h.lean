/-
  Rename, in the program.
-/
import Derived.Test.YtleniljhacnikaaW10g
import Derived.Test.YtleniljhacnikaaSpecA
namespace Go.Proofs.Ytleniljhacnikaa
open Go.RowKit Go.Proofs
attribute [local go_sem] cell?_more cell?_alloc_some cell?_setCell_far frozen?_alloc_some frozen?_more

/-- An element of a permutation: a number below ten. -/
theorem turned_elem {p : List Int} (ht : turnedS p = true) {X : Nat} {v : Int} (h : p[X]? = some v) : ∃ u : Nat, v = (u : Int) ∧ u < 10 := by
  have := (turned_iff.1 ht).2.2 v (List.mem_of_getElem? h)
  exact ⟨v.toNat, by omega, by omega⟩

set_option maxRecDepth 100000 in
set_option maxHeartbeats 4000000 in
theorem rename_any (C : Array Value) (m : M) (hC : Mat C m) (A : Option Addr) (n cp : Nat) (p : List Int) (w : World) (h : RInts w A n cp p) :
    Calls Try.prog 20 #[.agg C, .slice A n cp] w fun e w' => ∃ R, e = .returned (.tuple #[.agg R, .int .i64 (renErr m p)]) ∧ Mat R (renM m p) ∧ Below w.heap.size w w' := by
  have hsC := hC.size
  have hn := h.le
  have hl := h.len
  have hA0 : Has ((w.alloc (.cells C 27)).alloc (.cells Try.zeroCells27 27)) w.heap.size 27 C := (Has.new _ _ _).alloc _
  have hZ0 : Has ((w.alloc (.cells C 27)).alloc (.cells Try.zeroCells27 27)) (w.heap.size + 1) 27 Try.zeroCells27 := Has.new2 _ _ _ _
  have hb0 : Below w.heap.size w ((w.alloc (.cells C 27)).alloc (.cells Try.zeroCells27 27)) :=
    ((Below.refl _ _).alloc (Nat.le_refl _) _).alloc (by simp) _
  cases e1 : turnedS p with
  | false =>
    have hr : Hid (renErr m p = 2 ∧ renM m p = fun _ _ => 0) := by
      have : renErr m p = 2 := by unfold renErr; rw [if_neg (by simp [e1])]
      exact ⟨this, by unfold renM; rw [if_neg (by omega)]⟩
    go_enter Try.func20, Try.ntmps20
    go_wp2_with fail
    refine (pturned_any _ _ _ p _ (h.below hb0)).mono ?_
    rintro e w1 ⟨rfl, hbw1⟩
    have hA1 := hA0.below hbw1 hA0.lt
    have hZ1 := hZ0.below hbw1 hZ0.lt
    have hb1 := Below_trans' hb0 hb0.size hbw1
    clear hbw1 hA0 hZ0 hb0
    go_wp2_with (first | (refine ldMat rfl rfl rfl hZ1 zeroMat.size ?_) | (refine stMat rfl rfl rfl rfl hZ1 zeroMat.size zeroMat.size zeroMat.one ?_))
    refine retMat2 rfl rfl rfl (hZ1.setRow _) zeroMat.size rfl ⟨_, by rw [hr.out.1]; rfl, by rw [hr.out.2]; exact zeroMat, below_setRow hb1 (by omega) _⟩
  | true =>
    cases e2 : rightS m p.length with
    | false =>
      have hr : Hid (renErr m p = 8 ∧ renM m p = fun _ _ => 0) := by
        have : renErr m p = 8 := by unfold renErr; rw [if_pos e1, if_neg (by simp [e2])]
        exact ⟨this, by unfold renM; rw [if_neg (by omega)]⟩
      go_enter Try.func20, Try.ntmps20
      go_wp2_with fail
      refine (pturned_any _ _ _ p _ (h.below hb0)).mono ?_
      rintro e w1 ⟨rfl, hbw1⟩
      have hA1 := hA0.below hbw1 hA0.lt
      have hZ1 := hZ0.below hbw1 hZ0.lt
      have hb1 := Below_trans' hb0 hb0.size hbw1
      clear hbw1 hA0 hZ0 hb0
      rw [hl] at e2
      go_wp2_with (refine ldMat rfl rfl rfl hA1 hsC ?_)
      refine (right_any C m hC _ _).mono ?_
      rintro e w2 ⟨rfl, hbw2⟩
      have hA2 := hA1.below hbw2 hA1.lt
      have hZ2 := hZ1.below hbw2 hZ1.lt
      have hb2 := Below_trans' hb1 hb1.size hbw2
      clear hbw2 hA1 hZ1 hb1
      go_wp2_with (first | (refine ldMat rfl rfl rfl hZ2 zeroMat.size ?_) | (refine stMat rfl rfl rfl rfl hZ2 zeroMat.size zeroMat.size zeroMat.one ?_))
      refine retMat2 rfl rfl rfl (hZ2.setRow _) zeroMat.size rfl ⟨_, by rw [hr.out.1]; rfl, by rw [hr.out.2]; exact zeroMat, below_setRow hb2 (by omega) _⟩
    | true =>
      have hr : Hid (renErr m p = 0 ∧ renM m p = renA m p) := by
        have : renErr m p = 0 := by unfold renErr; rw [if_pos e1, if_pos e2]
        exact ⟨this, by unfold renM; rw [if_pos this]⟩
      go_enter Try.func20, Try.ntmps20
      go_wp2_with fail
      refine (pturned_any _ _ _ p _ (h.below hb0)).mono ?_
      rintro e w1 ⟨rfl, hbw1⟩
      have hA1 := hA0.below hbw1 hA0.lt
      have hZ1 := hZ0.below hbw1 hZ0.lt
      have hb1 := Below_trans' hb0 hb0.size hbw1
      clear hbw1 hA0 hZ0 hb0
      rw [hl] at e2
      go_wp2_with (refine ldMat rfl rfl rfl hA1 hsC ?_)
      refine (right_any C m hC _ _).mono ?_
      rintro e w2 ⟨rfl, hbw2⟩
      have hA2 := hA1.below hbw2 hA1.lt
      have hZ2 := hZ1.below hbw2 hZ1.lt
      have hb2 := Below_trans' hb1 hb1.size hbw2
      clear hbw2 hA1 hZ1 hb1
      go_wp2
      have H1 := hide e1
      have H2 := hide e2
      have hnd := hide (turned_iff.1 e1).2.1
      have hn10 : n ≤ 10 := by have := (turned_perm.1 e1).2.1; omega
      clear e1 e2
      go_loopw [22] (fun i wr => ∃ (X : Nat) (R : Array Value), X ≤ n ∧ i = .int .i64 X ∧ Has wr w.heap.size 27 C ∧ Has wr (w.heap.size + 1) 27 R ∧ Mat R (renT m p X 0) ∧ Below w.heap.size w wr) (fun i _ => n - (intOf i).toNat)
      case atStart => exact ⟨0, _, by omega, rfl, hA2, hZ2, zeroMat.congr (fun x y _ _ => renT_zero m p x y), hb2⟩
      case round =>
        obtain ⟨X, R, hX, rfl, hA, hZ, hM, hb⟩ := hrel
        obtain ⟨wo, rfl⟩ : ∃ wo : World, wo = wr := ⟨_, rfl⟩
        by_cases hlt : X < n
        · have b1 : (X : Int) < 10 := by omega
          obtain ⟨bl, off, v, rfl, hcx, hdx, hatx, v0, v1⟩ := (h.below hb).step hlt
          obtain ⟨u, rfl, hu10⟩ := turned_elem H1.out hatx.out
          have b3 : (u : Int) < 10 := by omega
          go_wp2
          go_loopw [29] (fun i wr => ∃ (Y : Nat) (R : Array Value), Y ≤ n ∧ i = .int .i64 Y ∧ Has wr w.heap.size 27 C ∧ Has wr (w.heap.size + 1) 27 R ∧ Mat R (renT m p X Y) ∧ Below w.heap.size w wr) (fun i _ => n - (intOf i).toNat)
          case atStart => exact ⟨0, R, by omega, rfl, hA, hZ, hM, hb⟩
          case round =>
            obtain ⟨Y, R', hY, rfl, hA', hZ', hM', hb'⟩ := hrel
            by_cases hltY : Y < n
            · have b2 : (Y : Int) < 10 := by omega
              obtain ⟨bl', off', v', eA, hcy, hdy, haty, v0', v1'⟩ := (h.below hb').step hltY
              cases eA
              obtain ⟨u', rfl, hu10'⟩ := turned_elem H1.out haty.out
              have b4 : (u' : Int) < 10 := by omega
              have hcell := ((hA'.drew).cell (X * 10 + Y)).trans (hC.at_ X Y (by omega) (by omega))
              have hcold := ((hZ'.drew).cell (u * 10 + u')).trans (hM'.at_ u u' hu10 hu10')
              have hfr := hZ'.drew.free (u * 10 + u')
              go_wp2
              refine wp_region_still_tail 9 (by kernel_rfl) (by kernel_rfl) ?_
              simp only [List.take_succ_cons, List.take_zero, List.drop_succ_cons, List.drop_zero]
              change wpStill _ _ (World.drew _) _ _ _
              repeat still_step
              refine wpStill_nil ?_
              go_wp2
              go_roundw
              case rel =>
                exact ⟨Y + 1, _, by omega, by go_num, hA'.drew.far (by show w.heap.size ≠ w.heap.size + 1; omega) _, hZ'.drew.put _ _, (hM'.put hu10 hu10' (hC.bd X Y (by omega) (by omega))).congr (fun x y _ _ => renT_put hnd.out hatx.out haty.out x y), (below_drewN hb' 1).setCell (by show w.heap.size ≤ w.heap.size + 1; omega) _⟩
              case measure => simp [intOf] <;> omega
            · have hY10 := hide (show Y = p.length by omega)
              have b2 : ¬ (Y : Int) < n := by omega
              clear hltY hY
              go_wp2
              go_roundw
              case rel =>
                exact ⟨X + 1, R', by omega, by go_num, hA', hZ', hM'.congr (fun x y _ _ => by rw [hY10.out]; exact renT_row x y), hb'⟩
              case measure => simp [intOf] <;> omega
        · have hX10 := hide (show X = p.length by omega)
          have b2 : ¬ (X : Int) < n := by omega
          clear hlt hX
          have hM2 : Mat R (renA m p) := hM.congr (fun x y hx _ => by rw [hX10.out, renT_all x y])
          have hsR := hM.size
          go_wp2_with (first | (refine ldMat rfl rfl rfl hZ hsR ?_) | (refine stMat rfl rfl rfl rfl hZ hsR hsR hM2.one ?_))
          refine retMat2 rfl rfl rfl (hZ.setRow _) hsR rfl ⟨_, by rw [hr.out.1]; rfl, by rw [hr.out.2]; exact hM2, below_setRow hb (by omega) _⟩
end Go.Proofs.Ytleniljhacnikaa
