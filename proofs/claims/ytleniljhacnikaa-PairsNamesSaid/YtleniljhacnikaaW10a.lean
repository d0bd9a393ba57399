/-
  The layer pairs: Turn.
-/
import Derived.Test.YtleniljhacnikaaW9d
import Derived.Test.YtleniljhacnikaaMat
namespace Go.Proofs.Ytleniljhacnikaa
open Go.RowKit Go.Proofs
attribute [local go_sem] cell?_more cell?_alloc_some cell?_setCell_far frozen?_alloc_some frozen?_more

/-- The transpose as it is being made: rows of the source before X, and of row X the columns before Y. -/
def trS (m : M) (X Y : Nat) : M := fun a b => if b < X ∨ (b = X ∧ a < Y) then m b a else 0

set_option maxRecDepth 100000 in
set_option maxHeartbeats 1000000 in
theorem turn_any (C : Array Value) (m : M) (hC : Mat C m) (w : World) :
    Calls Try.prog 30 #[.agg C] w fun e w' => ∃ D, e = .returned (.agg D) ∧ Mat D (fun x y => m y x) ∧ Below w.heap.size w w' := by
  have hs := hC.size
  have hg0 : Has ((w.alloc (.cells C 27)).alloc (.cells Try.zeroCells27 27)) w.heap.size 27 C := (Has.new _ _ _).alloc _
  go_enter Try.func30, Try.ntmps30
  go_wp2_with (refine ldMat rfl rfl rfl hg0 hs ?_)
  have hb0 : Below w.heap.size w ((w.alloc (.cells C 27)).alloc (.cells Try.zeroCells27 27)) := ((Below.refl _ _).alloc (Nat.le_refl _) _).alloc (by simp) _
  go_loopw [8] (fun i wr => ∃ (X : Nat) (D : Array Value), X ≤ 10 ∧ i = .int .i64 X ∧ Has wr (w.heap.size + 1) 27 D ∧ Mat D (trS m X 0) ∧ Below w.heap.size w wr) (fun i _ => 10 - (intOf i).toNat)
  case atStart => exact ⟨0, _, by omega, rfl, Has.new2 _ _ _ _, zeroMat.congr (fun x y _ _ => by simp [trS]), hb0⟩
  case round =>
    obtain ⟨X, D, hX, rfl, hD, hM, hb⟩ := hrel
    obtain ⟨wo, rfl⟩ : ∃ wo : World, wo = wr := ⟨_, rfl⟩
    by_cases hlt : X < 10
    · have hRow := hC.row hlt
      have b1 : (X : Int) < 10 := by omega
      obtain ⟨R, hRd⟩ : ∃ R, C.extract (X * 10) (X * 10 + 10) = R := ⟨_, rfl⟩
      rw [hRd] at hRow
      have hix := ixMat hlt hRd
      clear hRd
      have hRs := hRow.size
      have hR1 := hRow.one
      go_wp2_with (first
        | (refine stRow rfl rfl rfl rfl (Has.new _ _ _) rfl hRs hR1 ?_)
        | (refine ldRow rfl rfl rfl ((Has.new _ _ _).setRow _) hRs ?_))
      have hb1 : Below w.heap.size w ((wo.alloc (.cells #[.int .i64 0, .int .i64 0, .int .i64 0, .int .i64 0, .int .i64 0, .int .i64 0, .int .i64 0, .int .i64 0, .int .i64 0, .int .i64 0] 25)).setRow wo.heap.size R) :=
        below_setRow (hb.alloc hb.size _) hb.size R
      have hD1 : Has ((wo.alloc (.cells #[.int .i64 0, .int .i64 0, .int .i64 0, .int .i64 0, .int .i64 0, .int .i64 0, .int .i64 0, .int .i64 0, .int .i64 0, .int .i64 0] 25)).setRow wo.heap.size R) (w.heap.size + 1) 27 D :=
        (hD.alloc _).farRow (by have := hD.lt; omega) _
      go_loopw [13] (fun i wr => ∃ (Y : Nat) (D : Array Value), Y ≤ 10 ∧ i = .int .i64 Y ∧ Has wr (w.heap.size + 1) 27 D ∧ Mat D (trS m X Y) ∧ Below w.heap.size w wr) (fun i _ => 10 - (intOf i).toNat)
      case atStart => exact ⟨0, D, by omega, rfl, hD1, hM, hb1⟩
      case round =>
        obtain ⟨Y, D', hY, rfl, hD', hM', hb'⟩ := hrel
        by_cases hltY : Y < 10
        · have hix2 := ixRow hRow hltY
          have b2 : (Y : Int) < 10 := by omega
          have hcell := (hD'.cell (Y * 10 + X)).trans (hM'.at_ Y X hltY hlt)
          have hfr := hD'.free (Y * 10 + X)
          go_wp2
          go_roundw
          case rel =>
            refine ⟨Y + 1, _, by omega, by go_num, hD'.put _ _, (hM'.put hltY hlt (hC.bd X Y hlt hltY)).congr ?_, hb'.setCell (by show w.heap.size ≤ w.heap.size + 1; omega) _⟩
            intro a b ha hb2
            unfold trS
            by_cases e : a = Y ∧ b = X
            · obtain ⟨rfl, rfl⟩ := e; simp
            · rw [if_neg e]
              by_cases e2 : b < X ∨ (b = X ∧ a < Y)
              · rw [if_pos e2, if_pos (by omega)]
              · rw [if_neg e2, if_neg (by omega)]
          case measure => simp [intOf] <;> omega
        · obtain rfl : Y = 10 := by omega
          go_wp2
          go_roundw
          case rel =>
            refine ⟨X + 1, D', by omega, by go_num, hD', hM'.congr ?_, hb'⟩
            intro a b ha hb2
            unfold trS
            by_cases e2 : b < X ∨ (b = X ∧ a < 10)
            · rw [if_pos e2, if_pos (by omega)]
            · rw [if_neg e2, if_neg (by omega)]
          case measure => simp [intOf] <;> omega
    · obtain rfl : X = 10 := by omega
      go_wp2_with (first | (refine ldMat rfl rfl rfl hD hM.size ?_) | (refine stMat rfl rfl rfl rfl hD hM.size hM.size hM.one ?_))
      refine retMat rfl rfl (hD.setRow D) hM.size rfl ⟨D, rfl, hM.congr ?_, below_setRow hb (by omega) _⟩
      intro a b ha hb2
      unfold trS
      rw [if_pos (by omega)]
end Go.Proofs.Ytleniljhacnikaa
