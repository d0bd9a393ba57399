/-
  The law CondorcetSets.
-/
import Derived.Test.YtkhclcdmehjfkaaGreatW12h
import Derived.Test.YtkhclcdmehjfkaaGreatW12t
namespace Go.Proofs.YtkhclcdmehjfkaaGreat
open Go.RowKit Go.Proofs Go.Shelf
attribute [local go_sem] cell?_more cell?_alloc_some cell?_setCell_far frozen?_alloc_some frozen?_more
set_option maxRecDepth 100000 in
set_option maxHeartbeats 4000000 in
theorem condorcetSets_any (D : Array Value) (m : M) (hD : Mat D m) (c : Int) (w : World) :
    Calls Tryz.prog 8 #[.agg D, .int .i64 c] w fun e w' => e = .returned (.bool true) ∧ Below w.heap.size w w' := by
  have hDs := hD.size
  have hb : Below w.heap.size w (w.alloc (.cells D 24)) := below_allocN
  have hM := Has.new w 24 D
  go_enter Tryz.func8, Tryz.ntmps8
  go_upto_region 1 with fail
  generalize World.alloc w _ = w1 at hb hM ⊢
  go_wp2_with (refine ldMat rfl rfl rfl hM hDs ?_)
  refine (winner_any D m hD c w1).mono ?_
  rintro e w2 ⟨rfl, hb2⟩
  have hM2 := hM.below hb2 hM.lt
  have hB2 := Below_trans' hb hb.size hb2
  go_wp2_with (refine ldMat rfl rfl rfl hM2 hDs ?_)
  refine (rwinner_any D m hD c w2).mono ?_
  rintro e w3 ⟨rfl, hb3⟩
  have hM3 := hM2.below hb3 hM2.lt
  have hB3 := Below_trans' hB2 hB2.size hb3
  generalize loneV m c = lw
  obtain ⟨lx, lb⟩ := lw
  dsimp only
  go_wp2_with (refine ldMat rfl rfl rfl hM3 hDs ?_)
  refine (loser_any D m hD c w3).mono ?_
  rintro e w4 ⟨rfl, hb4⟩
  have hM4 := hM3.below hb4 hM3.lt
  have hB4 := Below_trans' hB3 hB3.size hb4
  go_wp2_with (refine ldMat rfl rfl rfl hM4 hDs ?_)
  refine (rloser_any D m hD c w4).mono ?_
  rintro e w5 ⟨rfl, hb5⟩
  have hM5 := hM4.below hb5 hM4.lt
  have hB5 := Below_trans' hB4 hB4.size hb5
  generalize loneV (fun x y => m y x) c = ll
  obtain ⟨kx, kb⟩ := ll
  dsimp only
  go_wp2_with (refine ldMat rfl rfl rfl hM5 hDs ?_)
  refine (smith_any D m hD c w5).mono ?_
  rintro e w6 ⟨vs, rfl, hO6, hb6⟩
  have hM6 := hM5.below hb6 hM5.lt
  have hB6 := Below_trans' hB5 hB5.size hb6
  have hTr : Hid (∀ x ∈ smithV m c, 0 ≤ x ∧ x ≤ 10) := fun x hx => by
    unfold smithV at hx
    split at hx
    · rename_i h0
      unfold smithErr at h0
      split at h0
      · cases h0
      · have := mem_rangeI.1 ((List.filter_sublist (l := rangeI c.toNat)).subset hx)
        omega
    · cases hx
  obtain ⟨As, cs, rfl⟩ := hO6.slice
  have hR6 := hO6.ints fun x hx => by have := hTr.out x hx; omega
  go_wp2_with (refine ldMat rfl rfl rfl hM6 hDs ?_)
  refine (rsmith_any D m hD c w6).mono ?_
  rintro e w7 ⟨vt, rfl, hO7, hb7⟩
  have hB7 := Below_trans' hB6 hB6.size hb7
  obtain ⟨At, ct, rfl⟩ := hO7.slice
  have hR7 := hO7.ints fun x hx => by have := hTr.out x hx; omega
  have hie := ints_eq As At _ cs _ ct _ w7 (hR6.below hb7) hR7
  generalize smithErr m c = er
  generalize (smithV m c).length = nT at hie ⊢
  clear hR6 hR7 hO6 hO7 hTr hM6
  have f1 : (lx == lx) = true := by simp
  have f2 : (lb == lb) = true := by simp
  have f3 : (kx == kx) = true := by simp
  have f4 : (kb == kb) = true := by simp
  have f5 : (er == er) = true := by simp
  go_wp2_with fail
  refine hie.mono ?_
  rintro e w8 ⟨rfl, hb8⟩
  have hB8 := Below_trans' hB7 hB7.size hb8
  go_wp2_with fail
  refine (wakes12_any _).mono ?_
  rintro e w9 ⟨rfl, hb9⟩
  go_wp2
  go_ret
  exact ⟨rfl, Below_trans' hB8 hB8.size hb9⟩
end Go.Proofs.YtkhclcdmehjfkaaGreat
