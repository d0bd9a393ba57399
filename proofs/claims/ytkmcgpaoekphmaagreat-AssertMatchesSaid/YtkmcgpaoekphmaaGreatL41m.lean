/-
  The law AssertMatches.
-/
import Derived.Test.YtkmcgpaoekphmaaGreatW41z
import Derived.Test.YtkmcgpaoekphmaaGreatW41p
import Derived.Test.YtkmcgpaoekphmaaGreatGrt
namespace Go.Proofs.YtkmcgpaoekphmaaGreat
open Go.RowKit Go.Proofs Go.Shelf
attribute [local go_sem] cell?_more cell?_alloc_some cell?_setCell_far frozen?_alloc_some frozen?_more
theorem asn2 {w : World} {g : Nat} {t : TypeId} {k x y : Int} {A : Option Addr} {n cp : Nat} {L : List Int} {k' x' y' : Int} {A' : Option Addr} {n' cp' : Nat} {L' : List Int}
    (h : Has w g t #[.int .u8 k, .int .i64 x, .int .i64 y, .slice A n cp, .int .u8 k', .int .i64 x', .int .i64 y', .slice A' n' cp']) (hL : RInts w A n cp L) (hL' : RInts w A' n' cp' L') :
    RAgg EAsn 4 w (some ⟨g, 0, none⟩) 2 2 [(k, x, y, L), (k', x', y', L')] := by
  refine ⟨rfl, Nat.le_refl _, by omega, fun _ => ⟨g, 0, rfl, fun i hi => ?_⟩⟩
  match i, hi with
  | 0, _ =>
    refine ⟨[.int .u8 k, .int .i64 x, .int .i64 y, .slice A n cp], (k, x, y, L), rfl, rfl, fun j u hj => ?_, A, n, cp, rfl, hL⟩
    rcases j with _ | _ | _ | _ | j
    · cases hj; exact h.cell 0
    · cases hj; exact h.cell 1
    · cases hj; exact h.cell 2
    · cases hj; exact h.cell 3
    · simp at hj
  | 1, _ =>
    refine ⟨[.int .u8 k', .int .i64 x', .int .i64 y', .slice A' n' cp'], (k', x', y', L'), rfl, rfl, fun j u hj => ?_, A', n', cp', rfl, hL'⟩
    rcases j with _ | _ | _ | _ | j
    · cases hj; exact h.cell 4
    · cases hj; exact h.cell 5
    · cases hj; exact h.cell 6
    · cases hj; exact h.cell 7
    · simp at hj

set_option maxRecDepth 100000 in
set_option maxHeartbeats 2000000 in
theorem assertMatches_any (k x y : Int) (A : Option Addr) (n cp : Nat) (L : List Int) (k' x' y' : Int) (A' : Option Addr) (n' cp' : Nat) (L' : List Int) (bk : Int) (Am : Option Addr) (nm cm : Nat) (ms : List Int) (c : Int)
    (C pk : Int) (Ar : Option Addr) (nr cr : Nat) (l : List Row) (w : World) (h : RInts w A n cp L) (h' : RInts w A' n' cp' L') (hm : RInts w Am nm cm ms) (hr : RRows w Ar nr cr l) :
    Calls Tryz.prog 3 #[.agg #[.int .u8 k, .int .i64 x, .int .i64 y, .slice A n cp], .agg #[.int .u8 k', .int .i64 x', .int .i64 y', .slice A' n' cp'], .agg #[.int .u8 bk, .slice Am nm cm], .int .i64 c, .agg #[.int .i64 C, .int .u8 pk, .slice Ar nr cr]] w
      fun e w' => e = .returned (.bool true) ∧ Below w.heap.size w w' := by
  have hP := (((Has.new w 24 #[.int .u8 k, .int .i64 x, .int .i64 y, .slice A n cp]).alloc (.cells #[.int .u8 k', .int .i64 x', .int .i64 y', .slice A' n' cp'] 24)).alloc (.cells #[.int .u8 bk, .slice Am nm cm] 26)).alloc (.cells #[.int .i64 C, .int .u8 pk, .slice Ar nr cr] 29)
  have hO := ((Has.new (w.alloc (.cells #[.int .u8 k, .int .i64 x, .int .i64 y, .slice A n cp] 24)) 24 #[.int .u8 k', .int .i64 x', .int .i64 y', .slice A' n' cp']).alloc (.cells #[.int .u8 bk, .slice Am nm cm] 26)).alloc (.cells #[.int .i64 C, .int .u8 pk, .slice Ar nr cr] 29)
  have hB := (Has.new ((w.alloc (.cells #[.int .u8 k, .int .i64 x, .int .i64 y, .slice A n cp] 24)).alloc (.cells #[.int .u8 k', .int .i64 x', .int .i64 y', .slice A' n' cp'] 24)) 26 #[.int .u8 bk, .slice Am nm cm]).alloc (.cells #[.int .i64 C, .int .u8 pk, .slice Ar nr cr] 29)
  have hQ := Has.new (((w.alloc (.cells #[.int .u8 k, .int .i64 x, .int .i64 y, .slice A n cp] 24)).alloc (.cells #[.int .u8 k', .int .i64 x', .int .i64 y', .slice A' n' cp'] 24)).alloc (.cells #[.int .u8 bk, .slice Am nm cm] 26)) 29 #[.int .i64 C, .int .u8 pk, .slice Ar nr cr]
  have hb := ((((Below.refl w.heap.size w).alloc (Nat.le_refl _) (.cells #[.int .u8 k, .int .i64 x, .int .i64 y, .slice A n cp] 24)).alloc (by simp [World.size_alloc]) (.cells #[.int .u8 k', .int .i64 x', .int .i64 y', .slice A' n' cp'] 24)).alloc (by simp [World.size_alloc] <;> omega) (.cells #[.int .u8 bk, .slice Am nm cm] 26)).alloc (by simp [World.size_alloc] <;> omega) (.cells #[.int .i64 C, .int .u8 pk, .slice Ar nr cr] 29)
  simp only [World.size_alloc] at hO hB hQ
  go_enter Tryz.func3, Tryz.ntmps3
  go_upto_region 1 with fail
  generalize World.alloc (World.alloc (World.alloc (World.alloc w _) _) _) _ = W0 at hb hP hO hB hQ ⊢
  have p0 := hP.cell 0
  have p1 := hP.cell 1
  have p2 := hP.cell 2
  have p3 := hP.cell 3
  have o0 := hO.cell 0
  have o1 := hO.cell 1
  have o2 := hO.cell 2
  have o3 := hO.cell 3
  have b0 := hB.cell 0
  have b1 := hB.cell 1
  have q0 := hQ.cell 0
  have q1 := hQ.cell 1
  have q2 := hQ.cell 2
  have hG := great41_any k x y A n cp L none 0 0 [] none 0 0 [] none 0 0 W0 (h.below hb) (RInts.nil_ _) (RAgg.nil_ _ _ _)
  obtain ⟨gv, hg⟩ : ∃ gv : Bool, great41 L [] [] = gv := ⟨_, rfl⟩
  rw [hg] at hG
  clear hg
  cases gv
  rotate_left
  · go_wp2_with fail
    refine hG.mono ?_
    rintro e w1 ⟨rfl, hd⟩
    clear hG
    replace hP := hP.below hd hP.lt
    replace hO := hO.below hd hO.lt
    replace hB := hB.below hd hB.lt
    replace hQ := hQ.below hd hQ.lt
    replace hb := Below_trans' hb hb.size hd
    clear p0 p1 p2 p3 o0 o1 o2 o3 b0 b1 q0 q1 q2 hd
    have p0 := hP.cell 0
    have p1 := hP.cell 1
    have p2 := hP.cell 2
    have p3 := hP.cell 3
    have o0 := hO.cell 0
    have o1 := hO.cell 1
    have o2 := hO.cell 2
    have o3 := hO.cell 3
    have b0 := hB.cell 0
    have b1 := hB.cell 1
    have q0 := hQ.cell 0
    have q1 := hQ.cell 1
    have q2 := hQ.cell 2
    go_wp2_with fail
    refine (examples41_any _).mono ?_
    rintro e w9 ⟨rfl, hb9⟩
    go_wp2
    go_ret
    exact ⟨rfl, Below_trans' hb hb.size hb9⟩
  go_wp2_with fail
  refine hG.mono ?_
  rintro e w1 ⟨rfl, hd⟩
  clear hG
  replace hP := hP.below hd hP.lt
  replace hO := hO.below hd hO.lt
  replace hB := hB.below hd hB.lt
  replace hQ := hQ.below hd hQ.lt
  replace hb := Below_trans' hb hb.size hd
  clear p0 p1 p2 p3 o0 o1 o2 o3 b0 b1 q0 q1 q2 hd
  have p0 := hP.cell 0
  have p1 := hP.cell 1
  have p2 := hP.cell 2
  have p3 := hP.cell 3
  have o0 := hO.cell 0
  have o1 := hO.cell 1
  have o2 := hO.cell 2
  have o3 := hO.cell 3
  have b0 := hB.cell 0
  have b1 := hB.cell 1
  have q0 := hQ.cell 0
  have q1 := hQ.cell 1
  have q2 := hQ.cell 2
  have hG := great41_any k' x' y' A' n' cp' L' none 0 0 [] none 0 0 [] none 0 0 w1 (h'.below hb) (RInts.nil_ _) (RAgg.nil_ _ _ _)
  obtain ⟨gv, hg⟩ : ∃ gv : Bool, great41 L' [] [] = gv := ⟨_, rfl⟩
  rw [hg] at hG
  clear hg
  cases gv
  rotate_left
  · go_wp2_with fail
    refine hG.mono ?_
    rintro e w2 ⟨rfl, hd⟩
    clear hG
    replace hP := hP.below hd hP.lt
    replace hO := hO.below hd hO.lt
    replace hB := hB.below hd hB.lt
    replace hQ := hQ.below hd hQ.lt
    replace hb := Below_trans' hb hb.size hd
    clear p0 p1 p2 p3 o0 o1 o2 o3 b0 b1 q0 q1 q2 hd
    have p0 := hP.cell 0
    have p1 := hP.cell 1
    have p2 := hP.cell 2
    have p3 := hP.cell 3
    have o0 := hO.cell 0
    have o1 := hO.cell 1
    have o2 := hO.cell 2
    have o3 := hO.cell 3
    have b0 := hB.cell 0
    have b1 := hB.cell 1
    have q0 := hQ.cell 0
    have q1 := hQ.cell 1
    have q2 := hQ.cell 2
    go_wp2_with fail
    refine (examples41_any _).mono ?_
    rintro e w9 ⟨rfl, hb9⟩
    go_wp2
    go_ret
    exact ⟨rfl, Below_trans' hb hb.size hb9⟩
  go_wp2_with fail
  refine hG.mono ?_
  rintro e w2 ⟨rfl, hd⟩
  clear hG
  replace hP := hP.below hd hP.lt
  replace hO := hO.below hd hO.lt
  replace hB := hB.below hd hB.lt
  replace hQ := hQ.below hd hQ.lt
  replace hb := Below_trans' hb hb.size hd
  clear p0 p1 p2 p3 o0 o1 o2 o3 b0 b1 q0 q1 q2 hd
  have p0 := hP.cell 0
  have p1 := hP.cell 1
  have p2 := hP.cell 2
  have p3 := hP.cell 3
  have o0 := hO.cell 0
  have o1 := hO.cell 1
  have o2 := hO.cell 2
  have o3 := hO.cell 3
  have b0 := hB.cell 0
  have b1 := hB.cell 1
  have q0 := hQ.cell 0
  have q1 := hQ.cell 1
  have q2 := hQ.cell 2
  have hG := bgr41_any bk Am nm cm ms w2 (hm.below hb)
  obtain ⟨gv, hg⟩ : ∃ gv : Bool, bgr41 ms = gv := ⟨_, rfl⟩
  rw [hg] at hG
  clear hg
  cases gv
  rotate_left
  · go_wp2_with fail
    refine hG.mono ?_
    rintro e w3 ⟨rfl, hd⟩
    clear hG
    replace hP := hP.below hd hP.lt
    replace hO := hO.below hd hO.lt
    replace hB := hB.below hd hB.lt
    replace hQ := hQ.below hd hQ.lt
    replace hb := Below_trans' hb hb.size hd
    clear p0 p1 p2 p3 o0 o1 o2 o3 b0 b1 q0 q1 q2 hd
    have p0 := hP.cell 0
    have p1 := hP.cell 1
    have p2 := hP.cell 2
    have p3 := hP.cell 3
    have o0 := hO.cell 0
    have o1 := hO.cell 1
    have o2 := hO.cell 2
    have o3 := hO.cell 3
    have b0 := hB.cell 0
    have b1 := hB.cell 1
    have q0 := hQ.cell 0
    have q1 := hQ.cell 1
    have q2 := hQ.cell 2
    go_wp2_with fail
    refine (examples41_any _).mono ?_
    rintro e w9 ⟨rfl, hb9⟩
    go_wp2
    go_ret
    exact ⟨rfl, Below_trans' hb hb.size hb9⟩
  go_wp2_with fail
  refine hG.mono ?_
  rintro e w3 ⟨rfl, hd⟩
  clear hG
  replace hP := hP.below hd hP.lt
  replace hO := hO.below hd hO.lt
  replace hB := hB.below hd hB.lt
  replace hQ := hQ.below hd hQ.lt
  replace hb := Below_trans' hb hb.size hd
  clear p0 p1 p2 p3 o0 o1 o2 o3 b0 b1 q0 q1 q2 hd
  have p0 := hP.cell 0
  have p1 := hP.cell 1
  have p2 := hP.cell 2
  have p3 := hP.cell 3
  have o0 := hO.cell 0
  have o1 := hO.cell 1
  have o2 := hO.cell 2
  have o3 := hO.cell 3
  have b0 := hB.cell 0
  have b1 := hB.cell 1
  have q0 := hQ.cell 0
  have q1 := hQ.cell 1
  have q2 := hQ.cell 2
  have hG := great_any C pk Ar nr cr l w3 (hr.below hb)
  obtain ⟨gv, hg⟩ : ∃ gv : Bool, greatS l = gv := ⟨_, rfl⟩
  rw [hg] at hG
  clear hg
  cases gv
  rotate_left
  · go_wp2_with fail
    refine hG.mono ?_
    rintro e w4 ⟨rfl, hd⟩
    clear hG
    replace hP := hP.below hd hP.lt
    replace hO := hO.below hd hO.lt
    replace hB := hB.below hd hB.lt
    replace hQ := hQ.below hd hQ.lt
    replace hb := Below_trans' hb hb.size hd
    clear p0 p1 p2 p3 o0 o1 o2 o3 b0 b1 q0 q1 q2 hd
    have p0 := hP.cell 0
    have p1 := hP.cell 1
    have p2 := hP.cell 2
    have p3 := hP.cell 3
    have o0 := hO.cell 0
    have o1 := hO.cell 1
    have o2 := hO.cell 2
    have o3 := hO.cell 3
    have b0 := hB.cell 0
    have b1 := hB.cell 1
    have q0 := hQ.cell 0
    have q1 := hQ.cell 1
    have q2 := hQ.cell 2
    go_wp2_with fail
    refine (examples41_any _).mono ?_
    rintro e w9 ⟨rfl, hb9⟩
    go_wp2
    go_ret
    exact ⟨rfl, Below_trans' hb hb.size hb9⟩
  go_wp2_with fail
  refine hG.mono ?_
  rintro e w4 ⟨rfl, hd⟩
  clear hG
  replace hP := hP.below hd hP.lt
  replace hO := hO.below hd hO.lt
  replace hB := hB.below hd hB.lt
  replace hQ := hQ.below hd hQ.lt
  replace hb := Below_trans' hb hb.size hd
  clear p0 p1 p2 p3 o0 o1 o2 o3 b0 b1 q0 q1 q2 hd
  have p0 := hP.cell 0
  have p1 := hP.cell 1
  have p2 := hP.cell 2
  have p3 := hP.cell 3
  have o0 := hO.cell 0
  have o1 := hO.cell 1
  have o2 := hO.cell 2
  have o3 := hO.cell 3
  have b0 := hB.cell 0
  have b1 := hB.cell 1
  have q0 := hQ.cell 0
  have q1 := hQ.cell 1
  have q2 := hQ.cell 2
  have hV := value_any k x y A n cp L bk Am nm cm ms c w4 (h.below hb) (hm.below hb)
  go_upto_region 4 with (go_at_call 9; refine hV.mono ?_; rintro e w5 ⟨rfl, hd⟩)
  clear hV
  replace hP := hP.below hd hP.lt
  replace hO := hO.below hd hO.lt
  replace hB := hB.below hd hB.lt
  replace hQ := hQ.below hd hQ.lt
  replace hb := Below_trans' hb hb.size hd
  clear p0 p1 p2 p3 o0 o1 o2 o3 b0 b1 q0 q1 q2 hd
  have p0 := hP.cell 0
  have p1 := hP.cell 1
  have p2 := hP.cell 2
  have p3 := hP.cell 3
  have o0 := hO.cell 0
  have o1 := hO.cell 1
  have o2 := hO.cell 2
  have o3 := hO.cell 3
  have b0 := hB.cell 0
  have b1 := hB.cell 1
  have q0 := hQ.cell 0
  have q1 := hQ.cell 1
  have q2 := hQ.cell 2
  have hV := rvalue_any k x y A n cp L bk Am nm cm ms c w5 (h.below hb) (hm.below hb)
  go_upto_region 5 with (go_at_call 10; refine hV.mono ?_; rintro e w6 ⟨rfl, hd⟩)
  clear hV
  replace hP := hP.below hd hP.lt
  replace hO := hO.below hd hO.lt
  replace hB := hB.below hd hB.lt
  replace hQ := hQ.below hd hQ.lt
  replace hb := Below_trans' hb hb.size hd
  clear p0 p1 p2 p3 o0 o1 o2 o3 b0 b1 q0 q1 q2 hd
  have p0 := hP.cell 0
  have p1 := hP.cell 1
  have p2 := hP.cell 2
  have p3 := hP.cell 3
  have o0 := hO.cell 0
  have o1 := hO.cell 1
  have o2 := hO.cell 2
  have o3 := hO.cell 3
  have b0 := hB.cell 0
  have b1 := hB.cell 1
  have q0 := hQ.cell 0
  have q1 := hQ.cell 1
  have q2 := hQ.cell 2
  have hV := total_any k x y A n cp L C pk Ar nr cr l w6 (h.below hb) (hr.below hb)
  go_upto_region 6 with (go_at_call 11; refine hV.mono ?_; rintro e w7 ⟨rfl, hd⟩)
  clear hV
  replace hP := hP.below hd hP.lt
  replace hO := hO.below hd hO.lt
  replace hB := hB.below hd hB.lt
  replace hQ := hQ.below hd hQ.lt
  replace hb := Below_trans' hb hb.size hd
  clear p0 p1 p2 p3 o0 o1 o2 o3 b0 b1 q0 q1 q2 hd
  have p0 := hP.cell 0
  have p1 := hP.cell 1
  have p2 := hP.cell 2
  have p3 := hP.cell 3
  have o0 := hO.cell 0
  have o1 := hO.cell 1
  have o2 := hO.cell 2
  have o3 := hO.cell 3
  have b0 := hB.cell 0
  have b1 := hB.cell 1
  have q0 := hQ.cell 0
  have q1 := hQ.cell 1
  have q2 := hQ.cell 2
  have hV := rtotal_any k x y A n cp L C pk Ar nr cr l w7 (h.below hb) (hr.below hb)
  go_upto_region 7 with (go_at_call 12; refine hV.mono ?_; rintro e w8 ⟨rfl, hd⟩)
  clear hV
  replace hP := hP.below hd hP.lt
  replace hO := hO.below hd hO.lt
  replace hB := hB.below hd hB.lt
  replace hQ := hQ.below hd hQ.lt
  replace hb := Below_trans' hb hb.size hd
  clear p0 p1 p2 p3 o0 o1 o2 o3 b0 b1 q0 q1 q2 hd
  have p0 := hP.cell 0
  have p1 := hP.cell 1
  have p2 := hP.cell 2
  have p3 := hP.cell 3
  have o0 := hO.cell 0
  have o1 := hO.cell 1
  have o2 := hO.cell 2
  have o3 := hO.cell 3
  have b0 := hB.cell 0
  have b1 := hB.cell 1
  have q0 := hQ.cell 0
  have q1 := hQ.cell 1
  have q2 := hQ.cell 2
  have hA := Has.new w8 24 #[.int .u8 k, .int .i64 x, .int .i64 y, .slice A n cp, .int .u8 k', .int .i64 x', .int .i64 y', .slice A' n' cp']
  have hba : Below (w8).heap.size w8 ((w8).alloc (.cells #[.int .u8 k, .int .i64 x, .int .i64 y, .slice A n cp, .int .u8 k', .int .i64 x', .int .i64 y', .slice A' n' cp'] 24)) := below_allocN
  generalize hV : World.alloc w8 _ = V at hA hba
  have hH := holds_any C pk Ar nr cr l _ 2 2 _ V ((hr.below hb).below hba) (asn2 hA ((h.below hb).below hba) ((h'.below hb).below hba))
  go_wp2_with fail
  try rw [hV]
  refine hH.mono ?_
  rintro e w9 ⟨rfl, hd0⟩
  have hd := Below_trans' hba hba.size hd0
  clear hH hA hba hd0 hV
  replace hP := hP.below hd hP.lt
  replace hO := hO.below hd hO.lt
  replace hB := hB.below hd hB.lt
  replace hQ := hQ.below hd hQ.lt
  replace hb := Below_trans' hb hb.size hd
  clear p0 p1 p2 p3 o0 o1 o2 o3 b0 b1 q0 q1 q2 hd
  have p0 := hP.cell 0
  have p1 := hP.cell 1
  have p2 := hP.cell 2
  have p3 := hP.cell 3
  have o0 := hO.cell 0
  have o1 := hO.cell 1
  have o2 := hO.cell 2
  have o3 := hO.cell 3
  have b0 := hB.cell 0
  have b1 := hB.cell 1
  have q0 := hQ.cell 0
  have q1 := hQ.cell 1
  have q2 := hQ.cell 2
  have hA := Has.new w9 24 #[.int .u8 k, .int .i64 x, .int .i64 y, .slice A n cp, .int .u8 k', .int .i64 x', .int .i64 y', .slice A' n' cp']
  have hba : Below (w9).heap.size w9 ((w9).alloc (.cells #[.int .u8 k, .int .i64 x, .int .i64 y, .slice A n cp, .int .u8 k', .int .i64 x', .int .i64 y', .slice A' n' cp'] 24)) := below_allocN
  generalize hV : World.alloc w9 _ = V at hA hba
  have hH := rholds_any C pk Ar nr cr l _ 2 2 _ V ((hr.below hb).below hba) (asn2 hA ((h.below hb).below hba) ((h'.below hb).below hba))
  go_wp2_with fail
  try rw [hV]
  refine hH.mono ?_
  rintro e w10 ⟨rfl, hd0⟩
  have hd := Below_trans' hba hba.size hd0
  clear hH hA hba hd0 hV
  replace hP := hP.below hd hP.lt
  replace hO := hO.below hd hO.lt
  replace hB := hB.below hd hB.lt
  replace hQ := hQ.below hd hQ.lt
  replace hb := Below_trans' hb hb.size hd
  clear p0 p1 p2 p3 o0 o1 o2 o3 b0 b1 q0 q1 q2 hd
  have p0 := hP.cell 0
  have p1 := hP.cell 1
  have p2 := hP.cell 2
  have p3 := hP.cell 3
  have o0 := hO.cell 0
  have o1 := hO.cell 1
  have o2 := hO.cell 2
  have o3 := hO.cell 3
  have b0 := hB.cell 0
  have b1 := hB.cell 1
  have q0 := hQ.cell 0
  have q1 := hQ.cell 1
  have q2 := hQ.cell 2
  go_upto_region 11 with (fail)
  have hC1 : ∀ q, Calls Tryz.prog 15 #[.agg #[.int .u8 k, .int .i64 x, .int .i64 y, .slice A n cp], .int .i64 c] (More w10 q) fun e w' => e = .returned (.int .i64 (checkA k x y L c)) ∧ Below (More w10 q).heap.size (More w10 q) w' := fun q => check41_any k x y A n cp L c _ ((h.below hb).more q)
  have hC2 : ∀ q, Calls Tryz.prog 16 #[.agg #[.int .u8 k, .int .i64 x, .int .i64 y, .slice A n cp], .int .i64 c] (More w10 q) fun e w' => e = .returned (.int .i64 (checkA k x y L c)) ∧ Below (More w10 q).heap.size (More w10 q) w' := fun q => rcheck41_any k x y A n cp L c _ ((h.below hb).more q)
  have hS1 : ∀ q, Calls Tryz.prog 17 #[.agg #[.int .u8 k, .int .i64 x, .int .i64 y, .slice A n cp], .agg #[.int .u8 k', .int .i64 x', .int .i64 y', .slice A' n' cp']] (More w10 q) fun e w' => e = .returned (.bool (sameA k x y L k' x' y' L')) ∧ Below (More w10 q).heap.size (More w10 q) w' :=
    fun q => same41_any k x y A n cp L k' x' y' A' n' cp' L' _ ((h.below hb).more q) ((h'.below hb).more q)
  have hS2 : ∀ q, Calls Tryz.prog 18 #[.agg #[.int .u8 k, .int .i64 x, .int .i64 y, .slice A n cp], .agg #[.int .u8 k', .int .i64 x', .int .i64 y', .slice A' n' cp']] (More w10 q) fun e w' => e = .returned (.bool (sameA k x y L k' x' y' L')) ∧ Below (More w10 q).heap.size (More w10 q) w' :=
    fun q => rsame41_any k x y A n cp L k' x' y' A' n' cp' L' _ ((h.below hb).more q) ((h'.below hb).more q)
  have hX : ∀ q, Calls Tryz.prog 8 #[] (More w10 q) fun e w' => e = .returned (.bool true) ∧ Below (More w10 q).heap.size (More w10 q) w' := fun q => examples41_any _
  generalize checkA k x y L c = ce at hC1 hC2
  generalize sameA k x y L k' x' y' L' = sb at hS1 hS2
  refine wp_region_more (by kernel_rfl) (by kernel_rfl) ?_
  repeat (go_big_quiet_step ((first | (go_at_call 15; with_reducible exact more_of (hC1 _)) | (go_at_call 16; with_reducible exact more_of (hC2 _)) | (go_at_call 17; with_reducible exact more_of (hS1 _)) | (go_at_call 18; with_reducible exact more_of (hS2 _)) | (go_at_call 8; with_reducible exact more_of (hX _)))))
  refine wpQuiet_nil ?_
  rintro w11 ⟨qw11, hww11⟩
  have hbw11 := below_of_eq hww11
  clear hww11 qw11
  go_wp2
  go_ret
  exact ⟨rfl, Below_trans' hb hb.size hbw11⟩
end Go.Proofs.YtkmcgpaoekphmaaGreat
