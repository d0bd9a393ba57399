/-
  The law AssertAdditive.
-/
import Derived.Test.YtoeajgjpakilgaaGreatRa
import Derived.Test.YtoeajgjpakilgaaGreatW41z
import Derived.Test.YtoeajgjpakilgaaGreatW41p
namespace Go.Proofs.YtoeajgjpakilgaaGreat
open Go.RowKit Go.Proofs Go.Shelf
attribute [local go_sem] cell?_more cell?_alloc_some cell?_setCell_far frozen?_alloc_some frozen?_more
theorem totA_putS {k x y : Int} {L : List Int} (l : List Row) (m : List Int) (v : Int) : totA k x y L (putS l m v) = totA k x y L l + v * worthA k x y L m := by
  induction l with
  | nil => simp [putS, totA]
  | cons r s ih =>
    unfold putS
    unfold totA at *
    split
    · simp only [List.map_cons, List.sum_cons, ih]; omega
    · split
      · rename_i e
        subst e
        simp only [List.map_cons, List.sum_cons, Int.add_mul]
        omega
      · simp only [List.map_cons, List.sum_cons]; omega
theorem tot_zero {k x y : Int} {L : List Int} {c pk : Int} {l : List Row} (h : totErr k x y L c pk l = 0) : checkS c pk l = 0 ∧ checkA k x y L c = 0 ∧ pk = kindA k := by
  unfold totErr at h
  split at h
  · rename_i h1; exact absurd h h1
  · rename_i h1
    split at h
    · rename_i h2; exact absurd h h2
    · rename_i h2
      split at h
      · cases h
      · rename_i h3; exact ⟨by omega, by omega, by omega⟩
structure AddIs (C pk : Int) (l : List Row) (bk : Int) (ms : List Int) : Prop where
  is : addP C pk l bk ms 1 = ⟨0, C, pk, putS l ms 1⟩
  chk : checkS C pk (putS l ms 1) = 0
  kind : bk = pk
  bal : bcheckS bk ms C = 0
theorem add_is {C pk : Int} {l : List Row} {bk : Int} {ms : List Int} (h : (addP C pk l bk ms 1).err = 0) : AddIs C pk l bk ms := by
  have hc : cutS 1 = 1 := rfl
  unfold addP at h
  by_cases hm : mayR C pk l bk ms 1 = 0
  · rw [if_pos hm, hc] at h
    obtain ⟨_, h2, h3, _⟩ := mayR_ok hm
    by_cases hk : checkS C pk (putS l ms 1) = 0
    · exact ⟨by unfold addP wholeP; rw [if_pos hm, hc, if_pos hk], hk, h2, by rw [h2]; exact h3⟩
    · unfold wholeP at h
      rw [if_neg hk] at h
      exact absurd h hk
  · rw [if_neg hm] at h
    exact absurd h hm
/-- What the law compares, if nothing fails. -/
structure AddLaw (k x y : Int) (L : List Int) (C pk : Int) (l : List Row) (bk : Int) (ms : List Int) : Prop where
  old : TotIs k x y L C pk l 0 (totA k x y L l) (totS l)
  new : TotIs k x y L C pk (putS l ms 1) 0 (totA k x y L l + worthA k x y L ms) (totS l + 1)
  ve : valErr k x y L bk ms C = 0
  vv : valueA k x y L bk ms C = worthA k x y L ms
  hold : HoldIs C pk l [(k, x, y, L)] (decide (totS l < totA k x y L l)) 0
  s0 : 0 ≤ totA k x y L l
  s1 : totA k x y L l ≤ 2000000
  n0 : 0 ≤ totS l
  n1 : totS l ≤ 1000000
  w0 : 0 ≤ worthA k x y L ms
  w1 : worthA k x y L ms ≤ 2
theorem add_law {k x y : Int} {L : List Int} {C pk : Int} {l : List Row} {bk : Int} {ms : List Int} (h : totErr k x y L C pk l = 0) (hA : AddIs C pk l bk ms) : AddLaw k x y L C pk l bk ms := by
  obtain ⟨h1, h2, h3⟩ := tot_zero h
  have ho := totIs_ok h
  have hn : totErr k x y L C pk (putS l ms 1) = 0 := by unfold totErr; rw [if_neg (by simp [hA.chk]), if_neg (by simp [h2]), if_neg (by simp [h3])]
  have hni := totIs_ok hn
  rw [totA_putS, totS_putS, Int.one_mul] at hni
  have hve : valErr k x y L bk ms C = 0 := by unfold valErr; rw [if_neg (by simp [h2]), if_neg (fun hh => hh.elim (fun a => a hA.bal) (fun a => a (hA.kind.trans h3)))]
  have hb := totA_bd (k := k) (x := x) (y := y) (L := L) (pos_mem h1)
  have ht := (check_ok h1).2.2.2.2.2.1
  have hw := worthA_bd k x y L ms
  have hh : HoldIs C pk l [(k, x, y, L)] (decide (totS l < totA k x y L l)) 0 := by
    have he : holdErr C pk l [(k, x, y, L)] = 0 := by unfold holdErr; rw [if_neg (by simp [h1]), holdsE_mk, if_neg (by simp [h])]; rfl
    have := holdIs_ok he
    simp only [List.all_cons, List.all_nil, Bool.and_true, aHold_mk, ho.v, ho.n] at this
    exact this
  exact ⟨ho, hni, hve, by unfold valueA; rw [hve, if_pos rfl], hh, hb.1, by omega, hb.2.2, ht, hw.1, hw.2⟩
theorem asn1 {w : World} {g : Nat} {t : TypeId} {k x y : Int} {A : Option Addr} {n cp : Nat} {L : List Int}
    (h : Has w g t #[.int .u8 k, .int .i64 x, .int .i64 y, .slice A n cp]) (hL : RInts w A n cp L) : RAgg EAsn 4 w (some ⟨g, 0, none⟩) 1 1 [(k, x, y, L)] := by
  refine ⟨rfl, Nat.le_refl _, by omega, fun _ => ⟨g, 0, rfl, fun i hi => ?_⟩⟩
  match i, hi with
  | 0, _ =>
    refine ⟨[.int .u8 k, .int .i64 x, .int .i64 y, .slice A n cp], (k, x, y, L), rfl, rfl, fun j u hj => ?_, A, n, cp, rfl, hL⟩
    rcases j with _ | _ | _ | _ | j
    · cases hj; exact h.cell 0
    · cases hj; exact h.cell 1
    · cases hj; exact h.cell 2
    · cases hj; exact h.cell 3
    · simp at hj

set_option maxRecDepth 100000 in
set_option maxHeartbeats 2000000 in
theorem assertAdditive_any (k x y : Int) (A : Option Addr) (n cp : Nat) (L : List Int) (C pk : Int) (Ar : Option Addr) (nr cr : Nat) (l : List Row) (bk : Int) (Am : Option Addr) (nm cm : Nat) (ms : List Int)
    (w : World) (h : RInts w A n cp L) (hr : RRows w Ar nr cr l) (hm : RInts w Am nm cm ms) :
    Calls Tryz.prog 3 #[.agg #[.int .u8 k, .int .i64 x, .int .i64 y, .slice A n cp], .agg #[.int .i64 C, .int .u8 pk, .slice Ar nr cr], .agg #[.int .u8 bk, .slice Am nm cm]] w
      fun e w' => e = .returned (.bool true) ∧ Below w.heap.size w w' := by
  have hP := ((Has.new w 24 #[.int .u8 k, .int .i64 x, .int .i64 y, .slice A n cp]).alloc (.cells #[.int .i64 C, .int .u8 pk, .slice Ar nr cr] 27)).alloc (.cells #[.int .u8 bk, .slice Am nm cm] 29)
  have hQ := (Has.new (w.alloc (.cells #[.int .u8 k, .int .i64 x, .int .i64 y, .slice A n cp] 24)) 27 #[.int .i64 C, .int .u8 pk, .slice Ar nr cr]).alloc (.cells #[.int .u8 bk, .slice Am nm cm] 29)
  have hB := Has.new ((w.alloc (.cells #[.int .u8 k, .int .i64 x, .int .i64 y, .slice A n cp] 24)).alloc (.cells #[.int .i64 C, .int .u8 pk, .slice Ar nr cr] 27)) 29 #[.int .u8 bk, .slice Am nm cm]
  have hb := (((Below.refl w.heap.size w).alloc (Nat.le_refl _) (.cells #[.int .u8 k, .int .i64 x, .int .i64 y, .slice A n cp] 24)).alloc (by simp [World.size_alloc]) (.cells #[.int .i64 C, .int .u8 pk, .slice Ar nr cr] 27)).alloc (by simp [World.size_alloc] <;> omega) (.cells #[.int .u8 bk, .slice Am nm cm] 29)
  simp only [World.size_alloc] at hB hQ
  go_enter Tryz.func3, Tryz.ntmps3
  go_upto_region 1 with fail
  generalize World.alloc (World.alloc (World.alloc w _) _) _ = W0 at hb hP hB hQ ⊢
  have p0 := hP.cell 0
  have p1 := hP.cell 1
  have p2 := hP.cell 2
  have p3 := hP.cell 3
  have b0 := hB.cell 0
  have b1 := hB.cell 1
  have q0 := hQ.cell 0
  have q1 := hQ.cell 1
  have q2 := hQ.cell 2
  have hG := great41_any k x y A n cp L none 0 0 [] none 0 0 [] none 0 0 W0 (h.below hb) (RInts.nil_ _) (RAgg.nil_ _ _ _)
  obtain ⟨gv, hg⟩ : ∃ gv : Bool, great41 L [] [] = gv := ⟨_, rfl⟩
  rw [hg] at hG
  clear hg
  cases gv
  rotate_left
  · go_wp2_with fail
    refine hG.mono ?_
    rintro e w1 ⟨rfl, hd⟩
    clear hG
    replace hP := hP.below hd hP.lt
    replace hB := hB.below hd hB.lt
    replace hQ := hQ.below hd hQ.lt
    replace hb := Below_trans' hb hb.size hd
    clear p0 p1 p2 p3 b0 b1 q0 q1 q2 hd
    have p0 := hP.cell 0
    have p1 := hP.cell 1
    have p2 := hP.cell 2
    have p3 := hP.cell 3
    have b0 := hB.cell 0
    have b1 := hB.cell 1
    have q0 := hQ.cell 0
    have q1 := hQ.cell 1
    have q2 := hQ.cell 2
    go_wp2_with fail
    refine (examples41_any _).mono ?_
    rintro e w9 ⟨rfl, hb9⟩
    go_wp2
    go_ret
    exact ⟨rfl, Below_trans' hb hb.size hb9⟩
  go_wp2_with fail
  refine hG.mono ?_
  rintro e w1 ⟨rfl, hd⟩
  clear hG
  replace hP := hP.below hd hP.lt
  replace hB := hB.below hd hB.lt
  replace hQ := hQ.below hd hQ.lt
  replace hb := Below_trans' hb hb.size hd
  clear p0 p1 p2 p3 b0 b1 q0 q1 q2 hd
  have p0 := hP.cell 0
  have p1 := hP.cell 1
  have p2 := hP.cell 2
  have p3 := hP.cell 3
  have b0 := hB.cell 0
  have b1 := hB.cell 1
  have q0 := hQ.cell 0
  have q1 := hQ.cell 1
  have q2 := hQ.cell 2
  have hG := bgr41_any bk Am nm cm ms w1 (hm.below hb)
  obtain ⟨gv, hg⟩ : ∃ gv : Bool, bgr41 ms = gv := ⟨_, rfl⟩
  rw [hg] at hG
  clear hg
  cases gv
  rotate_left
  · go_wp2_with fail
    refine hG.mono ?_
    rintro e w2 ⟨rfl, hd⟩
    clear hG
    replace hP := hP.below hd hP.lt
    replace hB := hB.below hd hB.lt
    replace hQ := hQ.below hd hQ.lt
    replace hb := Below_trans' hb hb.size hd
    clear p0 p1 p2 p3 b0 b1 q0 q1 q2 hd
    have p0 := hP.cell 0
    have p1 := hP.cell 1
    have p2 := hP.cell 2
    have p3 := hP.cell 3
    have b0 := hB.cell 0
    have b1 := hB.cell 1
    have q0 := hQ.cell 0
    have q1 := hQ.cell 1
    have q2 := hQ.cell 2
    go_wp2_with fail
    refine (examples41_any _).mono ?_
    rintro e w9 ⟨rfl, hb9⟩
    go_wp2
    go_ret
    exact ⟨rfl, Below_trans' hb hb.size hb9⟩
  go_wp2_with fail
  refine hG.mono ?_
  rintro e w2 ⟨rfl, hd⟩
  clear hG
  replace hP := hP.below hd hP.lt
  replace hB := hB.below hd hB.lt
  replace hQ := hQ.below hd hQ.lt
  replace hb := Below_trans' hb hb.size hd
  clear p0 p1 p2 p3 b0 b1 q0 q1 q2 hd
  have p0 := hP.cell 0
  have p1 := hP.cell 1
  have p2 := hP.cell 2
  have p3 := hP.cell 3
  have b0 := hB.cell 0
  have b1 := hB.cell 1
  have q0 := hQ.cell 0
  have q1 := hQ.cell 1
  have q2 := hQ.cell 2
  have hG := great_any C pk Ar nr cr l w2 (hr.below hb)
  obtain ⟨gv, hg⟩ : ∃ gv : Bool, greatS l = gv := ⟨_, rfl⟩
  rw [hg] at hG
  clear hg
  cases gv
  rotate_left
  · go_wp2_with fail
    refine hG.mono ?_
    rintro e w3 ⟨rfl, hd⟩
    clear hG
    replace hP := hP.below hd hP.lt
    replace hB := hB.below hd hB.lt
    replace hQ := hQ.below hd hQ.lt
    replace hb := Below_trans' hb hb.size hd
    clear p0 p1 p2 p3 b0 b1 q0 q1 q2 hd
    have p0 := hP.cell 0
    have p1 := hP.cell 1
    have p2 := hP.cell 2
    have p3 := hP.cell 3
    have b0 := hB.cell 0
    have b1 := hB.cell 1
    have q0 := hQ.cell 0
    have q1 := hQ.cell 1
    have q2 := hQ.cell 2
    go_wp2_with fail
    refine (examples41_any _).mono ?_
    rintro e w9 ⟨rfl, hb9⟩
    go_wp2
    go_ret
    exact ⟨rfl, Below_trans' hb hb.size hb9⟩
  go_wp2_with fail
  refine hG.mono ?_
  rintro e w3 ⟨rfl, hd⟩
  clear hG
  replace hP := hP.below hd hP.lt
  replace hB := hB.below hd hB.lt
  replace hQ := hQ.below hd hQ.lt
  replace hb := Below_trans' hb hb.size hd
  clear p0 p1 p2 p3 b0 b1 q0 q1 q2 hd
  have p0 := hP.cell 0
  have p1 := hP.cell 1
  have p2 := hP.cell 2
  have p3 := hP.cell 3
  have b0 := hB.cell 0
  have b1 := hB.cell 1
  have q0 := hQ.cell 0
  have q1 := hQ.cell 1
  have q2 := hQ.cell 2
  have hT := total_any k x y A n cp L C pk Ar nr cr l w3 (h.below hb) (hr.below hb)
  by_cases hz : totErr k x y L C pk l = 0
  · have Hz := hide hz
    clear hz
    have hold := totIs_ok Hz.out
    rw [hold.v, hold.n, hold.e] at hT
    clear hold
    go_upto_region 4 with (go_at_call 8; refine hT.mono ?_; rintro e w4 ⟨rfl, hd⟩)
    clear hT
    replace hP := hP.below hd hP.lt
    replace hB := hB.below hd hB.lt
    replace hQ := hQ.below hd hQ.lt
    replace hb := Below_trans' hb hb.size hd
    clear p0 p1 p2 p3 b0 b1 q0 q1 q2 hd
    have p0 := hP.cell 0
    have p1 := hP.cell 1
    have p2 := hP.cell 2
    have p3 := hP.cell 3
    have b0 := hB.cell 0
    have b1 := hB.cell 1
    have q0 := hQ.cell 0
    have q1 := hQ.cell 1
    have q2 := hQ.cell 2
    have hA := radd_any C pk Ar nr cr l bk Am nm cm ms 1 w4 (hr.below hb) (hm.below hb)
    go_wp2_with fail
    refine hA.mono ?_
    rintro e w5 ⟨A5, n5, c5, rfl, hO5, hd⟩
    clear hA
    replace hP := hP.below hd hP.lt
    replace hB := hB.below hd hB.lt
    replace hQ := hQ.below hd hQ.lt
    replace hb := Below_trans' hb hb.size hd
    clear p0 p1 p2 p3 b0 b1 q0 q1 q2 hd
    have p0 := hP.cell 0
    have p1 := hP.cell 1
    have p2 := hP.cell 2
    have p3 := hP.cell 3
    have b0 := hB.cell 0
    have b1 := hB.cell 1
    have q0 := hQ.cell 0
    have q1 := hQ.cell 1
    have q2 := hQ.cell 2
    by_cases hf : (addP C pk l bk ms 1).err = 0
    · have hAI := add_is hf
      have HL := hide (add_law Hz.out hAI)
      rw [hAI.is] at hO5 ⊢
      clear hf hAI
      simp only at hO5 ⊢
      go_upto_region 5 with fail
      have hN := Has.new w5 27 #[.int .i64 C, .int .u8 pk, .slice A5 n5 c5]
      have hd6 : Below w5.heap.size w5 (w5.alloc (.cells #[.int .i64 C, .int .u8 pk, .slice A5 n5 c5] 27)) := below_allocN
      obtain ⟨g, hg⟩ : ∃ g, g = w5.heap.size := ⟨_, rfl⟩
      have hr6 := hO5.rows.below hd6
      rw [← hg] at hN ⊢
      generalize World.alloc w5 _ = w6 at hd6 hN hr6 ⊢
      clear hO5 hg
      replace hP := hP.below hd6 hP.lt
      replace hB := hB.below hd6 hB.lt
      replace hQ := hQ.below hd6 hQ.lt
      replace hb := Below_trans' hb hb.size hd6
      clear p0 p1 p2 p3 b0 b1 q0 q1 q2 hd6
      have p0 := hP.cell 0
      have p1 := hP.cell 1
      have p2 := hP.cell 2
      have p3 := hP.cell 3
      have b0 := hB.cell 0
      have b1 := hB.cell 1
      have q0 := hQ.cell 0
      have q1 := hQ.cell 1
      have q2 := hQ.cell 2
      have n0 := hN.cell 0
      have n1 := hN.cell 1
      have n2 := hN.cell 2
      have hT := total_any k x y A n cp L C pk A5 n5 c5 (putS l ms 1) w6 (h.below hb) hr6
      rw [HL.out.new.v, HL.out.new.n, HL.out.new.e] at hT
      have hs0 := HL.out.s0
      have hs1 := HL.out.s1
      have hn0 := HL.out.n0
      have hn1 := HL.out.n1
      have hw0 := HL.out.w0
      have hw1 := HL.out.w1
      go_upto_region 10 with (go_at_call 8; refine hT.mono ?_; rintro e w7 ⟨rfl, hd⟩)
      clear hT n0 n1 n2 hN
      replace hP := hP.below hd hP.lt
      replace hB := hB.below hd hB.lt
      replace hQ := hQ.below hd hQ.lt
      replace hb := Below_trans' hb hb.size hd
      clear p0 p1 p2 p3 b0 b1 q0 q1 q2 hd
      have p0 := hP.cell 0
      have p1 := hP.cell 1
      have p2 := hP.cell 2
      have p3 := hP.cell 3
      have b0 := hB.cell 0
      have b1 := hB.cell 1
      have q0 := hQ.cell 0
      have q1 := hQ.cell 1
      have q2 := hQ.cell 2
      have hV := value_any k x y A n cp L bk Am nm cm ms C w7 (h.below hb) (hm.below hb)
      rw [HL.out.vv, HL.out.ve] at hV
      go_upto_region 11 with (go_at_call 10; refine hV.mono ?_; rintro e w8 ⟨rfl, hd⟩)
      clear hV
      replace hP := hP.below hd hP.lt
      replace hB := hB.below hd hB.lt
      replace hQ := hQ.below hd hQ.lt
      replace hb := Below_trans' hb hb.size hd
      clear p0 p1 p2 p3 b0 b1 q0 q1 q2 hd
      have p0 := hP.cell 0
      have p1 := hP.cell 1
      have p2 := hP.cell 2
      have p3 := hP.cell 3
      have b0 := hB.cell 0
      have b1 := hB.cell 1
      have q0 := hQ.cell 0
      have q1 := hQ.cell 1
      have q2 := hQ.cell 2
      have hA := Has.new w8 24 #[.int .u8 k, .int .i64 x, .int .i64 y, .slice A n cp]
      have hba : Below w8.heap.size w8 (w8.alloc (.cells #[.int .u8 k, .int .i64 x, .int .i64 y, .slice A n cp] 24)) := below_allocN
      generalize hV : World.alloc w8 _ = V at hA hba
      have hH := holds_any C pk Ar nr cr l _ 1 1 _ V ((hr.below hb).below hba) (asn1 hA ((h.below hb).below hba))
      rw [HL.out.hold.b, HL.out.hold.e] at hH
      go_wp2_with fail
      try rw [hV]
      refine hH.mono ?_
      rintro e w10 ⟨rfl, hd0⟩
      have hd := Below_trans' hba hba.size hd0
      clear hH hA hba hd0 hV
      replace hP := hP.below hd hP.lt
      replace hB := hB.below hd hB.lt
      replace hQ := hQ.below hd hQ.lt
      replace hb := Below_trans' hb hb.size hd
      clear p0 p1 p2 p3 b0 b1 q0 q1 q2 hd
      have p0 := hP.cell 0
      have p1 := hP.cell 1
      have p2 := hP.cell 2
      have p3 := hP.cell 3
      have b0 := hB.cell 0
      have b1 := hB.cell 1
      have q0 := hQ.cell 0
      have q1 := hQ.cell 1
      have q2 := hQ.cell 2
      generalize totA k x y L l = S at *
      generalize totS l = N at *
      generalize worthA k x y L ms = V at *
      have e1 : IntKind.i64.wrap (S + V) = S + V := IntWalk.i64_in _ (by omega)
      have e2 : IntKind.i64.wrap (N + 1) = N + 1 := IntWalk.i64_in _ (by omega)
      go_wp2_with fail
      refine (examples41_any _).mono ?_
      rintro e w9 ⟨rfl, hb9⟩
      go_wp2
      go_ret
      exact ⟨rfl, Below_trans' hb hb.size hb9⟩
    · have b1' : ((addP C pk l bk ms 1).err != 0) = true := by simp [hf]
      clear hf
      generalize addP C pk l bk ms 1 = R at *
      go_upto_region 5 with fail
      have hd6 : Below w5.heap.size w5 (w5.alloc (.cells #[.int .i64 R.c, .int .u8 R.k, .slice A5 n5 c5] 27)) := below_allocN
      generalize World.alloc w5 _ = w6 at hd6 ⊢
      replace hP := hP.below hd6 hP.lt
      replace hB := hB.below hd6 hB.lt
      replace hQ := hQ.below hd6 hQ.lt
      replace hb := Below_trans' hb hb.size hd6
      clear p0 p1 p2 p3 b0 b1 q0 q1 q2 hd6
      have p0 := hP.cell 0
      have p1 := hP.cell 1
      have p2 := hP.cell 2
      have p3 := hP.cell 3
      have b0 := hB.cell 0
      have b1 := hB.cell 1
      have q0 := hQ.cell 0
      have q1 := hQ.cell 1
      have q2 := hQ.cell 2
      go_wp2_with fail
      refine (examples41_any _).mono ?_
      rintro e w9 ⟨rfl, hb9⟩
      go_wp2
      go_ret
      exact ⟨rfl, Below_trans' hb hb.size hb9⟩
  · have hbad := totIs_bad rfl hz
    rw [hbad.v, hbad.n] at hT
    have b1' : (totErr k x y L C pk l != 0) = true := by simp [hz]
    generalize totErr k x y L C pk l = tE at hT b1'
    clear hbad hz
    go_upto_region 4 with (go_at_call 8; refine hT.mono ?_; rintro e w4 ⟨rfl, hd⟩)
    clear hT
    replace hP := hP.below hd hP.lt
    replace hB := hB.below hd hB.lt
    replace hQ := hQ.below hd hQ.lt
    replace hb := Below_trans' hb hb.size hd
    clear p0 p1 p2 p3 b0 b1 q0 q1 q2 hd
    have p0 := hP.cell 0
    have p1 := hP.cell 1
    have p2 := hP.cell 2
    have p3 := hP.cell 3
    have b0 := hB.cell 0
    have b1 := hB.cell 1
    have q0 := hQ.cell 0
    have q1 := hQ.cell 1
    have q2 := hQ.cell 2
    have hA := radd_any C pk Ar nr cr l bk Am nm cm ms 1 w4 (hr.below hb) (hm.below hb)
    go_wp2_with fail
    refine hA.mono ?_
    rintro e w5 ⟨A5, n5, c5, rfl, hO5, hd⟩
    clear hA
    replace hP := hP.below hd hP.lt
    replace hB := hB.below hd hB.lt
    replace hQ := hQ.below hd hQ.lt
    replace hb := Below_trans' hb hb.size hd
    clear p0 p1 p2 p3 b0 b1 q0 q1 q2 hd
    have p0 := hP.cell 0
    have p1 := hP.cell 1
    have p2 := hP.cell 2
    have p3 := hP.cell 3
    have b0 := hB.cell 0
    have b1 := hB.cell 1
    have q0 := hQ.cell 0
    have q1 := hQ.cell 1
    have q2 := hQ.cell 2
    generalize addP C pk l bk ms 1 = R at *
    go_upto_region 5 with fail
    have hd6 : Below w5.heap.size w5 (w5.alloc (.cells #[.int .i64 R.c, .int .u8 R.k, .slice A5 n5 c5] 27)) := below_allocN
    generalize World.alloc w5 _ = w6 at hd6 ⊢
    replace hP := hP.below hd6 hP.lt
    replace hB := hB.below hd6 hB.lt
    replace hQ := hQ.below hd6 hQ.lt
    replace hb := Below_trans' hb hb.size hd6
    clear p0 p1 p2 p3 b0 b1 q0 q1 q2 hd6
    have p0 := hP.cell 0
    have p1 := hP.cell 1
    have p2 := hP.cell 2
    have p3 := hP.cell 3
    have b0 := hB.cell 0
    have b1 := hB.cell 1
    have q0 := hQ.cell 0
    have q1 := hQ.cell 1
    have q2 := hQ.cell 2
    go_wp2_with fail
    refine (examples41_any _).mono ?_
    rintro e w9 ⟨rfl, hb9⟩
    go_wp2
    go_ret
    exact ⟨rfl, Below_trans' hb hb.size hb9⟩
end Go.Proofs.YtoeajgjpakilgaaGreat
