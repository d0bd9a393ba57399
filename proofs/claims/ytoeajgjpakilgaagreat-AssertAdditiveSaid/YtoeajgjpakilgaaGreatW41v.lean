/-
  Assertions: the reference's validity, kind of ballots, and value of a ballot.
  Assertions: the reference's value of a ballot.
  Assertions: the total of a profile, plain; and as both count it.
-/
import Derived.Test.YtoeajgjpakilgaaGreatW41a
import Derived.Test.YtoeajgjpakilgaaGreatW8a
import Derived.Test.YtoeajgjpakilgaaGreatW9a
namespace Go.Proofs.YtoeajgjpakilgaaGreat
open Go.RowKit Go.Proofs Go.Shelf
attribute [local go_sem] cell?_more cell?_alloc_some cell?_setCell_far frozen?_alloc_some frozen?_more
end Go.Proofs.YtoeajgjpakilgaaGreat

namespace Go.Proofs.YtoeajgjpakilgaaGreat
open Go.RowKit Go.Proofs Go.Shelf
attribute [local go_sem] cell?_more cell?_alloc_some cell?_setCell_far frozen?_alloc_some frozen?_more
end Go.Proofs.YtoeajgjpakilgaaGreat

namespace Go.Proofs.YtoeajgjpakilgaaGreat

/-- The sum of the values of the rows. -/
def totA (k x y : Int) (L : List Int) (l : List Row) : Int := (l.map fun r => r.2 * worthA k x y L r.1).sum
theorem totA_step {k x y : Int} {L : List Int} {l : List Row} {i : Nat} {r : Row} (h : l[i]? = some r) : totA k x y L (l.take (i + 1)) = totA k x y L (l.take i) + r.2 * worthA k x y L r.1 := by
  unfold totA
  rw [List.take_add_one, h]
  simp
theorem totA_bd {k x y : Int} {L : List Int} : ∀ {l : List Row}, (∀ r ∈ l, 0 < r.2) → 0 ≤ totA k x y L l ∧ totA k x y L l ≤ 2 * totS l ∧ 0 ≤ totS l
  | [], _ => by simp [totA, totS]
  | r :: s, h => by
    have ih := totA_bd (k := k) (x := x) (y := y) (L := L) (l := s) (fun r hr => h r (List.mem_cons_of_mem _ hr))
    have hr := h r List.mem_cons_self
    have hw := worthA_bd k x y L r.1
    have h1 : 0 ≤ r.2 * worthA k x y L r.1 := Int.mul_nonneg (by omega) hw.1
    have h2 : r.2 * worthA k x y L r.1 ≤ r.2 * 2 := Int.mul_le_mul_of_nonneg_left hw.2 (by omega)
    have e1 : totA k x y L (r :: s) = r.2 * worthA k x y L r.1 + totA k x y L s := by simp [totA]
    have e2 : totS (r :: s) = r.2 + totS s := by simp [totS]
    omega
theorem pos_mem {c k : Int} {l : List Row} (h : checkS c k l = 0) : ∀ r ∈ l, 0 < r.2 := by
  intro r hr
  obtain ⟨i, hi, rfl⟩ := List.getElem_of_mem hr
  have := rowOK_many ((check_ok h).2.2.2.2.2.2 i hi)
  rwa [show l.getD i ([], 0) = l[i] by simp [List.getD, hi]] at this
structure TotRoom (k x y : Int) (L : List Int) (l : List Row) (i : Nat) (r : Row) : Prop where
  p0 : 0 ≤ r.2 * worthA k x y L r.1
  p1 : r.2 * worthA k x y L r.1 ≤ 2000000
  s0 : 0 ≤ totA k x y L (l.take i)
  s1 : totA k x y L (l.take i) + r.2 * worthA k x y L r.1 ≤ 2000000
  n0 : 0 ≤ totS (l.take i)
  n1 : totS (l.take i) + r.2 ≤ 1000000
  y0 : 0 < r.2
  sA : totA k x y L (l.take (i + 1)) = totA k x y L (l.take i) + r.2 * worthA k x y L r.1
  sN : totS (l.take (i + 1)) = totS (l.take i) + r.2
theorem tot_room {k x y c pk : Int} {L : List Int} {l : List Row} (h : checkS c pk l = 0) {i : Nat} {r : Row} (hat : l[i]? = some r) : TotRoom k x y L l i r := by
  have hp := pos_mem h
  have hi : i < l.length := (List.getElem?_eq_some_iff.1 hat).1
  have ht := (check_ok h).2.2.2.2.2.1
  have hm := totS_mono (l := l) (fun i hi => rowOK_many ((check_ok h).2.2.2.2.2.2 i hi)) (a := i + 1) (b := l.length) hi (Nat.le_refl _)
  rw [List.take_length] at hm
  have b0 := totA_bd (k := k) (x := x) (y := y) (L := L) (l := l.take i) (fun r hr => hp r (List.mem_of_mem_take hr))
  have b1 := totA_bd (k := k) (x := x) (y := y) (L := L) (l := l.take (i + 1)) (fun r hr => hp r (List.mem_of_mem_take hr))
  have sA := totA_step (k := k) (x := x) (y := y) (L := L) hat
  have sN := totS_take_succ hat
  have hr := hp r (List.mem_of_getElem? hat)
  have hw := worthA_bd k x y L r.1
  have h1 : 0 ≤ r.2 * worthA k x y L r.1 := Int.mul_nonneg (by omega) hw.1
  exact ⟨h1, by omega, b0.1, by omega, b0.2.2, by omega, hr, sA, sN⟩

def totErr (k x y : Int) (L : List Int) (c pk : Int) (l : List Row) : Int := if checkS c pk l ≠ 0 then checkS c pk l else if checkA k x y L c ≠ 0 then checkA k x y L c else if pk ≠ kindA k then 8 else 0
def totV (k x y : Int) (L : List Int) (c pk : Int) (l : List Row) : Int := if totErr k x y L c pk l = 0 then totA k x y L l else 0
def totN (k x y : Int) (L : List Int) (c pk : Int) (l : List Row) : Int := if totErr k x y L c pk l = 0 then totS l else 0
structure TotIs (k x y : Int) (L : List Int) (c pk : Int) (l : List Row) (e v n : Int) : Prop where
  e : totErr k x y L c pk l = e
  v : totV k x y L c pk l = v
  n : totN k x y L c pk l = n
theorem totIs_bad {k x y c pk e : Int} {L : List Int} {l : List Row} (h : totErr k x y L c pk l = e) (he : e ≠ 0) : TotIs k x y L c pk l e 0 0 :=
  ⟨h, by unfold totV; rw [h, if_neg he], by unfold totN; rw [h, if_neg he]⟩
theorem totIs_ok {k x y c pk : Int} {L : List Int} {l : List Row} (h : totErr k x y L c pk l = 0) : TotIs k x y L c pk l 0 (totA k x y L l) (totS l) :=
  ⟨h, by unfold totV; rw [h, if_pos rfl], by unfold totN; rw [h, if_pos rfl]⟩
end Go.Proofs.YtoeajgjpakilgaaGreat

namespace Go.Proofs.YtoeajgjpakilgaaGreat
open Go.RowKit Go.Proofs Go.Shelf
attribute [local go_sem] cell?_more cell?_alloc_some cell?_setCell_far frozen?_alloc_some frozen?_more
theorem ret_iii {a b c a' b' c' : Int} (h1 : a = a') (h2 : b = b') (h3 : c = c') : Ending.returned (.tuple #[.int .i64 a, .int .i64 b, .int .i64 c]) = .returned (.tuple #[.int .i64 a', .int .i64 b', .int .i64 c']) := by rw [h1, h2, h3]

/-- A function of values. -/
structure ValFn (F : FuncId) (g : Nat) (k x y : Int) (L : List Int) (pk : Int) (W0 : World) : Prop where
  eg : ∀ args w, (callFunc F args).run Tryz.prog w = .ok (.enter F args) w
  run : ∀ W, Below W0.heap.size W0 W → ∀ (Am : Option Addr) (nm cm : Nat) (ms : List Int), RInts W Am nm cm ms →
    Calls Tryz.prog F #[.agg #[.int .u8 pk, .slice Am nm cm], .pointer (some ⟨g, 0, none⟩)] W fun e w' => e = .returned (.int .i64 (worthA k x y L ms)) ∧ Below W.heap.size W w'
theorem vals_fn {k x y : Int} {A : Option Addr} {n cp : Nat} {L : List Int} {c pk : Int} {g : Nat} {w : World} (hF : FineA k x y L c) (h3 : k = 3 → pk = 1) (hA : AsnAt w g k x y A n cp) (hL : RInts w A n cp L) :
    ∃ F i, ValFn F g k x y L pk w ∧ Instr.findNow (.int .u8) (.int .u8 k) (valsM g).toList 0 = some (some (i, .func (.func F) #[] #[.pointer (some ⟨g, 0, none⟩)])) := by
  have hlt : g < w.heap.size := Has.lt hA
  rcases hF.k5 with rfl | rfl | rfl | rfl | rfl
  · exact ⟨41, 0, ⟨enters_of Tryz.func41 (by kernel_rfl) rfl, fun W hW Am nm cm ms hm => val1_any g 1 x y A n cp L pk Am nm cm ms W (Has.below hA hW hlt) hm⟩, by rfl⟩
  · exact ⟨43, 1, ⟨enters_of Tryz.func43 (by kernel_rfl) rfl, fun W hW Am nm cm ms hm => val2_any g 2 x y A n cp L pk Am nm cm ms W (Has.below hA hW hlt) hm⟩, by rfl⟩
  · obtain rfl := h3 rfl
    exact ⟨45, 2, ⟨enters_of Tryz.func45 (by kernel_rfl) rfl, fun W hW Am nm cm ms hm => val3_any g 3 x y A n cp L Am nm cm ms W (Has.below hA hW hlt) hm⟩, by rfl⟩
  · exact ⟨47, 3, ⟨enters_of Tryz.func47 (by kernel_rfl) rfl, fun W hW Am nm cm ms hm => val4_any g 4 x y A n cp L pk Am nm cm ms W (Has.below hA hW hlt) (hL.below hW) hm⟩, by rfl⟩
  · exact ⟨49, 4, ⟨enters_of Tryz.func49 (by kernel_rfl) rfl, fun W hW Am nm cm ms hm => val5_any g 5 x y A n cp L pk Am nm cm ms W (Has.below hA hW hlt) (hL.below hW) hm⟩, by rfl⟩

set_option maxRecDepth 100000 in
set_option maxHeartbeats 4000000 in
theorem total_any (k x y : Int) (A : Option Addr) (n cp : Nat) (L : List Int) (C pk : Int) (Ar : Option Addr) (nr cr : Nat) (l : List Row) (w : World) (h : RInts w A n cp L) (hr : RRows w Ar nr cr l) :
    Calls Tryz.prog 8 #[.agg #[.int .u8 k, .int .i64 x, .int .i64 y, .slice A n cp], .agg #[.int .i64 C, .int .u8 pk, .slice Ar nr cr]] w fun e w' =>
      e = .returned (.tuple #[.int .i64 (totV k x y L C pk l), .int .i64 (totN k x y L C pk l), .int .i64 (totErr k x y L C pk l)]) ∧ Below w.heap.size w w' := by
  have HT := hide (show Tryz.prog.underlying 71 = some (.map 5 70) by kernel_rfl)
  have HK := hide (show Tryz.prog.underlying 5 = some (.int .u8) by kernel_rfl)
  have hle := hr.le
  have hlen := hide hr.len
  have hb0 : Below w.heap.size w (w.alloc (.cells #[.int .u8 k, .int .i64 x, .int .i64 y, .slice A n cp] 24)) := below_allocN
  have hP := Has.new w 24 #[.int .u8 k, .int .i64 x, .int .i64 y, .slice A n cp]
  have hb1 : Below (w.alloc (.cells #[.int .u8 k, .int .i64 x, .int .i64 y, .slice A n cp] 24)).heap.size (w.alloc (.cells #[.int .u8 k, .int .i64 x, .int .i64 y, .slice A n cp] 24)) ((w.alloc (.cells #[.int .u8 k, .int .i64 x, .int .i64 y, .slice A n cp] 24)).alloc (.cells #[.int .i64 C, .int .u8 pk, .slice Ar nr cr] 27)) := below_allocN
  have hQ := Has.new (w.alloc (.cells #[.int .u8 k, .int .i64 x, .int .i64 y, .slice A n cp] 24)) 27 #[.int .i64 C, .int .u8 pk, .slice Ar nr cr]
  have hP1 := hP.below hb1 hP.lt
  have hb := Below_trans' hb0 hb0.size hb1
  clear hb0 hb1 hP
  rw [World.size_alloc] at hQ
  go_enter Tryz.func8, Tryz.ntmps8
  go_upto_region 1 with fail
  generalize World.alloc (World.alloc w _) _ = W0 at hb hP1 hQ ⊢
  have p0 := hP1.cell 0
  have p1 := hP1.cell 1
  have p2 := hP1.cell 2
  have p3 := hP1.cell 3
  have q0 := hQ.cell 0
  have q1 := hQ.cell 1
  have q2 := hQ.cell 2
  have hC := pcheck_any C pk Ar nr cr l W0 (hr.below hb)
  by_cases hc0 : checkS C pk l = 0
  · have Hc := hide hc0
    rw [hc0] at hC
    clear hc0
    go_upto_region 4 with (go_at_call 19; refine hC.mono ?_; rintro e w1 ⟨rfl, hd⟩)
    clear hC
    replace hP1 := hP1.below hd hP1.lt
    replace hQ := hQ.below hd hQ.lt
    replace hb := Below_trans' hb hb.size hd
    clear p0 p1 p2 p3 q0 q1 q2 hd
    have p0 := hP1.cell 0
    have p1 := hP1.cell 1
    have p2 := hP1.cell 2
    have p3 := hP1.cell 3
    have q0 := hQ.cell 0
    have q1 := hQ.cell 1
    have q2 := hQ.cell 2
    have hA := check41_any k x y A n cp L C w1 (h.below hb)
    by_cases ha : checkA k x y L C = 0
    · have Ha := hide ha
      rw [ha] at hA
      clear ha
      go_upto_region 7 with (go_at_call 17; refine hA.mono ?_; rintro e w2 ⟨rfl, hd⟩)
      clear hA
      replace hP1 := hP1.below hd hP1.lt
      replace hQ := hQ.below hd hQ.lt
      replace hb := Below_trans' hb hb.size hd
      clear p0 p1 p2 p3 q0 q1 q2 hd
      have p0 := hP1.cell 0
      have p1 := hP1.cell 1
      have p2 := hP1.cell 2
      have p3 := hP1.cell 3
      have q0 := hQ.cell 0
      have q1 := hQ.cell 1
      have q2 := hQ.cell 2
      have hKd : ∀ q, Calls Tryz.prog 20 #[.agg #[.int .u8 k, .int .i64 x, .int .i64 y, .slice A n cp]] (More w2 q) fun e w' => e = .returned (.int .u8 (kindA k)) ∧ Below (More w2 q).heap.size (More w2 q) w' := fun q => kind_any k x y A n cp _
      by_cases hk : pk = kindA k
      · have b2 : (pk != kindA k) = false := by simp [hk]
        have hT : Hid (TotIs k x y L C pk l 0 (totA k x y L l) (totS l)) := totIs_ok (by unfold totErr; rw [if_neg (by simp [Hc.out]), if_neg (by simp [Ha.out]), if_neg (by simp [hk])])
        have H3 : Hid (k = 3 → pk = 1) := fun e => by rw [hk, e]; rfl
        have hF := hide (fine_of (check_zero Ha.out).2)
        generalize kindA k = kk at *
        clear hk
        refine wp_region_more (by kernel_rfl) (by kernel_rfl) ?_
        repeat (go_big_quiet_step ((go_at_call 20; with_reducible exact more_of (hKd _))))
        refine wpQuiet_nil ?_
        rintro w3 ⟨qw3, hww3⟩
        have hbw3 := below_of_eq hww3
        clear hww3 qw3
        clear hKd
        replace hP1 := hP1.below hbw3 hP1.lt
        replace hQ := hQ.below hbw3 hQ.lt
        replace hb := Below_trans' hb hb.size hbw3
        clear p0 p1 p2 p3 q0 q1 q2 hbw3
        have p0 := hP1.cell 0
        have p1 := hP1.cell 1
        have p2 := hP1.cell 2
        have p3 := hP1.cell 3
        have q0 := hQ.cell 0
        have q1 := hQ.cell 1
        have q2 := hQ.cell 2
        go_upto_region 9 with (fail)
        refine wp_region_flowz [0, 2, 3] [0, 2, 3] (fun w' => ∃ q, w' = More w3 q) (by kernel_rfl) (by kernel_rfl) (below_more ((Below.refl w3.heap.size w3).drew)) ?_
        simp only [pickOps, List.getElem?_cons_zero, List.getElem?_cons_succ]
        repeat (go_big_quiet_step (fail))
        refine wpQuiet_nil ?_
        have hdr : Below w3.heap.size w3 w3.drew := (Below.refl _ _).drew
        refine flow_one 1 (by kernel_rfl) rfl ?_
        go_wp2_with fail
        refine (values41_any k x y A n cp w3.drew).mono ?_
        rintro e w4 ⟨g, r, rfl, hA, hM, hb4⟩
        have hbv : Below w3.heap.size w3 w4 := Below_trans' hdr (Nat.le_refl _) hb4
        clear hdr hb4
        go_wp2
        refine FlowPost.mk ⟨below_more hbv, ?_⟩
        refine flow_one 4 (by kernel_rfl) rfl ?_
        obtain ⟨F, ix, hVF, hfind⟩ := vals_fn (pk := pk) hF.out H3.out hA ((h.below hb).below hbv)
        have HBV := hide hbv
        replace hP1 := hP1.below hbv hP1.lt
        replace hQ := hQ.below hbv hQ.lt
        replace hb := Below_trans' hb hb.size hbv
        clear p0 p1 p2 p3 q0 q1 q2 hbv
        have p0 := hP1.cell 0
        have p1 := hP1.cell 1
        have p2 := hP1.cell 2
        have p3 := hP1.cell 3
        have q0 := hQ.cell 0
        have q1 := hQ.cell 1
        have q2 := hQ.cell 2
        have Hvf := hide hVF
        clear hVF hF H3
        refine lookU8 rfl _ _ 71 rfl 5 70 HT.out HK.out r _ _ _ ix _ rfl rfl hM hfind ?_
        clear hfind
        go_wp2
        refine FlowPost.mk ⟨below_more HBV.out, ?_⟩
        clear hM HBV
        refine flow_rest [5] (by kernel_rfl) ?_
        simp only [pickOps]
        have hQ4 := hide hQ
        have hbz := hide hb
        go_wp2
        go_loopw [4, 5, 35] (fun s m i wr => ∃ t : Nat, t ≤ nr ∧ i = .int .i64 t ∧ s = .int .i64 (totA k x y L (l.take t)) ∧ m = .int .i64 (totS (l.take t)) ∧ Below w4.heap.size w4 wr) (fun _ _ i _ => nr - (intOf i).toNat)
        case atStart => exact ⟨0, Nat.zero_le _, rfl, rfl, rfl, Below.refl _ _⟩
        case round =>
          obtain ⟨t, ht, rfl, rfl, rfl, hB⟩ := hrel
          have hQr := hQ.below hB hQ.lt
          clear p0 p1 p2 p3 q0 q1 q2
          have q1 := hQr.cell 1
          by_cases hlt : t < nr
          · obtain ⟨b, off, Am, nm, cm, ms, v, rfl, hc0, hRm, hc1, _, hat, hy0, hy1⟩ := (((hr.below hb).below hB).step hlt)
            have hroom := tot_room (k := k) (x := x) (y := y) (L := L) Hc.out hat.out
            have hba : Below wr.heap.size wr (wr.alloc (.cells #[.slice Am nm cm, .int .i64 v] 55)) := below_allocN
            have hHr := Has.new wr 55 #[.slice Am nm cm, .int .i64 v]
            have hqq := hQr.below hba hQr.lt
            generalize hV : World.alloc wr _ = V at hba hHr hqq
            have hcall : ∀ q, Calls Tryz.prog F #[.agg #[.int .u8 pk, .slice Am nm cm], .pointer (some ⟨g, 0, none⟩)] (More V q) fun e w' => e = .returned (.int .i64 (worthA k x y L ms)) ∧ Below (More V q).heap.size (More V q) w' :=
              fun q => Hvf.out.run _ (Below_trans' (Below_trans' hB hB.size hba) (Below_trans' hB hB.size hba).size (more_below V q)) _ _ _ _ ((hRm.below hba).more q)
            have eg := Hvf.out.eg
            have hr1 := hroom.p0
            have hr2 := hroom.p1
            have hr3 := hroom.s0
            have hr4 := hroom.s1
            have hr5 := hroom.n0
            have hr6 := hroom.n1
            have hr7 := hroom.y0
            have hsA := hide hroom.sA
            have hsN := hide hroom.sN
            simp only at hr1 hr2 hr3 hr4 hr5 hr6 hr7 hsA hsN
            generalize worthA k x y L ms = W at *
            have e1 : IntKind.i64.wrap (v * W) = v * W := IntWalk.i64_in _ (by omega)
            have e2 : IntKind.i64.wrap (totA k x y L (l.take t) + v * W) = totA k x y L (l.take t) + v * W := IntWalk.i64_in _ (by omega)
            have e3 : IntKind.i64.wrap (totS (l.take t) + v) = totS (l.take t) + v := IntWalk.i64_in _ (by omega)
            clear hroom hat hr1 hr2 hr3 hr4 hr5 hr6 hr7
            go_upto_region 13 with fail
            try rw [hV]
            clear hV
            have s0 := hHr.cell 0
            have s1 := hHr.cell 1
            have q1' := hqq.cell 1
            refine wp_region_more (by kernel_rfl) (by kernel_rfl) ?_
            repeat (go_big_quiet_step ((go_at_fn F; with_reducible exact more_of (hcall _))))
            refine wpQuiet_nil ?_
            rintro w5 ⟨qw5, hww5⟩
            have hbw5 := below_of_eq hww5
            clear hww5 qw5
            have s1' := keep_cell hbw5 s1
            have hB5 := Below_trans' (Below_trans' hB hB.size hba) (Below_trans' hB hB.size hba).size hbw5
            clear s0 s1 q1 q1' hcall eg
            go_wp2
            go_roundw
            case rel => exact ⟨t + 1, by omega, by go_num, by rw [hsA.out], by rw [hsN.out], hB5⟩
            case measure => simp [intOf] <;> omega
          · have htn : t = nr := by omega
            have hT2 : Hid (TotIs k x y L C pk l 0 (totA k x y L (l.take t)) (totS (l.take t))) := by
              unfold Hid
              rw [List.take_of_length_le (by rw [hlen.out]; omega)]
              exact hT.out
            have hbe := Below_trans' hbz.out hbz.out.size hB
            clear htn
            go_wp2
            go_ret3
            exact ⟨ret_iii hT2.out.v.symm hT2.out.n.symm hT2.out.e.symm, hbe⟩
      · have b2 : (pk != kindA k) = true := by simp [hk]
        have hT : Hid (TotIs k x y L C pk l 8 0 0) := totIs_bad (by unfold totErr; rw [if_neg (by simp [Hc.out]), if_neg (by simp [Ha.out]), if_pos hk]) (by decide)
        generalize kindA k = kk at *
        clear hk
        refine wp_region_more (by kernel_rfl) (by kernel_rfl) ?_
        repeat (go_big_quiet_step ((go_at_call 20; with_reducible exact more_of (hKd _))))
        refine wpQuiet_nil ?_
        rintro w3 ⟨qw3, hww3⟩
        have hbw3 := below_of_eq hww3
        clear hww3 qw3
        clear hKd
        replace hP1 := hP1.below hbw3 hP1.lt
        replace hQ := hQ.below hbw3 hQ.lt
        replace hb := Below_trans' hb hb.size hbw3
        clear p0 p1 p2 p3 q0 q1 q2 hbw3
        have p0 := hP1.cell 0
        have p1 := hP1.cell 1
        have p2 := hP1.cell 2
        have p3 := hP1.cell 3
        have q0 := hQ.cell 0
        have q1 := hQ.cell 1
        have q2 := hQ.cell 2
        go_wp2
        go_ret3
        exact ⟨ret_iii hT.out.v.symm hT.out.n.symm hT.out.e.symm, hb⟩
    · have hT : Hid (TotIs k x y L C pk l (checkA k x y L C) 0 0) := totIs_bad (by unfold totErr; rw [if_neg (by simp [Hc.out]), if_pos ha]) ha
      have b1 : (checkA k x y L C != 0) = true := by simp [ha]
      generalize checkA k x y L C = ce at *
      clear ha
      go_wp2_with (go_at_call 17; refine hA.mono ?_; rintro e w2 ⟨rfl, hd⟩)
      replace hb := Below_trans' hb hb.size hd
      go_ret3
      exact ⟨ret_iii hT.out.v.symm hT.out.n.symm hT.out.e.symm, hb⟩
  · have hT : Hid (TotIs k x y L C pk l (checkS C pk l) 0 0) := totIs_bad (by unfold totErr; rw [if_pos hc0]) hc0
    have b1 : (checkS C pk l != 0) = true := by simp [hc0]
    generalize checkS C pk l = ce at *
    clear hc0
    go_wp2_with (go_at_call 19; refine hC.mono ?_; rintro e w2 ⟨rfl, hd⟩)
    replace hb := Below_trans' hb hb.size hd
    go_ret3
    exact ⟨ret_iii hT.out.v.symm hT.out.n.symm hT.out.e.symm, hb⟩
end Go.Proofs.YtoeajgjpakilgaaGreat
