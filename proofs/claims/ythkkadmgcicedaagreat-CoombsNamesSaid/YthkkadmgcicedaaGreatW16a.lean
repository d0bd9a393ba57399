/-
  The library's DeleteFunc at a closure that answers for the elements alone.
  The layer coombs: against, Lasts.
  The layer coombs: who is elected in a round, who may be out.
-/
import Derived.Test.YthkkadmgcicedaaGreatFnc
import Derived.Test.YthkkadmgcicedaaGreatSpecCb
import Derived.Test.YthkkadmgcicedaaGreatW15c
import Derived.Test.YthkkadmgcicedaaGreatW15d
namespace Go.Proofs.YthkkadmgcicedaaGreat
open Go.RowKit Go.Proofs Go.Shelf
attribute [local go_sem] cell?_more cell?_alloc_some cell?_setCell_far frozen?_alloc_some frozen?_more
set_option maxRecDepth 100000 in
set_option maxHeartbeats 2000000 in
theorem deleteFunc_in (F : FuncId) (eg : ∀ args w, (callFunc F args).run Tryz.prog w = .ok (.enter F args) w) (p : Int → Bool) (lb : Array Value) (B : Nat) (A : Option Addr) (n c : Nat) (xs : List Int) (w : World) (h : Own w B (.slice A n c) xs) (hx : ∀ x ∈ xs, -9223372036854775808 ≤ x ∧ x ≤ 9223372036854775807)
    (hp : ∀ W, Frame' (fun b => some b = (Value.slice A n c).ownBlock) w W → ∀ x, x ∈ xs → Calls Tryz.prog F (#[.int .i64 x] ++ lb) W fun e w' => e = .returned (.bool (p x)) ∧ Below W.heap.size W w') :
    Calls Tryz.prog 60 #[.slice A n c, .func (.func F) #[] lb] w (DelPost w B (.slice A n c) (xs.filter fun x => !p x)) := by
  have hr := h.ints hx
  have hle := hr.le
  have hlen := hide hr.len
  have hcall := indexFunc_at F eg p lb A n c xs w hr (fun W hb x hx => hp W (Frame'.of_below hb) x hx)
  have Hp := hide hp
  have Hr := hide hr
  have Hh := hide h
  rcases firstS_spec p xs 0 with ⟨e1, hall⟩ | ⟨i0, hi0, e1, hf0⟩
  · have hf : Hid ((xs.filter fun x => !p x) = xs) := by
      unfold Hid
      rw [List.filter_eq_self]
      intro x hx
      rw [hall x hx]; rfl
    rw [e1] at hcall
    clear hp hr h e1 hall hx
    go_enter Tryz.func60, Tryz.ntmps60
    go_wp2_with (go_at_call 86; refine hcall.mono ?_; rintro e w' ⟨rfl, hb'⟩)
    go_ret
    exact ⟨A, n, c, rfl, by rw [hf.out]; exact Hh.out.below hb', rfl, Frame'.of_below hb'⟩
  · rw [show (0 : Int) + i0 = i0 by omega] at e1
    rw [e1] at hcall
    rw [hr.len] at hi0
    obtain ⟨g, rfl⟩ : ∃ g, A = some ⟨g, 0, none⟩ := by
      rcases h.2 with ⟨_, e⟩ | ⟨g, cap, cur, e, _⟩
      · rw [hr.len] at e; omega
      · cases e; exact ⟨g, rfl⟩
    have hne : ((i0 : Int) == -1) = false := beq_eq_false_iff_ne.2 (by omega)
    have hnc : n ≤ c := hr.2.1
    have hcm : c ≤ 9223372036854775807 := hr.2.2.1
    have hF0 := hide hf0
    clear hp hr h e1 hx hf0
    go_enter Tryz.func60, Tryz.ntmps60
    go_wp2_with (go_at_call 86; refine hcall.mono ?_; rintro e w5 ⟨rfl, hb5⟩)
    clear hcall
    go_loopw [5, 6, 7] (fun s5 s6 s7 wr => ∃ (i j : Nat) (ys : List Int), i < j ∧ j ≤ n ∧ s5 = .int .i64 i ∧ s6 = .int .i64 j ∧ Hid (ys.length = n) ∧ Hid (ys.take i = (xs.take j).filter fun x => !p x) ∧ Hid (ys.drop j = xs.drop j) ∧ Hid (Own wr B (.slice (some ⟨g, 0, none⟩) n c) ys) ∧ Hid (Frame' (fun b => some b = (Value.slice (some ⟨g, 0, none⟩) n c).ownBlock) w wr)) (fun s5 s6 s7 _ => n - (intOf s6).toNat)
    case atStart => exact ⟨i0, i0 + 1, xs, by omega, by omega, rfl, by go_num, hlen, hF0.out.symm, rfl, Hh.out.below hb5, Frame'.of_below hb5⟩
    case round =>
      obtain ⟨i, j, ys, hij, hj, rfl, rfl, hyl, hyt, hyd, hO, hF⟩ := hrel
      have hown : wr.ownsRow B 3 1 (.slice (some ⟨g, 0, none⟩) n c) n (ys.map (Value.int .i64)) := by have := hO.out; unfold Own at this; rwa [hyl.out] at this
      by_cases hlt : j < n
      · have hxj : xs[j]? = some (xs[j]'(by rw [hlen.out]; exact hlt)) := List.getElem?_eq_getElem _
        generalize (xs[j]'(by rw [hlen.out]; exact hlt)) = v at hxj
        have hyj : ys[j]? = some v := by
          have := congrArg (·[0]?) hyd.out
          simpa [List.getElem?_drop, hxj] using this
        have hcj : wr.cell? ⟨g, j, none⟩ = some (.int .i64 v) := by rw [hown.cellAt j (by omega), List.getElem?_map, hyj]; rfl
        have hcall := Hp.out wr hF.out v (List.mem_of_getElem? hxj)
        have Hxj := hide hxj
        have Hown := hide hown
        have htk : Hid (xs.take (j + 1) = xs.take j ++ [v]) := by unfold Hid; rw [List.take_add_one, hxj]; rfl
        have hdk : Hid (ys.drop (j + 1) = xs.drop (j + 1)) := by
          have := congrArg (List.drop 1) hyd.out
          unfold Hid
          simpa [List.drop_drop] using this
        clear hxj hown hyj
        cases hv : p v with
        | true =>
          rw [hv] at hcall
          have Hv := hide hv
          clear hv
          go_wp2_with (go_at_fn F; refine hcall.mono ?_; rintro e w' ⟨rfl, hb'⟩)
          go_roundw
          case rel => exact ⟨i, j + 1, ys, by omega, by omega, rfl, by go_num, hyl, by unfold Hid; rw [hyt.out, htk.out]; simp [Hv.out], hdk, hO.out.below hb', hF.out.trans (Frame'.of_below hb')⟩
          case measure => simp [intOf] <;> omega
        | false =>
          rw [hv] at hcall
          have Hv := hide hv
          clear hv
          have Hcj := hide hcj
          go_wp2_with (go_at_fn F; refine hcall.mono ?_; rintro e w' ⟨rfl, hb'⟩; have hown' : w'.ownsRow B 3 1 (.slice (some ⟨g, 0, none⟩) n c) n (ys.map (Value.int .i64)) := (by have := hO.out.below hb'; unfold Own at this; rwa [hyl.out] at this); have hcj' : w'.cell? ⟨g, j, none⟩ = some (.int .i64 v) := keep_cell hb' Hcj.out; obtain ⟨u, hci⟩ : ∃ u, w'.cell? ⟨g, i, none⟩ = some (.int .i64 u) := (by have hil : i < ys.length := (by rw [hyl.out]; omega); exact ⟨ys[i], by rw [hown'.cellAt i (by omega), List.getElem?_map, List.getElem?_eq_getElem hil]; rfl⟩); have hfi := hown'.frozenAt i; have Hown' := hide hown'; clear hown')
          go_roundw
          case rel =>
            refine ⟨i + 1, j + 1, ys.set i v, by omega, by omega, by go_num, by go_num, by unfold Hid; rw [List.length_set]; exact hyl.out, ?_, ?_, ?_, Frame'.setCell (p := ⟨g, i, none⟩) (hF.out.trans (Frame'.of_below hb')) (.inl rfl) _⟩
            · unfold Hid
              have hil : i < ys.length := by rw [hyl.out]; omega
              rw [List.take_add_one, List.getElem?_set_self hil, List.take_set_of_le (Nat.le_refl _), hyt.out, htk.out]
              simp [Hv.out]
            · unfold Hid
              rw [List.drop_set, if_pos (by omega)]
              exact hdk.out
            · unfold Hid Own
              rw [List.length_set, hyl.out, List.map_set]
              exact (Hown'.out.stored i _).1
          case measure => simp [intOf] <;> omega
      · have hjn : j = n := by omega
        have hfin : Hid ((xs.filter fun x => !p x) = ys.take i) := by
          unfold Hid
          rw [hyt.out, hjn, List.take_of_length_le (by rw [hlen.out]; exact Nat.le_refl _)]
        have hcl : ∀ ty, (Builtin.clear_ #[25] ty #[.slice (some ⟨g, i, none⟩) (n - i) (c - i)]).run Tryz.prog wr = .ok (.tuple #[]) (wr.setCells g i (List.replicate (n - i) (.int .i64 0))) :=
          fun ty => Lib.run_clear_slice wr _ 3 ty _ Tryz.underlying25 zero3 rfl rfl g i _ _ (by omega) (fun t ht => by
            have hil : i + t < ys.length := by rw [hyl.out]; omega
            rw [hown.cellAt (i + t) (by omega), List.getElem?_map, List.getElem?_eq_getElem hil]; rfl) (fun t ht => hown.frozenAt (i + t))
        have Hown := hide hown
        clear hown
        subst hjn
        clear hlt
        go_wp2
        go_ret
        obtain ⟨zs, h1, h2, h3⟩ := owns_setCells (List.replicate (j - i) (.int .i64 0)) i wr _ Hown.out
        refine ⟨some ⟨g, 0, none⟩, i, c, rfl, ?_, rfl, hF.out.trans (h3.mono fun k _ e => by rw [e]; rfl)⟩
        rw [hfin.out]
        have e := h2 i (Nat.le_refl _)
        obtain ⟨k1, k2⟩ := h1
        rcases k2 with ⟨e', _⟩ | ⟨g', cap', cur, e', hB, hg, hn, hc, hs, ht⟩
        · cases e'
        · cases e'
          have hl : (ys.take i).length = i := by rw [List.length_take, hyl.out]; omega
          refine ⟨by simp, .inr ⟨g, c, cur, by rw [hl], hB, hg, by omega, hc, hs, ?_⟩⟩
          rw [hl, List.map_take, ← e, ← ht, List.take_take]
          congr 1
          omega
end Go.Proofs.YthkkadmgcicedaaGreat

namespace Go.Proofs.YthkkadmgcicedaaGreat
open Go.RowKit Go.Proofs Go.Shelf
attribute [local go_sem] cell?_more cell?_alloc_some cell?_setCell_far frozen?_alloc_some frozen?_more
theorem bad_room {l : List Row} {C t : Nat} (h : RankOK l C) {left ms : List Int} {y : Int} (hat : l[t]? = some (ms, y)) (x : Int) : 0 ≤ badS left (l.take t) x ∧ 0 < y ∧ badS left (l.take t) x + y ≤ 1000000 := by
  have h1 := badS_bd (left := left) (pos_take h.pos t) x
  have h2 := tot_take h.pos (t + 1)
  have h3 := h.tot
  have h4 := h.pos (ms, y) (List.mem_of_getElem? hat)
  have h5 : totS (l.take (t + 1)) = totS (l.take t) + y := totS_take_succ hat
  dsimp only at h4
  omega
theorem getD_badL (left : List Int) (l : List Row) {n x : Nat} (h : x < n) : (badL left l n).getD x 0 = badS left l (x : Int) := by simp [List.getD, get_badL left l h]
set_option maxRecDepth 100000 in
set_option maxHeartbeats 2000000 in
theorem against_any (C : Nat) (A : Option Addr) (n cp : Nat) (l : List Row) (Al : Option Addr) (nl cl : Nat) (left : List Int) (w : World) (h : RRows w A n cp l) (hr : RankOK l C) (hnd : ∀ r ∈ l, r.1.Nodup) (hL : RInts w Al nl cl left) (hln : left.Nodup) (hlr : ∀ x ∈ left, 0 ≤ x ∧ x < C) :
    Calls Tryz.prog 72 #[.agg #[.int .i64 C, .int .u8 1, .slice A n cp], .slice Al nl cl] w (IPost w (badL left l C)) := by
  have hl := hide h.len
  have hle := h.le
  have Hr := hide hr
  have Hnd := hide hnd
  have Hln := hide hln
  have Hlr := hide hlr
  have HLl := hide hL.len
  have hnl := hL.le
  have hC10 := hr.c10
  clear hr hnd hln hlr
  have hb0 : Below w.heap.size w (w.alloc (.cells #[.int .i64 C, .int .u8 1, .slice A n cp] 24)) := (Below.refl _ _).alloc (Nat.le_refl _) _
  have hH0 := Has.new w 24 #[.int .i64 C, .int .u8 1, .slice A n cp]
  have hmk := run_make_row' (P := Tryz.prog) 25 3 (.int .i64 0) 8 Tryz.underlying25 info3 rfl .i64 .i64 C (by omega) (by omega)
  generalize hW : World.alloc w _ = W0 at hb0 hH0
  have hM := Own.made W0 w.heap.size C hb0.size (by omega)
  have hbM : Below W0.heap.size W0 (W0.alloc (.cells (madeCells #[.int .i64 0] C) 3)) := (Below.refl _ _).alloc (Nat.le_refl _) _
  have hH1 := hH0.below hbM hH0.lt
  have hb1 := Below_trans' hb0 hb0.size hbM
  have s0 := hH0.cell 0
  have s2 := hH1.cell 2
  have hg1 : w.heap.size < W0.heap.size := hH0.lt
  go_enter Tryz.func72, Tryz.ntmps72
  go_wp2
  try simp only [hW]
  clear hW s0 s2
  generalize hW1 : World.alloc W0 _ = W1 at hM hbM hH1 hb1 ⊢
  clear hW1
  generalize W0.heap.size = g at hM hbM hg1 ⊢
  go_loopw [19] (fun i wr => ∃ t : Nat, t ≤ n ∧ i = .int .i64 t ∧ Own wr w.heap.size (.slice (some ⟨g, 0, none⟩) C C) (badL left (l.take t) C) ∧ Below w.heap.size w wr) (fun i _ => n - (intOf i).toNat)
  case atStart => exact ⟨0, Nat.zero_le _, rfl, by rw [List.take_zero, badL_zero]; exact hM, hb1⟩
  case round =>
    obtain ⟨t, ht, rfl, hO, hb⟩ := hrel
    obtain ⟨wo, rfl⟩ : ∃ wo : World, wo = wr := ⟨_, rfl⟩
    by_cases hlt : t < n
    · obtain ⟨b, off, Am, nm, cm, ms, y, rfl, hc0, hRm, hc1, _, hat, hy0, hy1⟩ := h.step hlt
      have q0 := keep_cell hb hc0
      have q1 := keep_cell hb hc1
      have hroom := hide (fun x => bad_room (left := left) Hr.out hat.out x)
      have hmr := hide (Hr.out.marks _ (List.mem_of_getElem? hat.out))
      have hmn := hide (Hnd.out _ (List.mem_of_getElem? hat.out))
      have hml := hide hRm.len
      have hmle := hRm.le
      have hgw : g < wo.heap.size := (Own.own_lt hO rfl).2
      have Hat := hide hat.out
      go_upto_region 5 with fail
      have hba : Below wo.heap.size wo (wo.alloc (.cells #[.slice Am nm cm, .int .i64 y] 45)) := (Below.refl _ _).alloc (Nat.le_refl _) _
      have hHr := Has.new wo 45 #[.slice Am nm cm, .int .i64 y]
      generalize World.alloc wo _ = V at hba hHr ⊢
      have hOV := hO.below hba
      have hbV := Below_trans' hb hb.size hba
      have hyb := hroom.out 0
      rw [← outK_zero left ms y (length_badL left (l.take t) C)] at hOV
      clear q0 q1 hat hc0 hc1
      go_wp2
      go_loopw [8, 9, 25] (fun last some i wr => ∃ k : Nat, k ≤ nl ∧ i = .int .i64 k ∧ last = .int .i64 (lastK left ms k) ∧ some = .bool (someK left ms k) ∧ Own wr w.heap.size (.slice (Option.some ⟨g, 0, none⟩) C C) (outK C (badL left (l.take t) C) left ms y k) ∧ Frame' (fun b => b = g) V wr ∧ Below w.heap.size w wr) (fun last some i _ => nl - (intOf i).toNat)
      case atStart => exact ⟨0, Nat.zero_le _, rfl, rfl, by rw [someK_zero], hOV, Frame'.refl _ _, hbV⟩
      case round =>
        obtain ⟨k, hk, rfl, rfl, rfl, hOk, hF, hbk⟩ := hrel
        have hHk := hF.has hHr (fun e => by omega)
        have s0 := hHk.cell 0
        have s1 := hHk.cell 1
        by_cases hkl : k < nl
        · obtain ⟨b3, off3, c, rfl, hc3, _, hat3, _⟩ := (hL.below hbk).step hkl
          obtain ⟨hcc0, hcc1⟩ := Hlr.out c (List.mem_of_getElem? hat3.out)
          obtain ⟨X, rfl⟩ : ∃ X : Nat, c = X := ⟨c.toNat, by omega⟩
          have hix := indexL_any Am nm cm ms X wr (hRm.below hbk)
          have hls := hide (lastK_succ (ms := ms) hat3.out)
          have hss := hide (someK_succ (ms := ms) hat3.out)
          have hlb := lastK_bd left ms k
          have hlm : (ms.length : Int) = nm := by rw [hml.out]
          rcases idx_get (xs := ms) (x := (X : Int)) with ⟨e1, hnm⟩ | ⟨i, e1, hi, _⟩
          · have hin : inL ms (X : Int) = false := by rw [← Bool.not_eq_true, inL_iff]; exact hnm
            have hXC : X < C := by omega
            obtain ⟨ha1, ha2⟩ := outK_hit (base := badL left (l.take t) C) (y := y) Hln.out hat3.out hXC hin
            rw [getD_badL left (l.take t) hXC] at ha1 ha2
            have hro := hroom.out (X : Int)
            have hlk : Hid (max (lastK left ms k) (-1) = lastK left ms (k + 1)) := by unfold Hid; rw [hls.out, e1, if_neg (by omega)]; omega
            have hsk : Hid (true = someK left ms (k + 1)) := by unfold Hid; rw [hss.out, hin]; simp
            have hok := hide ha2
            have f1 : ¬ lastK left ms k < -1 := by omega
            rw [e1] at hix
            obtain ⟨u, hu, hcu, hfu⟩ := hOk.at (length_outK _ _ _ _ _ _) hXC
            obtain rfl : badS left (l.take t) (X : Int) = u := by have e := hu.out; rw [ha1] at e; exact Option.some.inj e
            clear ha1 ha2 hu e1 hnm hin hat3
            generalize hz : lastK left ms k = z at *
            clear hz
            go_wp2_with fail
            refine hix.mono ?_
            rintro e w' ⟨rfl, rfl⟩
            go_upto_region 12 with fail
            refine wp_region_more_tail 7 (by kernel_rfl) (by kernel_rfl) ?_
            simp only [List.take]
            repeat (go_big_quiet_step (fail))
            refine wpQuiet_nil ?_
            rintro w2 ⟨qq, hw2⟩
            have hb2 := below_of_eq hw2
            clear hw2 qq
            have hO2 := hOk.below hb2
            obtain ⟨u2, hu2, hcu2, hfu2⟩ := hO2.at (length_outK _ _ _ _ _ _) hXC
            have hO3 := hO2.set (length_outK _ _ _ _ _ _) X (badS left (l.take t) (X : Int) + y)
            have hF3 : Frame' (fun b => b = g) V _ := ((hF.trans (Frame'.of_below hb2))).setCell (p := ⟨g, X, none⟩) (.inl rfl) (.int .i64 (badS left (l.take t) (X : Int) + y))
            have hb3 := (Below_trans' hbk hbk.size hb2).setCell (p := ⟨g, X, none⟩) (Nat.le_of_lt hg1) (.int .i64 (badS left (l.take t) (X : Int) + y))
            clear hcu hfu hu2 s0 s1 hc3
            go_wp2
            go_roundw
            case rel => exact ⟨k + 1, by omega, by go_num, congrArg (Value.int .i64) hlk.out, congrArg Value.bool hsk.out, by rw [hok.out]; exact hO3, hF3, hb3⟩
            case measure => simp [intOf] <;> omega
          · have hin : inL ms (X : Int) = true := inL_iff.2 (List.mem_of_getElem? hi)
            have hok : Hid (outK C (badL left (l.take t) C) left ms y (k + 1) = outK C (badL left (l.take t) C) left ms y k) := outK_miss hat3.out hin
            have hsk : Hid (someK left ms k = someK left ms (k + 1)) := by unfold Hid; rw [hss.out, hin]; simp
            have hinm : i < ms.length := (List.getElem?_eq_some_iff.1 hi).1
            rw [e1] at hix
            rw [e1] at hls
            clear hin hi e1 hat3
            by_cases hm : lastK left ms k < (i : Int)
            · have hlk : Hid (max (lastK left ms k) (i : Int) = lastK left ms (k + 1)) := by unfold Hid; rw [hls.out, if_pos hm]; omega
              generalize hz : lastK left ms k = z at *
              clear hz
              go_wp2_with fail
              refine hix.mono ?_
              rintro e w' ⟨rfl, rfl⟩
              go_wp2
              go_roundw
              case rel => exact ⟨k + 1, by omega, by go_num, congrArg (Value.int .i64) hlk.out, congrArg Value.bool hsk.out, by rw [hok.out]; exact hOk, hF, hbk⟩
              case measure => simp [intOf] <;> omega
            · have hlk : Hid (max (lastK left ms k) (i : Int) = lastK left ms (k + 1)) := by unfold Hid; rw [hls.out, if_neg hm]; omega
              generalize hz : lastK left ms k = z at *
              clear hz
              go_wp2_with fail
              refine hix.mono ?_
              rintro e w' ⟨rfl, rfl⟩
              go_wp2
              go_roundw
              case rel => exact ⟨k + 1, by omega, by go_num, congrArg (Value.int .i64) hlk.out, congrArg Value.bool hsk.out, by rw [hok.out]; exact hOk, hF, hbk⟩
              case measure => simp [intOf] <;> omega
        · have hkk : left.length ≤ k := by rw [HLl.out]; omega
          cases hs : someK left ms k with
          | true =>
            rw [bad_some Hat.out hkk hs] at hOk
            clear hs hkk
            go_wp2
            go_roundw
            case rel => exact ⟨t + 1, by omega, by go_num, hOk, hbk⟩
            case measure => simp [intOf] <;> omega
          | false =>
            rw [bad_base hkk hs] at hOk
            have hall : left.all (inL ms) = true := by have := someK_all left ms hkk; rw [hs] at this; simpa using this.symm
            rcases last_found hmn.out hall hkk with ⟨e1, hf⟩ | ⟨i, v, e1, hiv, hf⟩
            · rw [← bad_none Hat.out hkk hs hf] at hOk
              rw [e1]
              clear hs hkk e1 hf hall
              go_wp2
              go_roundw
              case rel => exact ⟨t + 1, by omega, by go_num, hOk, hbk⟩
              case measure => simp [intOf] <;> omega
            · obtain ⟨hv0, hv1⟩ := hmr.out v (List.mem_of_getElem? hiv)
              obtain ⟨X, rfl⟩ : ∃ X : Nat, v = X := ⟨v.toNat, by omega⟩
              have hXC : X < C := by omega
              have hbl := hide (bad_last (n := C) Hat.out hkk hs hf)
              have hro := hroom.out (X : Int)
              have him : i < nm := by have := (List.getElem?_eq_some_iff.1 hiv).1; rw [hml.out] at this; exact this
              obtain ⟨b4, off4, v4, rfl, hc4, _, hat4, _⟩ := (hRm.below hbk).step him
              obtain rfl : v4 = (X : Int) := by have e := hat4.out; rw [hiv] at e; exact (Option.some.inj e).symm
              obtain ⟨u, hu, hcu, hfu⟩ := hOk.at (length_badL _ _ _) hXC
              obtain rfl : badS left (l.take t) (X : Int) = u := by have e := hu.out; rw [get_badL _ _ hXC] at e; exact Option.some.inj e
              rw [e1]
              clear hs hkk e1 hf hall hiv hat4 hu
              go_upto_region 16 with fail
              refine wp_region_more_tail 11 (by kernel_rfl) (by kernel_rfl) ?_
              simp only [List.take]
              repeat (go_big_quiet_step (fail))
              refine wpQuiet_nil ?_
              rintro w2 ⟨qq, hw2⟩
              have hb2 := below_of_eq hw2
              clear hw2 qq
              have hO2 := hOk.below hb2
              obtain ⟨u2, hu2, hcu2, hfu2⟩ := hO2.at (length_badL _ _ _) hXC
              have hO3 := hO2.set (length_badL _ _ _) X (badS left (l.take t) (X : Int) + y)
              have hb3 := (Below_trans' hbk hbk.size hb2).setCell (p := ⟨g, X, none⟩) (Nat.le_of_lt hg1) (.int .i64 (badS left (l.take t) (X : Int) + y))
              rw [← hbl.out] at hO3
              clear hcu hfu hu2 s0 s1 hc4
              go_wp2
              go_roundw
              case rel => exact ⟨t + 1, by omega, by go_num, hO3, hb3⟩
              case measure => simp [intOf] <;> omega
    · have e : Hid (l.take t = l) := List.take_of_length_le (by rw [hl.out]; omega)
      rw [e.out] at hO
      go_wp2
      go_ret
      exact ⟨_, rfl, hO, hb⟩

/-- Is a candidate left? -/
theorem lasts1_any (x : Int) (bl : Nat) (A : Option Addr) (n c : Nat) (bs : List Bool) (w : World) (hx : 0 ≤ x) (hc : w.cell? ⟨bl, 0, none⟩ = some (.slice A n c)) (h : RBools w A n c bs) :
    Calls Tryz.prog 71 #[.int .i64 x, .pointer (some ⟨bl, 0, none⟩)] w fun e w' => e = .returned (.bool (!isS bs x)) ∧ w = w' := by
  obtain ⟨X, rfl⟩ : ∃ X : Nat, x = X := ⟨x.toNat, by omega⟩
  have hr := hide (isS_getD bs X)
  by_cases hlt : X < n
  · obtain ⟨b, off, rfl, hcx⟩ := h.at hlt
    have hr2 : Hid ((!bs.getD X false) = !isS bs (X : Int)) := by unfold Hid; rw [hr.out]
    have b1 : decide (n ≤ X) = false := decide_eq_false (by omega)
    go_enter Tryz.func71, Tryz.ntmps71
    go_wp2
    go_ret
    exact ⟨ret_b hr2.out, rfl⟩
  · have hr2 : Hid (true = !isS bs (X : Int)) := by unfold Hid; rw [hr.out, List.getD, List.getElem?_eq_none (by rw [h.1]; omega)]; rfl
    have b1 : (n : Int) ≤ (X : Int) := by omega
    go_enter Tryz.func71, Tryz.ntmps71
    go_wp2
    go_ret
    exact ⟨ret_b hr2.out, rfl⟩
def lastsL (c k : Int) (l : List Row) (bs : List Bool) : List Int := if firstsE c k l = 0 then badL (leftT bs c.toNat) l c.toNat else []
/-- What Lasts hands back. -/
def LsPost (w : World) (c k : Int) (l : List Row) (bs : List Bool) (e : Ending) (w' : World) : Prop :=
  ∃ v, e = .returned (.tuple #[v, .int .i64 (firstsE c k l)]) ∧ Own w' w.heap.size v (lastsL c k l bs) ∧ Below w.heap.size w w'
theorem ret_vi {v : Value} {a a' : Int} (h1 : a = a') : Ending.returned (.tuple #[v, .int .i64 a]) = .returned (.tuple #[v, .int .i64 a']) := by rw [h1]
set_option maxRecDepth 100000 in
theorem plasts_any (c k : Int) (A : Option Addr) (n cp : Nat) (l : List Row) (A' : Option Addr) (n' c' : Nat) (bs : List Bool) (w : World) (h : RRows w A n cp l) (h' : RBools w A' n' c' bs) :
    Calls Tryz.prog 39 #[.agg #[.int .i64 c, .int .u8 k, .slice A n cp], .slice A' n' c'] w (LsPost w c k l bs) := by
  have hb0 : Below w.heap.size w (w.alloc (.cells #[.int .i64 c, .int .u8 k, .slice A n cp] 24)) := (Below.refl _ _).alloc (Nat.le_refl _) _
  have hH0 := Has.new w 24 #[.int .i64 c, .int .u8 k, .slice A n cp]
  generalize hV : World.alloc w _ = V at hb0 hH0
  have hbv : Below V.heap.size V (V.alloc (.cells #[.slice A' n' c'] 35)) := (Below.refl _ _).alloc (Nat.le_refl _) _
  have hL0 := Has.new V 35 #[.slice A' n' c']
  have hP0 := hH0.below hbv hH0.lt
  have hb00 := Below_trans' hb0 hb0.size hbv
  generalize hW : World.alloc V _ = W0 at hbv hL0 hP0 hb00
  have s0 := hP0.cell 0
  have s1 := hP0.cell 1
  have s2 := hP0.cell 2
  have eg2 : ∀ args w, (callFunc 71 args).run Tryz.prog w = .ok (.enter 71 args) w := enters_of Tryz.func71 (by kernel_rfl) rfl
  go_enter Tryz.func39, Tryz.ntmps39
  go_wp2_with fail
  try simp only [hV, hW]
  clear hV hW
  refine (pcheck_any c k A n cp l W0 (h.below hb00)).mono ?_
  rintro e w1 ⟨rfl, hb1⟩
  have hb01 := Below_trans' hb00 hb00.size hb1
  have hP1 := hP0.below hb1 hP0.lt
  have hL1 := hL0.below hb1 hL0.lt
  have r0 := hP1.cell 0
  have r1 := hP1.cell 1
  have r2 := hP1.cell 2
  clear s0 s1 s2 hH0 hP0
  by_cases hE : checkS c k l = 0
  · have e1 : (checkS c k l != 0) = false := by simp [hE]
    by_cases hk : k = 1
    · subst hk
      have hcs := check_ok hE
      obtain ⟨C, rfl⟩ : ∃ C : Nat, c = (C : Int) := ⟨c.toNat, by omega⟩
      have hF0 := hide (firstsE_ok hE rfl)
      have Rk := hide (rank_ok hE)
      have Hnd := hide (marks_once hE rfl)
      have hC10 := (rank_ok hE).c10
      clear hcs hE
      go_wp2_with fail
      refine (pall_any C w1 (by omega)).mono ?_
      rintro e w2 ⟨va, rfl, hOa, hb2⟩
      obtain ⟨Aa, ca, rfl⟩ := hOa.slice
      rw [length_rangeI] at hOa ⊢
      have hL2 := hL1.below hb2 hL1.lt
      have hb02 := Below_trans' hb01 hb01.size hb2
      have hlt1 := hL1.lt
      have hdl := deleteFunc_in 71 eg2 (fun y => !isS bs y) #[.pointer (some ⟨V.heap.size, 0, none⟩)] w1.heap.size Aa C ca (rangeI C) w2 hOa (fun y hy => by have := mem_rangeI.1 hy; omega) (fun W hW y hy => by
        have hbw1 : Below w1.heap.size w1 W := Frame'.below hb2 hW (fun b e => (hOa.lt b e.symm).1) hb2.size
        refine (lasts1_any y V.heap.size A' n' c' bs W (mem_rangeI.1 hy).1 ((hL1.below hbw1 hlt1).cell 0) (h'.below (Below_trans' hb01 hb01.size hbw1))).mono ?_
        rintro e w' ⟨rfl, rfl⟩
        exact ⟨rfl, Below.refl _ _⟩)
      have hf : Hid (((rangeI C).filter fun y => !(!isS bs y)) = leftT bs C) := by
        unfold Hid leftT; simp
      rw [hf.out] at hdl
      clear r0 r1 r2
      go_wp2_with fail
      refine hdl.mono ?_
      rintro e w3 ⟨Ad, nd, cd, rfl, hLd, hqd, hFd⟩
      have hbv3 : Below w1.heap.size w1 w3 := Frame'.below hb2 hFd (fun b e => (hOa.lt b e.symm).1) hb2.size
      have hsub : (leftT bs C).Sublist (rangeI C) := List.filter_sublist
      have hRd := hLd.ints (fun y hy => by have := mem_rangeI.1 (hsub.subset hy); omega)
      have hP3 := hP1.below hbv3 hP1.lt
      have hb03 := Below_trans' hb01 hb01.size hbv3
      have r0 := hP3.cell 0
      have r1 := hP3.cell 1
      have r2 := hP3.cell 2
      have hag := against_any C A n cp l Ad nd cd (leftT bs C) w3 (h.below hb03) Rk.out Hnd.out hRd ((nodup_rangeI C).sublist hsub) (fun y hy => by have := mem_rangeI.1 (hsub.subset hy); omega)
      clear hdl hLd hqd hFd hsub
      go_wp2_with fail
      refine hag.mono ?_
      rintro e w4 ⟨v, rfl, hO, hb4⟩
      have hOv : Own w4 w.heap.size v (lastsL C 1 l bs) := by
        have := hO.mono hb03.size
        unfold lastsL; rw [if_pos hF0.out]; simpa using this
      obtain ⟨Av, cv, rfl⟩ := hO.slice
      generalize (badL (leftT bs C) l C).length = nv at hOv ⊢
      clear hO hag
      go_wp2
      go_ret2
      exact ⟨_, ret_vi hF0.out.symm, hOv, Below_trans' hb03 hb03.size hb4⟩
    · have e2 : (k != 1) = true := by simp [hk]
      have hF0 := hide (firstsE_bad (c := c) (l := l) (.inr hk))
      clear hE hk
      have hOv : Own w1 w.heap.size (.slice none 0 0) (lastsL c k l bs) := by unfold lastsL; rw [hF0.out, if_neg (by omega)]; exact Own.nil_ _ _
      go_wp2
      go_ret2
      exact ⟨_, ret_vi hF0.out.symm, hOv, hb01⟩
  · have e1 : (checkS c k l != 0) = true := by simp [hE]
    have hF0 := hide (firstsE_bad (k := k) (.inl hE))
    clear hE
    have hOv : Own w1 w.heap.size (.slice none 0 0) (lastsL c k l bs) := by unfold lastsL; rw [hF0.out, if_neg (by omega)]; exact Own.nil_ _ _
    go_wp2
    go_ret2
    exact ⟨_, ret_vi hF0.out.symm, hOv, hb01⟩
end Go.Proofs.YthkkadmgcicedaaGreat

namespace Go.Proofs.YthkkadmgcicedaaGreat
open Go.RowKit Go.Proofs Go.Shelf
attribute [local go_sem] cell?_more cell?_alloc_some cell?_setCell_far frozen?_alloc_some frozen?_more
theorem inv_elects (x : Value) (args : Array Value) (w : World) : (callMethod (.iface 90 x) "suffrage/coombs.elects" args).run Tryz.prog w = .ok (.enter 161 (#[x] ++ args)) w := by kernel_rfl
theorem inv_out (x : Value) (args : Array Value) (w : World) : (callMethod (.iface 90 x) "suffrage/coombs.out" args).run Tryz.prog w = .ok (.enter 162 (#[x] ++ args)) w := by kernel_rfl

theorem elects1_any (X p : Nat) (Ah : Option Addr) (nh ch : Nat) (had : List Int) (w : World) (hp : w.cell? ⟨p, 0, none⟩ = some (.slice Ah nh ch)) (hH : RInts w Ah nh ch had) (hX : X < nh) :
    Calls Tryz.prog 163 #[.int .i64 X, .pointer (some ⟨p, 0, none⟩)] w fun e w' => e = .returned (.int .i64 (getI had X)) ∧ w = w' := by
  obtain ⟨b, off, v, rfl, hc, _, hat, _⟩ := hH.step hX
  have e := hide (getI_of hat.out)
  clear hat
  go_enter Tryz.func163, Tryz.ntmps163
  go_wp2
  go_ret
  exact ⟨ret_i e.out.symm, rfl⟩
theorem out1_any (X p : Nat) (Ah : Option Addr) (nh ch : Nat) (had : List Int) (w : World) (hp : w.cell? ⟨p, 0, none⟩ = some (.slice Ah nh ch)) (hH : RInts w Ah nh ch had) (hX : X < nh) :
    Calls Tryz.prog 164 #[.int .i64 X, .pointer (some ⟨p, 0, none⟩)] w fun e w' => e = .returned (.int .i64 (getI had X)) ∧ w = w' := by
  obtain ⟨b, off, v, rfl, hc, _, hat, _⟩ := hH.step hX
  have e := hide (getI_of hat.out)
  clear hat
  go_enter Tryz.func164, Tryz.ntmps164
  go_wp2
  go_ret
  exact ⟨ret_i e.out.symm, rfl⟩
/-- Who is elected, if anybody. -/
def ElPost (w : World) (left had : List Int) (e : Ending) (w' : World) : Prop :=
  ((∃ x, winS left had = some x ∧ e = .returned (.tuple #[.int .i64 x, .bool true])) ∨ (winS left had = none ∧ ∃ x, e = .returned (.tuple #[.int .i64 x, .bool false]))) ∧ Below w.heap.size w w'
set_option maxRecDepth 100000 in
set_option maxHeartbeats 1000000 in
theorem elects_any (y1 y2 y3 : Value) (C : Nat) (Ah : Option Addr) (ch : Nat) (had : List Int) (Al : Option Addr) (nl cl : Nat) (left : List Int) (w : World) (hH : RInts w Ah C ch had) (hL : RInts w Al nl cl left) (hne : left ≠ []) (hm : ∀ x ∈ left, 0 ≤ x ∧ x < C) (hnl : nl ≤ 10) (hC10 : C ≤ 10) (h0 : ∀ x ∈ had, 0 ≤ x ∧ x ≤ 1000000) (hs : had.sum ≤ 1000000) :
    Calls Tryz.prog 161 #[.agg #[y1, y2, y3], .slice Ah C ch, .slice Al nl cl] w (ElPost w left had) := by
  have hlH := hide hH.len
  have hlL := hide hL.len
  have Hne := hide hne
  have Hm := hide hm
  have H0 := hide h0
  have hnle := hL.le
  clear hne hm h0
  have hb0 : Below w.heap.size w (w.alloc (.cells #[y1, y2, y3] 90)) := (Below.refl _ _).alloc (Nat.le_refl _) _
  generalize hV : World.alloc w _ = V at hb0
  have hbv : Below V.heap.size V (V.alloc (.cells #[.slice Ah C ch] 25)) := (Below.refl _ _).alloc (Nat.le_refl _) _
  have hX0 := Has.new V 25 #[.slice Ah C ch]
  have hb00 := Below_trans' hb0 hb0.size hbv
  generalize hW : World.alloc V _ = W0 at hbv hX0 hb00
  have hR0 := hH.below hb00
  have hL0 := hL.below hb00
  have s0 := hX0.cell 0
  have eg : ∀ args w, (callFunc 163 args).run Tryz.prog w = .ok (.enter 163 args) w := enters_of Tryz.func163 (by kernel_rfl) rfl
  have hbest := best_at 163 eg (getI had) #[.pointer (some ⟨V.heap.size, 0, none⟩)] Al nl cl left W0 hL0 (by omega) (fun W hb x hx => by
    have hx2 := Hm.out x hx
    obtain ⟨X, rfl⟩ : ∃ X : Nat, x = X := ⟨x.toNat, by omega⟩
    refine (elects1_any X V.heap.size Ah C ch had W ((hX0.below hb hX0.lt).cell 0) (hR0.below hb) (by omega)).mono ?_
    rintro e w' ⟨rfl, rfl⟩
    exact ⟨rfl, Below.refl _ _⟩)
  go_enter Tryz.func161, Tryz.ntmps161
  go_wp2
  try simp only [hV, hW]
  clear hV hW
  go_loop [8, 14] (fun a i => ∃ k : Nat, k ≤ C ∧ i = .int .i64 k ∧ a = .int .i64 (had.take k).sum) (fun a i => C - (intOf i).toNat)
  case atStart => exact ⟨0, Nat.zero_le _, rfl, rfl⟩
  case round =>
    obtain ⟨k, hk, rfl, rfl⟩ := hrel
    have hsb := sum_take_bd (fun x hx => (H0.out x hx).1) k
    by_cases hlt : k < C
    · obtain ⟨b, off, v, rfl, hc, _, hat, _⟩ := hR0.step hlt
      have hvb := H0.out v (List.mem_of_getElem? hat.out)
      have hx : Hid ((had.take (k + 1)).sum = (had.take k).sum + v) := by unfold Hid; rw [List.take_add_one, hat.out, List.sum_append]; simp
      clear hat
      go_wp2
      go_round
      case rel => exact ⟨k + 1, by omega, by go_num, congrArg (Value.int .i64) hx.out.symm⟩
      case measure => simp [intOf] <;> omega
    · have hts : had.take k = had := List.take_of_length_le (by rw [hlH.out]; omega)
      rw [hts] at hsb ⊢
      clear hts
      go_wp2_with fail
      refine hbest.mono ?_
      rintro e w4 ⟨v4, rfl, hO4, hb4⟩
      clear hbest s0
      obtain ⟨o, r, hbo⟩ : ∃ o r, bestS (getI had) left = o :: r := by
        rcases h0 : bestS (getI had) left with _ | ⟨o, r⟩
        · exact absurd h0 (bestS_ne Hne.out)
        · exact ⟨o, r, rfl⟩
      rw [hbo] at hO4
      have Hbo := hide hbo
      have hol : o ∈ left := (mem_bestS.1 (show o ∈ bestS (getI had) left by rw [hbo]; simp)).1
      have hob := Hm.out o hol
      have hbml : ∀ x ∈ o :: r, x ∈ left := fun x hx => (bestS_sub (getI had) left).subset (by rw [hbo]; exact hx)
      clear hbo hol
      obtain ⟨A4, c4, rfl⟩ := hO4.slice
      have hR4 := hO4.ints (fun x hx => by have := Hm.out x (hbml x hx); omega)
      have hn4 : 0 < (o :: r).length := by simp
      generalize (o :: r).length = n4 at hR4 hn4 ⊢
      obtain ⟨b4, o4, v4, rfl, hc4, _, hat4, _⟩ := hR4.step hn4
      obtain rfl : v4 = o := by simpa using hat4.out.symm
      simp only [Nat.add_zero] at hc4
      clear hbml hO4 hat4
      obtain ⟨X, rfl⟩ : ∃ X : Nat, v4 = X := ⟨v4.toNat, by omega⟩
      have hX4 := hX0.below hb4 hX0.lt
      have s0 := hX4.cell 0
      obtain ⟨b5, o5, v5, rfl, hc5, _, hat5, _⟩ := (hR0.below hb4).step (show X < C by omega)
      have hg5 := hide (getI_of hat5.out)
      have hv5 := H0.out v5 (List.mem_of_getElem? hat5.out)
      have hbe := Below_trans' hb00 hb00.size hb4
      have hLm := hide hlL.out
      by_cases h1 : nl = 1
      · have f1 : ((nl : Int) == 1) = true := by simp [h1]
        have hw := hide (win_single Hbo.out (by rw [hLm.out]; exact h1))
        clear h1 hat5
        go_upto_region 8 with fail
        refine wp_region_more (by kernel_rfl) (by kernel_rfl) ?_
        repeat (go_big_quiet_step (fail))
        refine wpQuiet_nil ?_
        rintro w6 ⟨qw6, hww6⟩
        have hbw6 := below_of_eq hww6
        clear hww6 qw6
        go_wp2
        go_ret2
        exact ⟨.inl ⟨_, hw.out, rfl⟩, Below_trans' hbe hbe.size hbw6⟩
      · have f1 : ((nl : Int) == 1) = false := by simp; omega
        by_cases h2 : had.sum < 2 * v5
        · have hw := hide (win_major Hbo.out (fun x hx => (H0.out x hx).1) hlH.out Hm.out (by rw [hg5.out]; exact h2))
          have b2 : decide (had.sum < 2 * v5) = true := decide_eq_true h2
          clear h1 hat5 h2
          go_upto_region 8 with fail
          refine wp_region_more (by kernel_rfl) (by kernel_rfl) ?_
          repeat (go_big_quiet_step (fail))
          refine wpQuiet_nil ?_
          rintro w6 ⟨qw6, hww6⟩
          have hbw6 := below_of_eq hww6
          clear hww6 qw6
          go_wp2
          go_ret2
          exact ⟨.inl ⟨_, hw.out, rfl⟩, Below_trans' hbe hbe.size hbw6⟩
        · have hw := hide (win_none Hbo.out (by rw [hLm.out]; exact h1) (by rw [hg5.out]; exact h2))
          have b2 : decide (had.sum < 2 * v5) = false := decide_eq_false h2
          clear h1 hat5 h2
          go_upto_region 8 with fail
          refine wp_region_more (by kernel_rfl) (by kernel_rfl) ?_
          repeat (go_big_quiet_step (fail))
          refine wpQuiet_nil ?_
          rintro w6 ⟨qw6, hww6⟩
          have hbw6 := below_of_eq hww6
          clear hww6 qw6
          go_wp2
          go_ret2
          exact ⟨.inr ⟨hw.out, _, rfl⟩, Below_trans' hbe hbe.size hbw6⟩
/-- Who may be out. -/
theorem out_any (C : Nat) (A : Option Addr) (n cp : Nat) (l : List Row) (Al : Option Addr) (nl cl : Nat) (left : List Int) (w : World) (h : RRows w A n cp l) (hr : RankOK l C) (hnd : ∀ r ∈ l, r.1.Nodup) (hL : RInts w Al nl cl left) (hln : left.Nodup) (hlr : ∀ x ∈ left, 0 ≤ x ∧ x < C) (hnl : nl ≤ 10) :
    Calls Tryz.prog 162 #[.agg #[.int .i64 C, .int .u8 1, .slice A n cp], .slice Al nl cl] w (IPost w (bestS (getI (badL left l C)) left)) := by
  have hb0 : Below w.heap.size w (w.alloc (.cells #[.int .i64 C, .int .u8 1, .slice A n cp] 90)) := (Below.refl _ _).alloc (Nat.le_refl _) _
  have hX0 := Has.new w 90 #[.int .i64 C, .int .u8 1, .slice A n cp]
  generalize hV : World.alloc w _ = V at hb0 hX0
  have s0 := hX0.cell 0
  have s1 := hX0.cell 1
  have s2 := hX0.cell 2
  have hag := against_any C A n cp l Al nl cl left V (h.below hb0) hr hnd (hL.below hb0) hln hlr
  have hbd := fun x => badS_bd (left := left) hr.pos x
  have htt := hr.tot
  have Hbd := hide hbd
  have Hlr := hide hlr
  clear hr hnd hln hlr hbd
  have eg : ∀ args w, (callFunc 164 args).run Tryz.prog w = .ok (.enter 164 args) w := enters_of Tryz.func164 (by kernel_rfl) rfl
  go_enter Tryz.func162, Tryz.ntmps162
  go_wp2_with fail
  try simp only [hV]
  clear hV
  refine hag.mono ?_
  rintro e w1 ⟨v, rfl, hO, hb1⟩
  obtain ⟨Av, cv, rfl⟩ := hO.slice
  have hRv := hO.ints (fun x hx => by obtain ⟨y, _, rfl⟩ := List.mem_map.1 hx; have := Hbd.out (y : Int); omega)
  rw [length_badL] at hRv hO ⊢
  clear hag s0 s1 s2 hO
  go_upto_region 2 with fail
  have hba : Below w1.heap.size w1 (w1.alloc (.cells #[.slice Av C cv] 25)) := (Below.refl _ _).alloc (Nat.le_refl _) _
  have hX1 := Has.new w1 25 #[.slice Av C cv]
  generalize World.alloc w1 _ = w2 at hba hX1 ⊢
  have hb02 := Below_trans' hb0 hb0.size (Below_trans' hb1 hb1.size hba)
  have hbest := best_at 164 eg (getI (badL left l C)) #[.pointer (some ⟨w1.heap.size, 0, none⟩)] Al nl cl left w2 (hL.below hb02) (by omega) (fun W hb x hx => by
    have hx2 := Hlr.out x hx
    obtain ⟨X, rfl⟩ : ∃ X : Nat, x = X := ⟨x.toNat, by omega⟩
    refine (out1_any X w1.heap.size Av C cv (badL left l C) W ((hX1.below hb hX1.lt).cell 0) ((hRv.below hba).below hb) (by omega)).mono ?_
    rintro e w' ⟨rfl, rfl⟩
    exact ⟨rfl, Below.refl _ _⟩)
  go_wp2_with fail
  refine hbest.mono ?_
  rintro e w3 ⟨v3, rfl, hO3, hb3⟩
  obtain ⟨A3, c3, rfl⟩ := hO3.slice
  generalize (bestS (getI (badL left l C)) left).length = n3 at hO3 ⊢
  go_wp2
  go_ret
  exact ⟨_, rfl, hO3.mono hb02.size, Below_trans' hb02 hb02.size hb3⟩
end Go.Proofs.YthkkadmgcicedaaGreat
