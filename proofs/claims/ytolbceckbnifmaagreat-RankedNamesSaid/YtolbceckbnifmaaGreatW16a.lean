/-
  The library's DeleteFunc at a closure that answers for the elements alone.
  The layer coombs: against, Lasts.
  The layer coombs: who is elected in a round, who may be out.
-/
import Derived.Test.YtolbceckbnifmaaGreatFnc
import Derived.Test.YtolbceckbnifmaaGreatSpecCb
import Derived.Test.YtolbceckbnifmaaGreatW15c
namespace Go.Proofs.YtolbceckbnifmaaGreat
open Go.RowKit Go.Proofs Go.Shelf
attribute [local go_sem] cell?_more cell?_alloc_some cell?_setCell_far frozen?_alloc_some frozen?_more
set_option maxRecDepth 100000 in
set_option maxHeartbeats 2000000 in
theorem deleteFunc_in (F : FuncId) (eg : ∀ args w, (callFunc F args).run Tryz.prog w = .ok (.enter F args) w) (p : Int → Bool) (lb : Array Value) (B : Nat) (A : Option Addr) (n c : Nat) (xs : List Int) (w : World) (h : Own w B (.slice A n c) xs) (hx : ∀ x ∈ xs, -9223372036854775808 ≤ x ∧ x ≤ 9223372036854775807)
    (hp : ∀ W, Frame' (fun b => some b = (Value.slice A n c).ownBlock) w W → ∀ x, x ∈ xs → Calls Tryz.prog F (#[.int .i64 x] ++ lb) W fun e w' => e = .returned (.bool (p x)) ∧ Below W.heap.size W w') :
    Calls Tryz.prog 54 #[.slice A n c, .func (.func F) #[] lb] w (DelPost w B (.slice A n c) (xs.filter fun x => !p x)) := by
  have hr := h.ints hx
  have hle := hr.le
  have hlen := hide hr.len
  have hcall := indexFunc_at F eg p lb A n c xs w hr (fun W hb x hx => hp W (Frame'.of_below hb) x hx)
  have Hp := hide hp
  have Hr := hide hr
  have Hh := hide h
  rcases firstS_spec p xs 0 with ⟨e1, hall⟩ | ⟨i0, hi0, e1, hf0⟩
  · have hf : Hid ((xs.filter fun x => !p x) = xs) := by
      unfold Hid
      rw [List.filter_eq_self]
      intro x hx
      rw [hall x hx]; rfl
    rw [e1] at hcall
    clear hp hr h e1 hall hx
    go_enter Tryz.func54, Tryz.ntmps54
    go_wp2_with (go_at_call 84; refine hcall.mono ?_; rintro e w' ⟨rfl, hb'⟩)
    go_ret
    exact ⟨A, n, c, rfl, by rw [hf.out]; exact Hh.out.below hb', rfl, Frame'.of_below hb'⟩
  · rw [show (0 : Int) + i0 = i0 by omega] at e1
    rw [e1] at hcall
    rw [hr.len] at hi0
    obtain ⟨g, rfl⟩ : ∃ g, A = some ⟨g, 0, none⟩ := by
      rcases h.2 with ⟨_, e⟩ | ⟨g, cap, cur, e, _⟩
      · rw [hr.len] at e; omega
      · cases e; exact ⟨g, rfl⟩
    have hne : ((i0 : Int) == -1) = false := beq_eq_false_iff_ne.2 (by omega)
    have hnc : n ≤ c := hr.2.1
    have hcm : c ≤ 9223372036854775807 := hr.2.2.1
    have hF0 := hide hf0
    clear hp hr h e1 hx hf0
    go_enter Tryz.func54, Tryz.ntmps54
    go_wp2_with (go_at_call 84; refine hcall.mono ?_; rintro e w5 ⟨rfl, hb5⟩)
    clear hcall
    go_loopw [5, 6, 7] (fun s5 s6 s7 wr => ∃ (i j : Nat) (ys : List Int), i < j ∧ j ≤ n ∧ s5 = .int .i64 i ∧ s6 = .int .i64 j ∧ Hid (ys.length = n) ∧ Hid (ys.take i = (xs.take j).filter fun x => !p x) ∧ Hid (ys.drop j = xs.drop j) ∧ Hid (Own wr B (.slice (some ⟨g, 0, none⟩) n c) ys) ∧ Hid (Frame' (fun b => some b = (Value.slice (some ⟨g, 0, none⟩) n c).ownBlock) w wr)) (fun s5 s6 s7 _ => n - (intOf s6).toNat)
    case atStart => exact ⟨i0, i0 + 1, xs, by omega, by omega, rfl, by go_num, hlen, hF0.out.symm, rfl, Hh.out.below hb5, Frame'.of_below hb5⟩
    case round =>
      obtain ⟨i, j, ys, hij, hj, rfl, rfl, hyl, hyt, hyd, hO, hF⟩ := hrel
      have hown : wr.ownsRow B 3 1 (.slice (some ⟨g, 0, none⟩) n c) n (ys.map (Value.int .i64)) := by have := hO.out; unfold Own at this; rwa [hyl.out] at this
      by_cases hlt : j < n
      · have hxj : xs[j]? = some (xs[j]'(by rw [hlen.out]; exact hlt)) := List.getElem?_eq_getElem _
        generalize (xs[j]'(by rw [hlen.out]; exact hlt)) = v at hxj
        have hyj : ys[j]? = some v := by
          have := congrArg (·[0]?) hyd.out
          simpa [List.getElem?_drop, hxj] using this
        have hcj : wr.cell? ⟨g, j, none⟩ = some (.int .i64 v) := by rw [hown.cellAt j (by omega), List.getElem?_map, hyj]; rfl
        have hcall := Hp.out wr hF.out v (List.mem_of_getElem? hxj)
        have Hxj := hide hxj
        have Hown := hide hown
        have htk : Hid (xs.take (j + 1) = xs.take j ++ [v]) := by unfold Hid; rw [List.take_add_one, hxj]; rfl
        have hdk : Hid (ys.drop (j + 1) = xs.drop (j + 1)) := by
          have := congrArg (List.drop 1) hyd.out
          unfold Hid
          simpa [List.drop_drop] using this
        clear hxj hown hyj
        cases hv : p v with
        | true =>
          rw [hv] at hcall
          have Hv := hide hv
          clear hv
          go_wp2_with (go_at_fn F; refine hcall.mono ?_; rintro e w' ⟨rfl, hb'⟩)
          go_roundw
          case rel => exact ⟨i, j + 1, ys, by omega, by omega, rfl, by go_num, hyl, by unfold Hid; rw [hyt.out, htk.out]; simp [Hv.out], hdk, hO.out.below hb', hF.out.trans (Frame'.of_below hb')⟩
          case measure => simp [intOf] <;> omega
        | false =>
          rw [hv] at hcall
          have Hv := hide hv
          clear hv
          have Hcj := hide hcj
          go_wp2_with (go_at_fn F; refine hcall.mono ?_; rintro e w' ⟨rfl, hb'⟩; have hown' : w'.ownsRow B 3 1 (.slice (some ⟨g, 0, none⟩) n c) n (ys.map (Value.int .i64)) := (by have := hO.out.below hb'; unfold Own at this; rwa [hyl.out] at this); have hcj' : w'.cell? ⟨g, j, none⟩ = some (.int .i64 v) := keep_cell hb' Hcj.out; obtain ⟨u, hci⟩ : ∃ u, w'.cell? ⟨g, i, none⟩ = some (.int .i64 u) := (by have hil : i < ys.length := (by rw [hyl.out]; omega); exact ⟨ys[i], by rw [hown'.cellAt i (by omega), List.getElem?_map, List.getElem?_eq_getElem hil]; rfl⟩); have hfi := hown'.frozenAt i; have Hown' := hide hown'; clear hown')
          go_roundw
          case rel =>
            refine ⟨i + 1, j + 1, ys.set i v, by omega, by omega, by go_num, by go_num, by unfold Hid; rw [List.length_set]; exact hyl.out, ?_, ?_, ?_, Frame'.setCell (p := ⟨g, i, none⟩) (hF.out.trans (Frame'.of_below hb')) (.inl rfl) _⟩
            · unfold Hid
              have hil : i < ys.length := by rw [hyl.out]; omega
              rw [List.take_add_one, List.getElem?_set_self hil, List.take_set_of_le (Nat.le_refl _), hyt.out, htk.out]
              simp [Hv.out]
            · unfold Hid
              rw [List.drop_set, if_pos (by omega)]
              exact hdk.out
            · unfold Hid Own
              rw [List.length_set, hyl.out, List.map_set]
              exact (Hown'.out.stored i _).1
          case measure => simp [intOf] <;> omega
      · have hjn : j = n := by omega
        have hfin : Hid ((xs.filter fun x => !p x) = ys.take i) := by
          unfold Hid
          rw [hyt.out, hjn, List.take_of_length_le (by rw [hlen.out]; exact Nat.le_refl _)]
        have hcl : ∀ ty, (Builtin.clear_ #[28] ty #[.slice (some ⟨g, i, none⟩) (n - i) (c - i)]).run Tryz.prog wr = .ok (.tuple #[]) (wr.setCells g i (List.replicate (n - i) (.int .i64 0))) :=
          fun ty => Lib.run_clear_slice wr _ 3 ty _ Tryz.underlying28 zero3 rfl rfl g i _ _ (by omega) (fun t ht => by
            have hil : i + t < ys.length := by rw [hyl.out]; omega
            rw [hown.cellAt (i + t) (by omega), List.getElem?_map, List.getElem?_eq_getElem hil]; rfl) (fun t ht => hown.frozenAt (i + t))
        have Hown := hide hown
        clear hown
        subst hjn
        clear hlt
        go_wp2
        go_ret
        obtain ⟨zs, h1, h2, h3⟩ := owns_setCells (List.replicate (j - i) (.int .i64 0)) i wr _ Hown.out
        refine ⟨some ⟨g, 0, none⟩, i, c, rfl, ?_, rfl, hF.out.trans (h3.mono fun k _ e => by rw [e]; rfl)⟩
        rw [hfin.out]
        have e := h2 i (Nat.le_refl _)
        obtain ⟨k1, k2⟩ := h1
        rcases k2 with ⟨e', _⟩ | ⟨g', cap', cur, e', hB, hg, hn, hc, hs, ht⟩
        · cases e'
        · cases e'
          have hl : (ys.take i).length = i := by rw [List.length_take, hyl.out]; omega
          refine ⟨by simp, .inr ⟨g, c, cur, by rw [hl], hB, hg, by omega, hc, hs, ?_⟩⟩
          rw [hl, List.map_take, ← e, ← ht, List.take_take]
          congr 1
          omega
end Go.Proofs.YtolbceckbnifmaaGreat

namespace Go.Proofs.YtolbceckbnifmaaGreat
open Go.RowKit Go.Proofs Go.Shelf
attribute [local go_sem] cell?_more cell?_alloc_some cell?_setCell_far frozen?_alloc_some frozen?_more
theorem bad_room {l : List Row} {C t : Nat} (h : RankOK l C) {left ms : List Int} {y : Int} (hat : l[t]? = some (ms, y)) (x : Int) : 0 ≤ badS left (l.take t) x ∧ 0 < y ∧ badS left (l.take t) x + y ≤ 1000000 := by
  have h1 := badS_bd (left := left) (pos_take h.pos t) x
  have h2 := tot_take h.pos (t + 1)
  have h3 := h.tot
  have h4 := h.pos (ms, y) (List.mem_of_getElem? hat)
  have h5 : totS (l.take (t + 1)) = totS (l.take t) + y := totS_take_succ hat
  dsimp only at h4
  omega
theorem getD_badL (left : List Int) (l : List Row) {n x : Nat} (h : x < n) : (badL left l n).getD x 0 = badS left l (x : Int) := by simp [List.getD, get_badL left l h]
def lastsL (c k : Int) (l : List Row) (bs : List Bool) : List Int := if firstsE c k l = 0 then badL (leftT bs c.toNat) l c.toNat else []
/-- What Lasts hands back. -/
def LsPost (w : World) (c k : Int) (l : List Row) (bs : List Bool) (e : Ending) (w' : World) : Prop :=
  ∃ v, e = .returned (.tuple #[v, .int .i64 (firstsE c k l)]) ∧ Own w' w.heap.size v (lastsL c k l bs) ∧ Below w.heap.size w w'
theorem ret_vi {v : Value} {a a' : Int} (h1 : a = a') : Ending.returned (.tuple #[v, .int .i64 a]) = .returned (.tuple #[v, .int .i64 a']) := by rw [h1]
end Go.Proofs.YtolbceckbnifmaaGreat

namespace Go.Proofs.YtolbceckbnifmaaGreat
open Go.RowKit Go.Proofs Go.Shelf
attribute [local go_sem] cell?_more cell?_alloc_some cell?_setCell_far frozen?_alloc_some frozen?_more
/-- Who is elected, if anybody. -/
def ElPost (w : World) (left had : List Int) (e : Ending) (w' : World) : Prop :=
  ((∃ x, winS left had = some x ∧ e = .returned (.tuple #[.int .i64 x, .bool true])) ∨ (winS left had = none ∧ ∃ x, e = .returned (.tuple #[.int .i64 x, .bool false]))) ∧ Below w.heap.size w w'
end Go.Proofs.YtolbceckbnifmaaGreat
