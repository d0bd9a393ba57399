/-
  The library's IndexFunc, DeleteFunc and MinFunc at any closure.
-/
import Derived.Test.YtolbceckbnifmaaGreatW8f
namespace Go.Proofs.YtolbceckbnifmaaGreat
open Go.RowKit Go.Proofs Go.Shelf
attribute [local go_sem] cell?_more cell?_alloc_some cell?_setCell_far frozen?_alloc_some frozen?_more
theorem indexFunc_at (F : FuncId) (eg : ∀ args w, (callFunc F args).run Tryz.prog w = .ok (.enter F args) w) (p : Int → Bool) (lb : Array Value) (A : Option Addr) (n c : Nat) (xs : List Int) (w : World) (h : RInts w A n c xs)
    (hp : ∀ W, Below w.heap.size w W → ∀ x, x ∈ xs → Calls Tryz.prog F (#[.int .i64 x] ++ lb) W fun e w' => e = .returned (.bool (p x)) ∧ Below W.heap.size W w') :
    Calls Tryz.prog 84 #[.slice A n c, .func (.func F) #[] lb] w fun e w' => e = .returned (.int .i64 (firstS p xs 0)) ∧ Below w.heap.size w w' := by
  have hn := h.le
  have Hp := hide hp
  clear hp
  go_enter Tryz.func84, Tryz.ntmps84
  go_wp2
  go_loopw [5, 8] (fun s5 i wr => ∃ k : Nat, k ≤ n ∧ i = .int .i64 k ∧ Hid (firstS p xs 0 = firstS p (xs.drop k) k) ∧ Below w.heap.size w wr) (fun s5 i _ => n - (intOf i).toNat)
  case atStart => exact ⟨0, Nat.zero_le _, rfl, by simp [Hid], Below.refl _ _⟩
  case round =>
    obtain ⟨k, hk, rfl, hq, hbw⟩ := hrel
    by_cases hlt : k < n
    · obtain ⟨b, off, v, rfl, hc, hd, hat, _⟩ := (h.below hbw).step hlt
      have hcall := Hp.out wr hbw v (List.mem_of_getElem? hat.out)
      cases hv : p v with
      | true =>
        rw [hv] at hcall
        have Hv := hide hv
        clear hv hat
        go_wp2_with (go_at_fn F; refine hcall.mono ?_; rintro e w' ⟨rfl, hb'⟩)
        go_ret
        exact ⟨ret_i (by rw [hq.out, hd.out]; simp [firstS, Hv.out]), Below_trans' hbw hbw.size hb'⟩
      | false =>
        rw [hv] at hcall
        have Hv := hide hv
        clear hv hat
        go_wp2_with (go_at_fn F; refine hcall.mono ?_; rintro e w' ⟨rfl, hb'⟩)
        go_roundw
        case rel => exact ⟨k + 1, by omega, by go_num, by unfold Hid; rw [hq.out, hd.out]; simp [firstS, Hv.out], Below_trans' hbw hbw.size hb'⟩
        case measure => simp [intOf] <;> omega
    · have hd := hide (h.done hlt)
      go_wp2
      go_ret
      exact ⟨ret_i (by rw [hq.out, hd.out]; simp [firstS]), hbw⟩

set_option maxRecDepth 100000 in
set_option maxHeartbeats 2000000 in
theorem deleteFunc_at (F : FuncId) (eg : ∀ args w, (callFunc F args).run Tryz.prog w = .ok (.enter F args) w) (p : Int → Bool) (lb : Array Value) (B : Nat) (A : Option Addr) (n c : Nat) (xs : List Int) (w : World) (h : Own w B (.slice A n c) xs) (hx : ∀ x ∈ xs, -9223372036854775808 ≤ x ∧ x ≤ 9223372036854775807)
    (hp : ∀ W, Frame' (fun b => some b = (Value.slice A n c).ownBlock) w W → ∀ x, Calls Tryz.prog F (#[.int .i64 x] ++ lb) W fun e w' => e = .returned (.bool (p x)) ∧ Below W.heap.size W w') :
    Calls Tryz.prog 54 #[.slice A n c, .func (.func F) #[] lb] w (DelPost w B (.slice A n c) (xs.filter fun x => !p x)) := by
  have hr := h.ints hx
  have hle := hr.le
  have hlen := hide hr.len
  have hcall := indexFunc_at F eg p lb A n c xs w hr (fun W hb x _ => hp W (Frame'.of_below hb) x)
  have Hp := hide hp
  have Hr := hide hr
  have Hh := hide h
  rcases firstS_spec p xs 0 with ⟨e1, hall⟩ | ⟨i0, hi0, e1, hf0⟩
  · have hf : Hid ((xs.filter fun x => !p x) = xs) := by
      unfold Hid
      rw [List.filter_eq_self]
      intro x hx
      rw [hall x hx]; rfl
    rw [e1] at hcall
    clear hp hr h e1 hall hx
    go_enter Tryz.func54, Tryz.ntmps54
    go_wp2_with (go_at_call 84; refine hcall.mono ?_; rintro e w' ⟨rfl, hb'⟩)
    go_ret
    exact ⟨A, n, c, rfl, by rw [hf.out]; exact Hh.out.below hb', rfl, Frame'.of_below hb'⟩
  · rw [show (0 : Int) + i0 = i0 by omega] at e1
    rw [e1] at hcall
    rw [hr.len] at hi0
    obtain ⟨g, rfl⟩ : ∃ g, A = some ⟨g, 0, none⟩ := by
      rcases h.2 with ⟨_, e⟩ | ⟨g, cap, cur, e, _⟩
      · rw [hr.len] at e; omega
      · cases e; exact ⟨g, rfl⟩
    have hne : ((i0 : Int) == -1) = false := beq_eq_false_iff_ne.2 (by omega)
    have hnc : n ≤ c := hr.2.1
    have hcm : c ≤ 9223372036854775807 := hr.2.2.1
    have hF0 := hide hf0
    clear hp hr h e1 hx hf0
    go_enter Tryz.func54, Tryz.ntmps54
    go_wp2_with (go_at_call 84; refine hcall.mono ?_; rintro e w5 ⟨rfl, hb5⟩)
    clear hcall
    go_loopw [5, 6, 7] (fun s5 s6 s7 wr => ∃ (i j : Nat) (ys : List Int), i < j ∧ j ≤ n ∧ s5 = .int .i64 i ∧ s6 = .int .i64 j ∧ Hid (ys.length = n) ∧ Hid (ys.take i = (xs.take j).filter fun x => !p x) ∧ Hid (ys.drop j = xs.drop j) ∧ Hid (Own wr B (.slice (some ⟨g, 0, none⟩) n c) ys) ∧ Hid (Frame' (fun b => some b = (Value.slice (some ⟨g, 0, none⟩) n c).ownBlock) w wr)) (fun s5 s6 s7 _ => n - (intOf s6).toNat)
    case atStart => exact ⟨i0, i0 + 1, xs, by omega, by omega, rfl, by go_num, hlen, hF0.out.symm, rfl, Hh.out.below hb5, Frame'.of_below hb5⟩
    case round =>
      obtain ⟨i, j, ys, hij, hj, rfl, rfl, hyl, hyt, hyd, hO, hF⟩ := hrel
      have hown : wr.ownsRow B 3 1 (.slice (some ⟨g, 0, none⟩) n c) n (ys.map (Value.int .i64)) := by have := hO.out; unfold Own at this; rwa [hyl.out] at this
      by_cases hlt : j < n
      · have hxj : xs[j]? = some (xs[j]'(by rw [hlen.out]; exact hlt)) := List.getElem?_eq_getElem _
        generalize (xs[j]'(by rw [hlen.out]; exact hlt)) = v at hxj
        have hyj : ys[j]? = some v := by
          have := congrArg (·[0]?) hyd.out
          simpa [List.getElem?_drop, hxj] using this
        have hcj : wr.cell? ⟨g, j, none⟩ = some (.int .i64 v) := by rw [hown.cellAt j (by omega), List.getElem?_map, hyj]; rfl
        have hcall := Hp.out wr hF.out v
        have Hxj := hide hxj
        have Hown := hide hown
        have htk : Hid (xs.take (j + 1) = xs.take j ++ [v]) := by unfold Hid; rw [List.take_add_one, hxj]; rfl
        have hdk : Hid (ys.drop (j + 1) = xs.drop (j + 1)) := by
          have := congrArg (List.drop 1) hyd.out
          unfold Hid
          simpa [List.drop_drop] using this
        clear hxj hown hyj
        cases hv : p v with
        | true =>
          rw [hv] at hcall
          have Hv := hide hv
          clear hv
          go_wp2_with (go_at_fn F; refine hcall.mono ?_; rintro e w' ⟨rfl, hb'⟩)
          go_roundw
          case rel => exact ⟨i, j + 1, ys, by omega, by omega, rfl, by go_num, hyl, by unfold Hid; rw [hyt.out, htk.out]; simp [Hv.out], hdk, hO.out.below hb', hF.out.trans (Frame'.of_below hb')⟩
          case measure => simp [intOf] <;> omega
        | false =>
          rw [hv] at hcall
          have Hv := hide hv
          clear hv
          have Hcj := hide hcj
          go_wp2_with (go_at_fn F; refine hcall.mono ?_; rintro e w' ⟨rfl, hb'⟩; have hown' : w'.ownsRow B 3 1 (.slice (some ⟨g, 0, none⟩) n c) n (ys.map (Value.int .i64)) := (by have := hO.out.below hb'; unfold Own at this; rwa [hyl.out] at this); have hcj' : w'.cell? ⟨g, j, none⟩ = some (.int .i64 v) := keep_cell hb' Hcj.out; obtain ⟨u, hci⟩ : ∃ u, w'.cell? ⟨g, i, none⟩ = some (.int .i64 u) := (by have hil : i < ys.length := (by rw [hyl.out]; omega); exact ⟨ys[i], by rw [hown'.cellAt i (by omega), List.getElem?_map, List.getElem?_eq_getElem hil]; rfl⟩); have hfi := hown'.frozenAt i; have Hown' := hide hown'; clear hown')
          go_roundw
          case rel =>
            refine ⟨i + 1, j + 1, ys.set i v, by omega, by omega, by go_num, by go_num, by unfold Hid; rw [List.length_set]; exact hyl.out, ?_, ?_, ?_, Frame'.setCell (p := ⟨g, i, none⟩) (hF.out.trans (Frame'.of_below hb')) (.inl rfl) _⟩
            · unfold Hid
              have hil : i < ys.length := by rw [hyl.out]; omega
              rw [List.take_add_one, List.getElem?_set_self hil, List.take_set_of_le (Nat.le_refl _), hyt.out, htk.out]
              simp [Hv.out]
            · unfold Hid
              rw [List.drop_set, if_pos (by omega)]
              exact hdk.out
            · unfold Hid Own
              rw [List.length_set, hyl.out, List.map_set]
              exact (Hown'.out.stored i _).1
          case measure => simp [intOf] <;> omega
      · have hjn : j = n := by omega
        have hfin : Hid ((xs.filter fun x => !p x) = ys.take i) := by
          unfold Hid
          rw [hyt.out, hjn, List.take_of_length_le (by rw [hlen.out]; exact Nat.le_refl _)]
        have hcl : ∀ ty, (Builtin.clear_ #[28] ty #[.slice (some ⟨g, i, none⟩) (n - i) (c - i)]).run Tryz.prog wr = .ok (.tuple #[]) (wr.setCells g i (List.replicate (n - i) (.int .i64 0))) :=
          fun ty => Lib.run_clear_slice wr _ 3 ty _ Tryz.underlying28 zero3 rfl rfl g i _ _ (by omega) (fun t ht => by
            have hil : i + t < ys.length := by rw [hyl.out]; omega
            rw [hown.cellAt (i + t) (by omega), List.getElem?_map, List.getElem?_eq_getElem hil]; rfl) (fun t ht => hown.frozenAt (i + t))
        have Hown := hide hown
        clear hown
        subst hjn
        clear hlt
        go_wp2
        go_ret
        obtain ⟨zs, h1, h2, h3⟩ := owns_setCells (List.replicate (j - i) (.int .i64 0)) i wr _ Hown.out
        refine ⟨some ⟨g, 0, none⟩, i, c, rfl, ?_, rfl, hF.out.trans (h3.mono fun k _ e => by rw [e]; rfl)⟩
        rw [hfin.out]
        have e := h2 i (Nat.le_refl _)
        obtain ⟨k1, k2⟩ := h1
        rcases k2 with ⟨e', _⟩ | ⟨g', cap', cur, e', hB, hg, hn, hc, hs, ht⟩
        · cases e'
        · cases e'
          have hl : (ys.take i).length = i := by rw [List.length_take, hyl.out]; omega
          refine ⟨by simp, .inr ⟨g, c, cur, by rw [hl], hB, hg, by omega, hc, hs, ?_⟩⟩
          rw [hl, List.map_take, ← e, ← ht, List.take_take]
          congr 1
          omega

set_option maxRecDepth 100000 in
theorem minFunc_at (F : FuncId) (eg : ∀ args w, (callFunc F args).run Tryz.prog w = .ok (.enter F args) w) (f : Int → Int) (hf : ∀ x, 0 ≤ f x + 1 ∧ f x ≤ 1000000) (lb : Array Value) (A : Option Addr) (n c : Nat) (xs : List Int) (w : World) (h : RInts w A n c xs) (h0 : 0 < n)
    (hp : ∀ W, Below w.heap.size w W → ∀ x y, Calls Tryz.prog F (#[.int .i64 x, .int .i64 y] ++ lb) W fun e w' => e = .returned (.int .i64 (f x - f y)) ∧ Below W.heap.size W w') :
    Calls Tryz.prog 117 #[.slice A n c, .func (.func F) #[] lb] w fun e w' => ∃ m, e = .returned (.int .i64 m) ∧ (m ∈ xs ∧ ∀ y ∈ xs, f m ≤ f y) ∧ Below w.heap.size w w' := by
  have hn := h.le
  have hl := hide h.len
  have Hp := hide hp
  have Hf := hide hf
  have d0 : ¬ (n : Int) < 1 := by omega
  clear hp hf
  obtain ⟨b, off, v0, rfl, hc0, _, hat0, _⟩ := h.step h0
  have h1 : Hid (v0 ∈ xs.take 1 ∧ ∀ y ∈ xs.take 1, f v0 ≤ f y) := by
    have : xs.take 1 = [v0] := by rw [List.take_add_one, hat0.out]; simp
    unfold Hid; rw [this]; simp
  simp only [Nat.add_zero] at hc0
  clear hat0
  go_enter Tryz.func117, Tryz.ntmps117
  go_wp2
  go_loopw [5, 6] (fun m i wr => ∃ (k : Nat) (v : Int), 1 ≤ k ∧ k ≤ n ∧ i = .int .i64 k ∧ m = .int .i64 v ∧ Hid (v ∈ xs.take k ∧ ∀ y ∈ xs.take k, f v ≤ f y) ∧ Below w.heap.size w wr) (fun m i _ => n - (intOf i).toNat)
  case atStart => exact ⟨1, v0, Nat.le_refl _, by omega, by go_num, rfl, h1, Below.refl _ _⟩
  case round =>
    obtain ⟨k, v, hk1, hk, rfl, rfl, hq, hbw⟩ := hrel
    by_cases hlt : k < n
    · obtain ⟨b2, off2, u, e2, hc, _, hat, _⟩ := (h.below hbw).step hlt
      cases e2
      have hcall := Hp.out wr hbw u v
      have htk : Hid (xs.take (k + 1) = xs.take k ++ [u]) := by unfold Hid; rw [List.take_add_one, hat.out]; rfl
      have fu := Hf.out u
      have fv := Hf.out v
      clear hat
      by_cases hlt2 : f u < f v
      · have q : Hid (u ∈ xs.take (k + 1) ∧ ∀ y ∈ xs.take (k + 1), f u ≤ f y) := by
          unfold Hid
          rw [htk.out]
          refine ⟨by simp, fun y hy => ?_⟩
          rcases List.mem_append.1 hy with hy | hy
          · have := hq.out.2 y hy; omega
          · simp at hy; subst hy; exact Int.le_refl _
        have d1 : f u - f v < 0 := by omega
        go_wp2_with (go_at_fn F; refine hcall.mono ?_; rintro e w' ⟨rfl, hb'⟩; have hc' := keep_cell hb' hc)
        go_roundw
        case rel => exact ⟨k + 1, u, by omega, by omega, by go_num, rfl, q, Below_trans' hbw hbw.size hb'⟩
        case measure => simp [intOf] <;> omega
      · have q : Hid (v ∈ xs.take (k + 1) ∧ ∀ y ∈ xs.take (k + 1), f v ≤ f y) := by
          unfold Hid
          rw [htk.out]
          refine ⟨List.mem_append_left _ hq.out.1, fun y hy => ?_⟩
          rcases List.mem_append.1 hy with hy | hy
          · exact hq.out.2 y hy
          · simp at hy; subst hy; omega
        have d1 : ¬ f u - f v < 0 := by omega
        go_wp2_with (go_at_fn F; refine hcall.mono ?_; rintro e w' ⟨rfl, hb'⟩; have hc' := keep_cell hb' hc)
        go_roundw
        case rel => exact ⟨k + 1, v, by omega, by omega, by go_num, rfl, q, Below_trans' hbw hbw.size hb'⟩
        case measure => simp [intOf] <;> omega
    · have e : Hid (xs.take k = xs) := List.take_of_length_le (by rw [hl.out]; omega)
      unfold Hid at hq
      rw [e.out] at hq
      go_wp2
      go_ret
      exact ⟨v, rfl, hq, hbw⟩
end Go.Proofs.YtolbceckbnifmaaGreat
