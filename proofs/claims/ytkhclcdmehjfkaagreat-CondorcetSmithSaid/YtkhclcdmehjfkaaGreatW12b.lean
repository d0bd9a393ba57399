/-
  The layer condorcet: sets that grow; the Smith set.
-/
import Derived.Test.YtkhclcdmehjfkaaGreatSpecSr
import Derived.Test.YtkhclcdmehjfkaaGreatRangeF
import Derived.Test.YtkhclcdmehjfkaaGreatW12a
import Derived.Test.YtkhclcdmehjfkaaGreatW11g
import Derived.Test.YtkhclcdmehjfkaaGreatW8i
namespace Go.Proofs.YtkhclcdmehjfkaaGreat
open Go.RowKit Go.Proofs Go.Shelf
attribute [local go_sem] Oper.semAt_some
attribute [local go_sem] cell?_more cell?_alloc_some cell?_setCell_far frozen?_alloc_some frozen?_more
/-- A set as the iterator hands it on: its slice, its members. -/
structure SetAt (m : M) (C B k : Nat) (x : Value × List Int) (W : World) : Prop where
  own : Own W B x.1 x.2
  grow : Grow m C k x.2
  shut : ∀ a b : Nat, (a : Int) ∈ x.2 → b < C → nbS m a b → (b : Int) ∈ x.2
theorem Grow.le {m : M} {C k : Nat} {L : List Int} (h : Grow m C k L) : L.length ≤ C := by
  have := h.nd.length_le_of_subset (l₂ := rangeI C) fun x hx => mem_rangeI.2 (h.rng x hx)
  rwa [length_rangeI] at this
theorem grown_any (Cs : Array Value) (c : Int) (w : World) :
    Calls Tryz.prog 76 #[.agg Cs, .int .i64 c] w fun e w' => e = .returned (.func (.func 121) #[] #[.pointer (some ⟨w.heap.size + 1, 0, none⟩), .pointer (some ⟨w.heap.size, 0, none⟩)]) ∧
      (w.alloc (.cells Cs 24)).alloc (.cells #[.int .i64 c] 3) = w' := by
  go_enter Tryz.func76, Tryz.ntmps76
  go_wp2
  go_ret
  exact ⟨by simp, rfl⟩

set_option maxRecDepth 100000 in
set_option maxHeartbeats 4000000 in
theorem grown1_any (mm : Nat) (hm1 : 1 ≤ mm) (l Bm Bc B : Nat) (Sf : Nat → Prop) (D : Array Value) (m : M) (C : Nat) (hD : Mat D m) (hC : C ≤ 10) (J : Nat → World → Prop) (hJ : ∀ k A E, J k A → Below A.heap.size A E → J k E)
    (hY : ∀ k (x : Value × List Int) W, k < C → J k W → SetAt m C B k x W → YieldAt Fence.wide (mm - 1) Tryz.prog l #[x.1] W fun e W' => e = .returned (.bool true) ∧ J (k + 1) W' ∧ Frame' Sf W W')
    (W : World) (hM : Has W Bm 24 D) (hc : Has W Bc 3 #[.int .i64 C]) (hSm : ¬ Sf Bm) (hSc : ¬ Sf Bc) (hB : B ≤ W.heap.size) (h0 : J 0 W) :
    CallsIn Fence.wide mm Tryz.prog 121 #[.func (.yield l) #[] #[], .pointer (some ⟨Bc, 0, none⟩), .pointer (some ⟨Bm, 0, none⟩)] W fun e W' => (∃ v, e = .returned v) ∧ J C W' := by
  refine callsIn_wide.2 ?_
  have HY := hide hY
  have HJ := hide hJ
  have H0 := hide h0
  clear hY hJ h0
  have c0 := hc.cell 0
  go_enter Tryz.func121, Tryz.ntmps121
  go_wp2
  clear c0
  go_loopw [9] (fun i wr => ∃ k : Nat, k ≤ C ∧ i = .int .i64 k ∧ Hid (J k wr) ∧ Has wr Bm 24 D ∧ Has wr Bc 3 #[.int .i64 C] ∧ B ≤ wr.heap.size) (fun i _ => C - (intOf i).toNat)
  case atStart => exact ⟨0, Nat.zero_le _, rfl, H0, hM, hc, hB⟩
  case round =>
    obtain ⟨k, hk, rfl, hJk, hMr, hCr, hBr⟩ := hrel
    obtain ⟨wo, rfl⟩ : ∃ wo : World, wo = wr := ⟨_, rfl⟩
    by_cases hlt : k < C
    · go_upto_region 4 with fail
      have hO := Own.lit wo wo.heap.size k (Nat.le_refl _)
      have hbo : Below wo.heap.size wo (wo.alloc (.cells #[.int .i64 k] 3)) := below_allocN
      generalize World.alloc wo _ = wa at hO hbo ⊢
      have hG0 := hide (Grow.start m hlt)
      go_wp2
      go_loopw [5, 6] (fun v i wr => ∃ (L : List Int) (I : Nat), I ≤ L.length ∧ i = .int .i64 I ∧ Own wr wo.heap.size v L ∧ Hid (Grow m C k L) ∧ Hid (Let m C L I 0) ∧ Below wo.heap.size wo wr) (fun v i _ => C + 1 - (intOf i).toNat)
      case atStart => exact ⟨[(k : Int)], 0, Nat.zero_le _, rfl, hO, hG0, Let.zero m C _, hbo⟩
      case round =>
        obtain ⟨L, I, hI, rfl, hL, hG, hT, hb⟩ := hrel
        obtain ⟨wp, rfl⟩ : ∃ wp : World, wp = wr := ⟨_, rfl⟩
        obtain ⟨A1, c1, rfl⟩ := hL.slice
        have hLC := hG.out.le
        obtain ⟨n, hn⟩ : ∃ n, n = L.length := ⟨_, rfl⟩
        rw [← hn] at hI hL hLC ⊢
        have Hn := hide hn
        clear hn
        have hMp := hMr.below hb hMr.lt
        have hCp := hCr.below hb hCr.lt
        by_cases hIn : I < n
        · have hR := hL.ints fun x hx => by have := hG.out.rng x hx; omega
          obtain ⟨b, off, v, e1, hcell, _, hat, _⟩ := hR.step hIn
          have hv := hG.out.rng v (List.mem_of_getElem? hat.out)
          obtain ⟨X, rfl⟩ : ∃ X : Nat, v = X := ⟨v.toNat, by omega⟩
          clear hcell e1 hR
          have c0 := hCp.cell 0
          go_wp2
          clear c0
          go_loopw [5, 21] (fun v i wr => ∃ (L' : List Int) (Y : Nat), Y ≤ C ∧ i = .int .i64 Y ∧ Own wr wo.heap.size v L' ∧ Hid (Grow m C k L') ∧ Hid (Let m C L' I Y) ∧ Hid (L'[I]? = some (X : Int)) ∧ Below wo.heap.size wo wr) (fun v i _ => C - (intOf i).toNat)
          case atStart => exact ⟨L, 0, Nat.zero_le _, rfl, hL, hG, hT, hat, hb⟩
          case round =>
            obtain ⟨L', Y, hYC, rfl, hL', hG', hT', hat', hb'⟩ := hrel
            obtain ⟨wq, rfl⟩ : ∃ wq : World, wq = wr := ⟨_, rfl⟩
            obtain ⟨A2, c2, rfl⟩ := hL'.slice
            have hLC' := hG'.out.le
            have hIl := (List.getElem?_eq_some_iff.1 hat'.out).1
            obtain ⟨n2, hn2⟩ : ∃ n2, n2 = L'.length := ⟨_, rfl⟩
            rw [← hn2] at hL' hLC' hIl ⊢
            have Hn2 := hide hn2
            clear hn2
            by_cases hY : Y < C
            · have hR := hL'.ints fun x hx => by have := hG'.out.rng x hx; omega
              obtain ⟨b, off, v, rfl, hcell, _, hatv, _⟩ := hR.step hIl
              obtain rfl : v = (X : Int) := by have := hatv.out; rw [hat'.out] at this; exact (Option.some.inj this).symm
              clear hatv
              have hMq := hMr.below hb' hMr.lt
              have x10 : X < 10 := by omega
              have y10 : Y < 10 := by omega
              have bx : (X : Int) < 10 := by omega
              have by_ : (Y : Int) < 10 := by omega
              have hcv := (hMq.cell (X * 10 + Y)).trans (hD.at_ X Y x10 y10)
              have hcu := (hMq.cell (Y * 10 + X)).trans (hD.at_ Y X y10 x10)
              have hxin := hide (List.mem_of_getElem? hat'.out)
              by_cases hnb : m X Y ≤ m Y X
              · have d1 : decide (m X Y ≤ m Y X) = true := by simpa using hnb
                cases hin : inL L' Y with
                | true =>
                  have hnx := hide (hT'.out.skip hat'.out (.inr (inL_iff.1 hin)))
                  clear hnb
                  generalize m X Y = v at hcv d1
                  generalize m Y X = u at hcu d1
                  go_upto_region 10 with fail
                  have hcn : ∀ q, Calls Tryz.prog 122 #[.slice (some ⟨b, off, none⟩) n2 c2, .int .i64 Y] (More wq q) fun e w' => e = .returned (.bool true) ∧ More wq q = w' := fun q => by
                    have := contains_any _ n2 c2 L' Y _ (hR.more q)
                    rwa [hin] at this
                  refine wp_region_more (by kernel_rfl) (by kernel_rfl) ?_
                  repeat (go_big_quiet_step ((go_at_call 122; with_reducible exact more_same (hcn _))))
                  refine wpQuiet_nil ?_
                  rintro w2 ⟨qw2, hww2⟩
                  have hbw2 := below_of_eq hww2
                  clear hww2 qw2
                  go_wp2
                  go_roundw
                  case rel => exact ⟨L', Y + 1, by omega, by go_num, hL'.below hbw2, hG', hnx, hat', Below_trans' hb' hb'.size hbw2⟩
                  case measure => simp [intOf] <;> omega
                | false =>
                  have hYn : (Y : Int) ∉ L' := fun h => by rw [inL_iff.2 h] at hin; cases hin
                  have hnx := hide (hT'.out.add hat'.out)
                  have hgx := hide (hG'.out.add hxin.out hY hnb hYn)
                  have hatx : Hid ((L' ++ [(Y : Int)])[I]? = some (X : Int)) := by unfold Hid; rw [List.getElem?_append_left (by rw [← Hn2.out]; exact hIl)]; exact hat'.out
                  clear hnb hYn
                  generalize m X Y = v at hcv d1
                  generalize m Y X = u at hcu d1
                  go_upto_region 10 with fail
                  have hcn : ∀ q, Calls Tryz.prog 122 #[.slice (some ⟨b, off, none⟩) n2 c2, .int .i64 Y] (More wq q) fun e w' => e = .returned (.bool false) ∧ More wq q = w' := fun q => by
                    have := contains_any _ n2 c2 L' Y _ (hR.more q)
                    rwa [hin] at this
                  refine wp_region_more (by kernel_rfl) (by kernel_rfl) ?_
                  repeat (go_big_quiet_step ((go_at_call 122; with_reducible exact more_same (hcn _))))
                  refine wpQuiet_nil ?_
                  rintro w2 ⟨qw2, hww2⟩
                  have hbw2 := below_of_eq hww2
                  clear hww2 qw2
                  clear hcn
                  have hL2 := hL'.below hbw2
                  have hb2 := Below_trans' hb' hb'.size hbw2
                  have hz2 := hb2.size
                  have hl2 : L'.length = n2 := Hn2.out.symm
                  go_wp2_with (at_builtin; refine appInt rfl rfl rfl (hL2.below below_allocN) rfl ((Has.new _ _ _).cell 0) (by omega) (by simp; omega) ?_)
                  intro v' w' hO' hg
                  have hb3 : Below wo.heap.size wo w' := (hb2.alloc hz2 _).grown hg (by simp; omega) (fun i hi => (hL2.lt i hi).1)
                  go_wp2
                  go_roundw
                  case rel => exact ⟨_, Y + 1, by omega, by go_num, hO', hgx, hnx, hatx, hb3⟩
                  case measure => simp [intOf] <;> omega
              · have hnx := hide (hT'.out.skip hat'.out (.inl hnb))
                have d1 : decide (m X Y ≤ m Y X) = false := by simpa using hnb
                clear hnb
                generalize m X Y = v at hcv d1
                generalize m Y X = u at hcu d1
                go_upto_region 10 with fail
                refine wp_region_more (by kernel_rfl) (by kernel_rfl) ?_
                repeat (go_big_quiet_step (fail))
                refine wpQuiet_nil ?_
                rintro w2 ⟨qw2, hww2⟩
                have hbw2 := below_of_eq hww2
                clear hww2 qw2
                go_wp2
                go_roundw
                case rel => exact ⟨L', Y + 1, by omega, by go_num, hL'.below hbw2, hG', hnx, hat', Below_trans' hb' hb'.size hbw2⟩
                case measure => simp [intOf] <;> omega
            · obtain rfl : C = Y := by omega
              have hI2 : I + 1 ≤ L'.length := by rw [← Hn2.out]; exact hIl
              have hrw := hide hT'.out.row
              go_wp2
              go_roundw
              case rel => exact ⟨L', I + 1, hI2, by go_num, hL', hG', hrw, hb'⟩
              case measure => simp [intOf] <;> omega
        · obtain ⟨fn, tmps, assign, body, hy, hR⟩ := HY.out k (.slice A1 n c1, L) wp hlt (HJ.out _ _ _ hJk.out hb) ⟨hL.mono hBr, hG.out, fun a b ha hb hn => hT.out.all (by rw [← Hn.out]; omega) ha hb hn⟩
          dsimp only at hy
          go_upto_region 13 with fail
          refine (wpIn_wide (n := mm)).1 ?_
          gi_wp2
          refine hR.mono ?_
          rintro e W3 ⟨rfl, hJ3, hF3⟩
          gi_wp2
          go_wp2
          have hM3 := hF3.has hMp hSm
          have hC3 := hF3.has hCp hSc
          have hz3 : B ≤ W3.heap.size := Nat.le_trans hBr (Nat.le_trans hb.size hF3.size)
          go_roundw
          case rel => exact ⟨k + 1, by omega, by go_num, hJ3, hM3, hC3, hz3⟩
          case measure => simp [intOf] <;> omega
    · obtain rfl : C = k := by omega
      go_wp2
      refine bodyPost_end (results_none rfl _ _ _) rfl ?_
      exact ⟨⟨_, rfl⟩, hJk.out⟩
end Go.Proofs.YtkhclcdmehjfkaaGreat
