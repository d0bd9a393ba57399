/-
  The layer condorcet: the Smith set.
-/
import Derived.Test.YtkhclcdmehjfkaaGreatW12b
namespace Go.Proofs.YtkhclcdmehjfkaaGreat
open Go.RowKit Go.Proofs Go.Shelf
attribute [local go_sem] Oper.semAt_some
attribute [local go_sem] cell?_more cell?_alloc_some cell?_setCell_far frozen?_alloc_some frozen?_more
theorem results_slice {fn : Func} {p u : Tmp} (h : fn.results = #[.cell p 25, .tmp u]) {tmps : Array Value} {w : World} {g : Nat} {v x : Value} (hp : tmps.getD p undef = .pointer (some ⟨g, 0, none⟩)) (hu : tmps.getD u undef = x) (hc : w.cell? ⟨g, 0, none⟩ = some v) :
    (results fn tmps).run Tryz.prog w = .ok (.tuple #[v, x]) w := by
  rw [results_cell_tmp h, hp, hu]
  simp only [asAddr]
  go_simp

theorem run_nil0 (W : World) : Sem.run Tryz.prog (binOp BinOp.eql 25 (.slice none 0 0) (.slice none 0 0)) W = .ok (.bool true) W := by kernel_rfl
theorem run_nil1 (a : Addr) (n c : Nat) (W : World) : Sem.run Tryz.prog (binOp BinOp.eql 25 (.slice (some a) n c) (.slice none 0 0)) W = .ok (.bool false) W := by kernel_rfl
attribute [local go_sem] run_nil0 run_nil1
/-- What the loop of Smith knows: the least set so far. -/
def LeastAt (m : M) (C B fb : Nat) (w0 : World) (k : Nat) (W : World) : Prop :=
  (∃ v, Has W fb 25 #[v] ∧ ((k = 0 ∧ v = .slice none 0 0) ∨ (0 < k ∧ ∃ L, Own W B v L ∧ Least m C k L))) ∧ Below w0.heap.size w0 W
theorem LeastAt.below {m : M} {C B fb : Nat} {w0 : World} {k : Nat} {A E : World} (hs : w0.heap.size ≤ A.heap.size) (h : LeastAt m C B fb w0 k A) (hb : Below A.heap.size A E) : LeastAt m C B fb w0 k E := by
  obtain ⟨⟨v, hv, h⟩, h2⟩ := h
  refine ⟨⟨v, hv.below hb hv.lt, ?_⟩, Below_trans' h2 hs hb⟩
  rcases h with h | ⟨h0, L, hO, hL⟩
  · exact .inl h
  · exact .inr ⟨h0, L, hO.below hb, hL⟩
theorem has_putObj {W : World} {g l : Nat} {t : TypeId} {C : Array Value} {o : Obj} (h : Has W g t C) (o' : Obj) (hl : W.heap[l]? = some o) (ho : o.isCells = false) : Has (W.putObj l o') g t C := by
  have hne : g ≠ l := fun e => by subst e; unfold Has at h; rw [h] at hl; cases hl; cases ho
  unfold Has at *
  rw [World.putObj_heap_other hne]; exact h
theorem own_putObj {W : World} {B l : Nat} {v : Value} {xs : List Int} {o : Obj} (h : Own W B v xs) (o' : Obj) (hl : W.heap[l]? = some o) (ho : o.isCells = false) : Own (W.putObj l o') B v xs := ownsRow_putObj h o' hl ho
theorem LeastAt.putObj {m : M} {C B fb : Nat} {w0 : World} {k l : Nat} {W : World} {o : Obj} (h : LeastAt m C B fb w0 k W) (o' : Obj) (hw : w0.heap.size ≤ l) (hl : W.heap[l]? = some o) (ho : o.isCells = false) : LeastAt m C B fb w0 k (W.putObj l o') := by
  obtain ⟨⟨v, hv, h⟩, h2⟩ := h
  refine ⟨⟨v, has_putObj hv o' hl ho, ?_⟩, h2.grown (grownBy_putObj' W l o') (Nat.le_of_lt (Nat.lt_of_le_of_lt hw (Array.getElem?_eq_some_iff.1 hl).1)) (fun i e => by cases e; exact hw)⟩
  rcases h with h | ⟨h0, L, hO, hL⟩
  · exact .inl h
  · exact .inr ⟨h0, L, own_putObj hO o' hl ho, hL⟩
theorem frame_putObj {S : Nat → Prop} {W : World} {l : Nat} {o' : Obj} (hS : S l) : Frame' S W (W.putObj l o') := by
  refine (Frame'.of_grown (grownBy_putObj' W l o')).mono fun k _ hk => ?_
  have e : k = l := by simpa using hk
  rw [e]; exact hS

theorem leastAt_put {m : M} {C B fb k : Nat} {w0 W : World} {v u : Value} {L : List Int} (hB : fb < B) (hfb : w0.heap.size ≤ fb) (hv : Has W fb 25 #[v]) (hb : Below w0.heap.size w0 W) (hO : Own W B u L) (hL : Least m C (k + 1) L) :
    LeastAt m C B fb w0 (k + 1) (W.setCell ⟨fb, 0, none⟩ u) :=
  ⟨⟨u, hv.put 0 u, .inr ⟨by omega, L, hO.frame ((Frame'.refl (fun b => b = fb) W).setCell (.inl rfl) u) (fun b hb e => by have := hO.own_lt hb; omega), hL⟩⟩, hb.setCell (p := ⟨fb, 0, none⟩) hfb _⟩
theorem ord_sort {C : Nat} {L ys : List Int} (hr : ∀ x ∈ L, 0 ≤ x ∧ x < C) (hn : L.Nodup) (hp : ys.Perm L) (hs : ys.Pairwise (· ≤ ·)) : ys = ordS C L := by
  have h1 : (ordS C L).Perm L := (List.perm_ext_iff_of_nodup ((nodup_rangeI C).sublist List.filter_sublist) hn).2 fun x => mem_ordS hr
  exact List.Perm.eq_of_pairwise (fun a b _ _ h h' => Int.le_antisymm h h') hs ((sorted_rangeI C).sublist List.filter_sublist) (hp.trans h1.symm)

set_option maxRecDepth 100000 in
set_option maxHeartbeats 4000000 in
theorem smith_any (Cs : Array Value) (m : M) (hC : Mat Cs m) (c : Int) (w : World) :
    Calls Tryz.prog 33 #[.agg Cs, .int .i64 c] w fun e w' => ∃ v, e = .returned (.tuple #[v, .int .i64 (smithErr m c)]) ∧ Own w' w.heap.size v (smithV m c) ∧ Below w.heap.size w w' := by
  have hs := hC.size
  have hM0 : Has ((w.alloc (.cells Cs 24)).alloc (.cells #[.slice none 0 0] 25)) w.heap.size 24 Cs := (Has.new _ _ _).alloc _
  have hR0 : Has ((w.alloc (.cells Cs 24)).alloc (.cells #[.slice none 0 0] 25)) (w.heap.size + 1) 25 #[.slice none 0 0] := Has.new2 _ _ _ _
  have hb0 : Below w.heap.size w ((w.alloc (.cells Cs 24)).alloc (.cells #[.slice none 0 0] 25)) := ((Below.refl _ _).alloc (Nat.le_refl _) _).alloc (by simp) _
  have hz0 : Hid (((w.alloc (.cells Cs 24)).alloc (.cells #[.slice none 0 0] 25)).heap.size = w.heap.size + 2) := by unfold Hid; simp
  refine (callsIn_wide (n := 3)).1 ?_
  refine callsIn_of_wp_marks Tryz.func33 rfl trivial ?_ rfl
  simp only [Tryz.ntmps33, List.size_toArray, List.length_cons, List.length_nil, Nat.reduceAdd, Nat.reduceSub, Array.replicate_succ, Array.replicate_zero, List.push_toArray, List.append_toArray, List.nil_append, List.cons_append]
  refine wpIn_wide.2 ?_
  go_upto_region 1 with fail
  generalize World.alloc (World.alloc w _) _ = W0 at hM0 hR0 hb0 hz0 ⊢
  by_cases h1 : c < 1
  · have hE := hide (smithErr_arg (m := m) (.inl h1))
    have r0 := hR0.cell 0
    have f0 := hR0.free 0
    go_wp2
    refine ⟨_, results_slice rfl rfl rfl (World.cell?_setCell_same' _ _ _ (by rw [r0]; rfl)), .slice none 0 0, by rw [hE.out]; rfl, ?_, ?_⟩
    · rw [smithV_bad (by rw [hE.out]; decide)]; exact Own.nil_ _ _
    · exact hb0.setCell (p := ⟨w.heap.size + 1, 0, none⟩) (by simp) _
  · by_cases h10 : 10 < c
    · have hE := hide (smithErr_arg (m := m) (.inr h10))
      have r0 := hR0.cell 0
      have f0 := hR0.free 0
      go_wp2
      refine ⟨_, results_slice rfl rfl rfl (World.cell?_setCell_same' _ _ _ (by rw [r0]; rfl)), .slice none 0 0, by rw [hE.out]; rfl, ?_, ?_⟩
      · rw [smithV_bad (by rw [hE.out]; decide)]; exact Own.nil_ _ _
      · exact hb0.setCell (p := ⟨w.heap.size + 1, 0, none⟩) (by simp) _
    · cases hR : rightS m c with
      | false =>
        have hE := hide (smithErr_bad (by omega) hR)
        have hr := right_any Cs m hC c
        simp only [hR] at hr
        clear hR
        go_wp2_with (refine ldMat rfl rfl rfl hM0 hs ?_)
        refine (hr _).mono ?_
        rintro e w1 ⟨rfl, hb1⟩
        have hb01 := Below_trans' hb0 hb0.size hb1
        have hR1 := hR0.below hb1 hR0.lt
        have r0 := hR1.cell 0
        have f0 := hR1.free 0
        go_wp2
        refine ⟨_, results_slice rfl rfl rfl (World.cell?_setCell_same' _ _ _ (by rw [r0]; rfl)), .slice none 0 0, by rw [hE.out]; rfl, ?_, ?_⟩
        · rw [smithV_bad (by rw [hE.out]; decide)]; exact Own.nil_ _ _
        · exact hb01.setCell (p := ⟨w.heap.size + 1, 0, none⟩) (by simp) _
      | true =>
        obtain ⟨C, rfl⟩ : ∃ C : Nat, c = C := ⟨c.toNat, by omega⟩
        have hE := hide (smithErr_ok hR)
        have hr := right_any Cs m hC C
        simp only [hR] at hr
        have HR := hide hR
        clear hR
        go_wp2_with (refine ldMat rfl rfl rfl hM0 hs ?_)
        refine (hr _).mono ?_
        rintro e w1 ⟨rfl, hb1⟩
        clear hr
        have hb01 := Below_trans' hb0 hb0.size hb1
        have hM1 := hM0.below hb1 hM0.lt
        have hR1 := hR0.below hb1 hR0.lt
        go_wp2_with (refine ldMat rfl rfl rfl hM1 hs ?_)
        refine (grown_any Cs C w1).mono ?_
        rintro e wS ⟨rfl, hS⟩
        have hMS : Has wS w1.heap.size 24 Cs := by rw [← hS]; exact (Has.new _ _ _).alloc _
        have hCS : Has wS (w1.heap.size + 1) 3 #[.int .i64 C] := by rw [← hS]; exact Has.new2 _ _ _ _
        have hb1S : Below w1.heap.size w1 wS := by rw [← hS]; exact ((Below.refl _ _).alloc (Nat.le_refl _) _).alloc (by simp) _
        clear hS
        go_wp2
        have hMf := hM0.lt
        have hRf := hR1.lt
        have hz1 : w.heap.size + 2 ≤ w1.heap.size := by rw [← hz0.out]; exact hb1.size
        have hzS := hb1S.size
        have hRS := hR1.below hb1S hR1.lt
        have hbS := Below_trans' hb01 hb01.size hb1S
        have hC1 : 1 ≤ C := by omega
        have hC10 : C ≤ 10 := by omega
        clear hM0 hR0 hb0 hz0 hb1 hR1 hM1 hMf hRf
        refine (wpIn_wide (n := 3)).1 ?_
        refine wpIn_rangeR (w0 := wS) rfl (by decide) (gf := 121) (lb := #[.pointer (some ⟨w1.heap.size + 1, 0, none⟩), .pointer (some ⟨w1.heap.size, 0, none⟩)]) rfl trivial (enters_of Tryz.func121 (by kernel_rfl) rfl)
          (encs := fun x : Value × List Int => #[x.1]) (Kp := Frame' fun b => b = w.heap.size + 1 ∨ wS.heap.size ≤ b) (R := SetAt m C (w.heap.size + 2)) (N := C)
          (fun l J W hW hJ hY h0 => grown1_any 2 (by decide) l w1.heap.size (w1.heap.size + 1) (w.heap.size + 2) (fun b => b = w.heap.size + 1 ∨ wS.heap.size ≤ b) Cs m C hC hC10 J hJ hY W (hMS.below hW hMS.lt) (hCS.below hW hCS.lt)
            (by have := hMS.lt; omega) (by have := hCS.lt; omega) (by have := hW.size; omega) h0)
          (fun h k => h.trans k) (fun W l o o' hl ho _ => frame_putObj (.inr hl)) (Below.refl _ _) (fun _ => rfl)
          (fun k x W l o o' hR hl ho hc => ⟨own_putObj hR.own o' ho hc, hR.grow, hR.shut⟩)
          (LeastAt m C (w.heap.size + 2) (w.heap.size + 1) w)
          (fun k A E hI hb => hI.below hI.2.size hb) (fun k W l o o' hI hl ho hc => hI.putObj o' (by omega) ho hc)
          ⟨⟨_, hRS, .inl ⟨rfl, rfl⟩⟩, hbS⟩
          (fun x => { tmps := #[.agg Cs, .int .i64 C, .pointer (some ⟨w.heap.size, 0, none⟩), undef, .pointer (some ⟨w.heap.size + 1, 0, none⟩), .int .i64 0, x.1, .bool false, .int .i64 C, .bool false, .bool false, .int .i64 C, .bool false, .bool false, .bool false, .agg Cs, .int .i64 C, .bool true, .bool false, .agg Cs, .int .i64 C,
            .func (.func 121) #[] #[.pointer (some ⟨w1.heap.size + 1, 0, none⟩), .pointer (some ⟨w1.heap.size, 0, none⟩)], x.1, undef, undef, undef, undef, undef, undef, undef, undef, undef, undef, undef, undef, undef], defers := [] }) ?assign ?body ?done
        case assign =>
          intro l x W K hK
          gi_wp2
          exact hK
        case body =>
          rintro l k ⟨xv, L⟩ W hk ⟨⟨v, hv, hcase⟩, hbw⟩ ⟨hO, hG, hcl⟩
          dsimp only at hO hG hcl ⊢
          obtain ⟨Ax, cx, rfl⟩ := hO.slice
          have r0 := hv.cell 0
          have f0 := hv.free 0
          have hKx := (Frame'.refl (fun b => b = w.heap.size + 1 ∨ wS.heap.size ≤ b) W).setCell (p := ⟨w.heap.size + 1, 0, none⟩) (.inl (.inl rfl)) (.slice Ax L.length cx)
          rcases hcase with ⟨rfl, rfl⟩ | ⟨hk0, L0, hO0, hL0⟩
          · have hnx := leastAt_put (by omega) (by omega) hv hbw hO (Least.one hG hcl)
            obtain ⟨n, hn⟩ : ∃ n, n = L.length := ⟨_, rfl⟩
            rw [← hn] at hO hnx hKx ⊢
            clear hn
            gi_wp2
            exact ⟨(KeepsOthers.setCell _ _ _).from _, hKx, hnx⟩
          · obtain ⟨A0, c0, rfl⟩ := hO0.slice
            have hp0 : 0 < L0.length := by
              obtain ⟨a, ha⟩ := List.exists_mem_of_ne_nil _ hL0.dom.ne
              have := (mem_ordS hL0.rng).1 ha
              exact List.length_pos_of_mem this
            obtain ⟨b0, o0, rfl, _⟩ := hO0.new hp0
            by_cases hlt : L.length < L0.length
            · obtain ⟨k', rfl⟩ : ∃ k', k = k' + 1 := ⟨k - 1, by omega⟩
              have hnx := leastAt_put (by omega) (by omega) hv hbw hO (hL0.next hG hcl hlt)
              obtain ⟨n, hn⟩ : ∃ n, n = L.length := ⟨_, rfl⟩
              obtain ⟨n0, hn0⟩ : ∃ n0, n0 = L0.length := ⟨_, rfl⟩
              rw [← hn] at hO hnx hKx hlt ⊢
              rw [← hn0] at hO0 hlt hp0 r0 hv
              clear hn hn0
              gi_wp2
              exact ⟨(KeepsOthers.setCell _ _ _).from _, hKx, hnx⟩
            · have hnx : LeastAt m C (w.heap.size + 2) (w.heap.size + 1) w (k + 1) W := ⟨⟨_, hv, .inr ⟨by omega, L0, hO0, hL0.keep hG hcl hlt⟩⟩, hbw⟩
              obtain ⟨n, hn⟩ : ∃ n, n = L.length := ⟨_, rfl⟩
              obtain ⟨n0, hn0⟩ : ∃ n0, n0 = L0.length := ⟨_, rfl⟩
              rw [← hn] at hO hlt ⊢
              rw [← hn0] at hO0 hlt hp0 r0 hv
              clear hn hn0 hKx
              gi_wp2
              exact ⟨KeepsFrom.refl _ _, Frame'.refl _ _, hnx⟩
        case done =>
          rintro D W hD ⟨⟨v, hv, hcase⟩, hbw⟩ hK
          rcases hcase with ⟨e0, _⟩ | ⟨_, L, hO, hL⟩
          · omega
          · have hSm := hide hL.smith
            have hsv := hide (smithV_ok HR.out hL.smith)
            obtain ⟨Ax, cx, rfl⟩ := hO.slice
            have r0 := hv.cell 0
            have f0 := hv.free 0
            have hle : L.length ≤ 12 := by
              have := hL.nd.length_le_of_subset (l₂ := rangeI C) fun x hx => mem_rangeI.2 (hL.rng x hx)
              rw [length_rangeI] at this; omega
            have hpx : 0 < L.length := by
              obtain ⟨a, ha⟩ := List.exists_mem_of_ne_nil _ hL.dom.ne
              have := (mem_ordS hL.rng).1 ha
              exact List.length_pos_of_mem this
            obtain ⟨b0, o0, rfl, hb0⟩ := hO.new hpx
            have hdn : D ≠ b0 := fun e => by
              subst e
              rcases hO.2 with ⟨e1, _⟩ | ⟨g, cap, cur, e1, _, hg, _⟩
              · cases e1
              · cases e1; rw [hg] at hK; cases hK
            have HL := hide hL
            clear hL
            obtain ⟨n, hn⟩ : ∃ n, n = L.length := ⟨_, rfl⟩
            rw [← hn] at hO hv r0 hle hpx
            have Hn := hide hn
            clear hn
            go_wp2_with fail
            refine (sort_any (w.heap.size + 2) _ n cx L W hO hle).mono ?_
            rintro e W2 ⟨rfl, ys, hO2, hp, hso, hF⟩
            have hys := ord_sort HL.out.rng HL.out.nd hp hso
            have hv2 : Has W2 (w.heap.size + 1) 25 #[.slice (some ⟨b0, o0, none⟩) n cx] := hF.has hv (fun e => by simp [Value.ownBlock] at e; omega)
            have hb2 : Below w.heap.size w W2 := Frame'.below hbw hF (fun k e => by simp [Value.ownBlock] at e; omega) hbw.size
            have hK2 : W2.heap[D]? = some (.deferred (some [])) := (hF.block D (Array.getElem?_eq_some_iff.1 hK).1 (fun e => by simp [Value.ownBlock] at e; omega)).trans hK
            clear r0 f0
            have r0 := hv2.cell 0
            have f0 := hv2.free 0
            go_wp2
            have hfd : w.heap.size + 1 ≠ D := fun e => by
              subst e; unfold Has at hv2; rw [hv2] at hK2; cases hK2
            have hK3 : (W2.setCell ⟨w.heap.size + 1, 0, none⟩ (.slice (some ⟨b0, o0, none⟩) n cx)).heap[D]? = some (.deferred (some [])) := (Below.heap_setCell W2 _ _ D (fun e => hfd e.symm)).trans hK2
            have hv3 := hv2.put 0 (.slice (some ⟨b0, o0, none⟩) n cx)
            have hb3 := hb2.setCell (p := ⟨w.heap.size + 1, 0, none⟩) (by simp) (.slice (some ⟨b0, o0, none⟩) n cx)
            have hO3 : Own (W2.setCell ⟨w.heap.size + 1, 0, none⟩ (.slice (some ⟨b0, o0, none⟩) n cx)) (w.heap.size + 2) (.slice (some ⟨b0, o0, none⟩) n cx) ys := hO2.frame ((Frame'.refl (fun b => b = w.heap.size + 1) W2).setCell (.inl rfl) _) (fun b hb e => by have := hO2.own_lt hb; omega)
            generalize W2.setCell _ _ = W3 at hK3 hv3 hb3 hO3 ⊢
            have hDs := (Array.getElem?_eq_some_iff.1 hK3).1
            have hv4 := has_putObj hv3 (.deferred none) hK3 rfl
            have hO4 := own_putObj hO3 (.deferred none) hK3 rfl
            refine ⟨by simp, .inl ⟨_, _, rfl, run_takeDeferred hK3, ?_⟩⟩
            refine ⟨_, results_slice rfl rfl rfl (hv4.cell 0), _, by rw [hE.out]; rfl, ?_, ?_⟩
            · rw [hsv.out, ← hys]; exact hO4.mono (by omega)
            · exact hb3.grown (grownBy_putObj' W3 D _) (by omega) (fun i e => by cases e; omega)
end Go.Proofs.YtkhclcdmehjfkaaGreat
