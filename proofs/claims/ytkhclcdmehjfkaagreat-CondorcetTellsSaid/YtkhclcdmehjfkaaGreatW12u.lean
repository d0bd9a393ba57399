/-
  The reference of chapter 12: the outcome that elects the one with the most.
-/
import Derived.Test.YtkhclcdmehjfkaaGreatW13b
import Derived.Test.YtkhclcdmehjfkaaGreatW15e
import Derived.Test.YtkhclcdmehjfkaaGreatSpecCo
namespace Go.Proofs.YtkhclcdmehjfkaaGreat
open Go.RowKit Go.Proofs Go.Shelf
attribute [local go_sem] cell?_more cell?_alloc_some cell?_setCell_far frozen?_alloc_some frozen?_more
/-- What elects one. -/
def oneO (has : List Int) (rs : List Rat3) (lot : List Int) : Outc :=
  ([frstS lot (bestS (getI has) (rangeI has.length))], [(rs, wholeS 0, [frstS lot (bestS (getI has) (rangeI has.length))], [])], tiedS [] (bestS (getI has) (rangeI has.length)) (frstS lot (bestS (getI has) (rangeI has.length))))
theorem one_most {f : Int → Int} {g : Int → Rat3} {C : Nat} {lot : List Int} : oneO ((rangeI C).map f) ((rangeI C).map fun y => g (f y)) lot = mostO f g C lot := by
  have e : bestS (getI ((rangeI C).map f)) (rangeI C) = bestS f (rangeI C) := by
    have hg : ∀ x ∈ rangeI C, getI ((rangeI C).map f) x = f x := fun x hx => by
      have hr := mem_rangeI.1 hx
      obtain ⟨X, rfl⟩ : ∃ X : Nat, x = X := ⟨x.toNat, by omega⟩
      unfold getI
      rw [Int.toNat_natCast]
      have hX : X < C := by omega
      simp [rangeI, List.getD, hX]
    unfold bestS
    refine List.filter_congr fun x hx => ?_
    rw [Bool.eq_iff_iff, List.all_eq_true, List.all_eq_true]
    constructor
    · intro h k hk
      have := h k hk
      rwa [hg k hk, hg x hx] at this
    · intro h k hk
      have := h k hk
      rwa [← hg k hk, ← hg x hx] at this
  unfold oneO mostO
  rw [List.length_map, length_rangeI, e]
def OneP (w : World) (o : Outc) (e : Ending) (w' : World) : Prop :=
  ∃ Be me de Br mr dr Bv mv dv, e = .returned (.agg #[.slice Be me de, .slice Br mr dr, .slice Bv mv dv]) ∧ ROut w' Be me de Br mr dr Bv mv dv o ∧ Below w.heap.size w w'
theorem retOne {fn : Func} {R : Ending → World → Prop} {a : Act} {w : World} {p g : Nat} {C : Array Value} (hr : fn.results = #[.cell p 38]) (hp : a.tmps.getD p undef = .pointer (some ⟨g, 0, none⟩))
    (hg : Has w g 38 C) (hs : C.size = 3) (hd : a.defers = []) (hR : R (.returned (.agg C)) w) : bodyPost Tryz.prog fn R .ret a w :=
  bodyPost_ret (results_cell_row hr _ _ g _ C _ _ hp hg Tryz.underlying38 rfl (sizeOut.trans (by rw [hs]))) hd hR
set_option maxRecDepth 100000 in
set_option maxHeartbeats 4000000 in
theorem rone_any (Ah : Option Addr) (nh ch : Nat) (has : List Int) (Ar : Option Addr) (nr cr : Nat) (rs : List Rat3) (At : Option Addr) (nt ct : Nat) (lot : List Int) (w : World) (hh : RInts w Ah nh ch has) (hr : RAgg ERat 3 w Ar nr cr rs) (h' : RInts w At nt ct lot)
    (h1 : 1 ≤ nh) (h10 : nh ≤ 10) (hlot : lotS lot nh = true) :
    Calls Tryz.prog 89 #[.slice Ah nh ch, .slice Ar nr cr, .slice At nt ct] w (OneP w (oneO has rs lot)) := by
  have hb0 : Below w.heap.size w (w.alloc (.cells #[.slice none 0 0, .slice none 0 0, .slice none 0 0] 38)) := below_allocN
  have hR0 : Has (w.alloc (.cells #[.slice none 0 0, .slice none 0 0, .slice none 0 0] 38)) w.heap.size 38 #[.slice none 0 0, .slice none 0 0, .slice none 0 0] := Has.new _ _ _
  have Hlot := hide hlot
  have hl := hide hh.len
  clear hlot
  go_enter Tryz.func89, Tryz.ntmps89
  go_upto_region 1 with fail
  generalize World.alloc w _ = w1 at hb0 hR0 ⊢
  go_wp2_with fail
  refine (rall_any nh w1 (by omega)).mono ?_
  rintro e w2 ⟨va, rfl, hOa, hb2⟩
  obtain ⟨Aa, ca, rfl⟩ := hOa.slice
  have hRa := hOa.ints fun x hx => by have := mem_rangeI.1 hx; omega
  rw [length_rangeI] at hRa ⊢
  have hB2 := Below_trans' hb0 hb0.size hb2
  go_wp2_with fail
  refine (alike_any Aa nh ca (rangeI nh) Ah nh ch has w2 hRa (hh.below hB2) (by omega) (fun x hx => mem_rangeI.1 hx)).mono ?_
  rintro e wo ⟨vb, rfl, hOb, hb3⟩
  have hal := hide (alike_best (among := rangeI nh) (has := has) (by rw [hl.out]; exact List.Sublist.refl _))
  rw [hal.out] at hOb
  have hbw := Below_trans' hB2 hB2.size hb3
  have hpath := hide (show oneO has rs lot = ([frstS lot (bestS (getI has) (rangeI nh))], [(rs, wholeS 0, [frstS lot (bestS (getI has) (rangeI nh))], [])], tiedS [] (bestS (getI has) (rangeI nh)) (frstS lot (bestS (getI has) (rangeI nh)))) by unfold oneO; rw [hl.out])
  have hsub := bestS_sub (getI has) (rangeI nh)
  have htm : ∀ y ∈ bestS (getI has) (rangeI nh), 0 ≤ y ∧ y < nh := fun y hy => mem_rangeI.1 (hsub.subset hy)
  have hxm : frstS lot (bestS (getI has) (rangeI nh)) ∈ bestS (getI has) (rangeI nh) := by
    obtain ⟨a, ha⟩ := List.exists_mem_of_ne_nil _ (bestS_ne (f := getI has) (l := rangeI nh) (fun e => by have := congrArg List.length e; rw [length_rangeI] at this; simp at this; omega))
    unfold frstS
    cases hf : lot.find? (inL (bestS (getI has) (rangeI nh))) with
    | none => exact absurd (inL_iff.2 ha) (by have := List.find?_eq_none.1 hf a (lot_in Hlot.out (hsub.subset ha)); simpa using this)
    | some y => exact inL_iff.1 (by simpa using List.find?_some hf)
  have hxr := htm _ hxm
  generalize bestS (getI has) (rangeI nh) = Tp at *
  obtain ⟨Av, cv, rfl⟩ := hOb.slice
  have hI2 := hOb.ints (fun y hy => by have := htm y hy; omega)
  have hown := hide (fun b (hb : fpS Av Tp.length b) => (hOb.own_lt (hOb.fps hb)).1)
  obtain ⟨nv, hnv⟩ : ∃ k, k = Tp.length := ⟨_, rfl⟩
  rw [← hnv] at hI2 hown ⊢
  clear htm hxm hOb hnv hOa hRa hsub
  have hRo := hR0.below (Below_trans' hb2 hb2.size hb3) hR0.lt
  have hz23 := Below_trans' hb2 hb2.size hb3
  have hg5 : w.heap.size < w1.heap.size := hR0.lt
  have hz2 := hb2.size
  have hz3 := hb3.size
  clear hb0 hb2 hb3 hB2 hR0 hz23
  go_wp2_with fail
  refine (rfirst_any At nt ct lot Av nv cv Tp wo (h'.below hbw) hI2).mono ?_
  rintro e w' ⟨rfl, rfl⟩
  generalize frstS lot Tp = x at *
  have hb6 : Below wo.heap.size wo (wo.alloc (.cells #[.int .i64 x] 3)) := below_allocN
  have hL6 := Has.new wo 3 #[.int .i64 x]
  go_wp2_with fail
  generalize World.alloc wo _ = w6 at hb6 hL6 ⊢
  refine (rwhole_any 0 w6 (by omega) (by omega)).mono ?_
  rintro e w14 ⟨An, nn, cn, Ad, nd, cd, rfl, hn14, hd14, hb14, hf14⟩
  have hL15 : Has ((w14.alloc (.cells #[.int .i64 x] 3)).alloc (.cells #[.slice Ar nr cr, .bool false, .slice An nn cn, .slice Ad nd cd, .slice (some ⟨w14.heap.size, 0, none⟩) 1 1, .slice none 0 0] 53)) w14.heap.size 3 #[.int .i64 x] := (Has.new _ _ _).alloc _
  have hN16 : Has ((w14.alloc (.cells #[.int .i64 x] 3)).alloc (.cells #[.slice Ar nr cr, .bool false, .slice An nn cn, .slice Ad nd cd, .slice (some ⟨w14.heap.size, 0, none⟩) 1 1, .slice none 0 0] 53)) (w14.heap.size + 1) 53 #[.slice Ar nr cr, .bool false, .slice An nn cn, .slice Ad nd cd, .slice (some ⟨w14.heap.size, 0, none⟩) 1 1, .slice none 0 0] := Has.new2 _ _ _ _
  have hb16 : Below w14.heap.size w14 ((w14.alloc (.cells #[.int .i64 x] 3)).alloc (.cells #[.slice Ar nr cr, .bool false, .slice An nn cn, .slice Ad nd cd, .slice (some ⟨w14.heap.size, 0, none⟩) 1 1, .slice none 0 0] 53)) := ((Below.refl _ _).alloc (Nat.le_refl _) _).alloc (by simp) _
  go_wp2_with fail
  generalize World.alloc (World.alloc w14 _) _ = w16 at hL15 hN16 hb16 ⊢
  have hb616 := Below_trans' hb14 hb14.size hb16
  have hbo16 := Below_trans' hb6 hb6.size hb616
  have hti := tied_any w16.heap.size (.slice none 0 0) (fun _ => False) [] Av nv cv Tp x w16 (Nat.le_refl _) (OAgg.nil_ _ _ _ _ _) (hI2.below hbo16) (fun b e => by cases e) (by unfold I64; omega) (by simp)
  refine hti.mono ?_
  rintro e w17 ⟨vt', fp', rfl, hT17, hft', hvt', hF17⟩
  clear hti
  obtain ⟨Av', cv', rfl⟩ := hT17.slice
  have hb17 : Below w16.heap.size w16 w17 := Frame'.below (Below.refl _ _) hF17 (fun b e => by cases e) (Nat.le_refl _)
  have hbo17 := Below_trans' hbo16 hbo16.size hb17
  have hbw17 := Below_trans' hbw hbw.size hbo17
  have hR17 := hRo.below hbo17 hRo.lt
  have r0 := hR17.cell 0
  have r1 := hR17.cell 1
  have r2 := hR17.cell 2
  have f0 := hR17.free 0
  have f1 := hR17.free 1
  have f2 := hR17.free 2
  have hz6 : wo.heap.size < w6.heap.size := hL6.lt
  have hz14 := hb14.size
  have hz16 := hb16.size
  have hl6 := hL6.lt
  generalize hnt : (tiedS [] Tp x).length = nw at *
  have Hnt := hide hnt
  clear hnt
  go_wp2
  refine retOne rfl rfl (put3 hR17) rfl rfl ⟨_, 1, 1, _, 1, 1, Av', nw, cv', rfl, ?_, below3 hbw17 (by omega) _ _ _⟩
  have hS : ∀ (W : World) (hW : Below W.heap.size W w17), Frame' (fun b => b = w.heap.size) W (((w17.setCell ⟨w.heap.size, 0, none⟩ (.slice (some ⟨wo.heap.size, 0, none⟩) 1 1)).setCell ⟨w.heap.size, 1, none⟩ (.slice (some ⟨w14.heap.size + 1, 0, none⟩) 1 1)).setCell ⟨w.heap.size, 2, none⟩ (.slice Av' nw cv')) := fun W hW => (Frame'.of_below hW).trans (frame3 w17 (w.heap.size) _ _ _)
  have k17 := hS w17 (Below.refl _ _)
  have k16 := hS w16 hb17
  have k14 := hS w14 (Below_trans' hb16 hb16.size hb17)
  have k6 := hS w6 (Below_trans' hb616 hb616.size hb17)
  have kw := below3 hbw17 (Nat.le_refl w.heap.size) (.slice (some ⟨wo.heap.size, 0, none⟩) 1 1) (.slice (some ⟨w14.heap.size + 1, 0, none⟩) 1 1) (.slice Av' nw cv')
  rw [hpath.out]
  have hxI : ∀ z ∈ [x], I64 z := fun z hz => by rw [List.mem_singleton.1 hz]; unfold I64; omega
  refine ⟨ints_lit [x] (k6.has hL6 (by omega)) (by simp) hxI, ragg1 (k16.has hN16 (by omega)) rfl ?_, ?_⟩
  · refine ⟨Ar, nr, cr, _, _, _, _, 1, 1, none, 0, 0, rfl, ?_, ⟨An, nn, cn, Ad, nd, cd, rfl, ?_, ?_⟩, ints_lit [x] (k16.has hL15 (by omega)) (by simp) hxI, RInts.nil_ _⟩
    · exact hr.below below_rat kw
    · exact hn14.frame k14 (fun b hb e => by have := hf14 b (.inl hb); omega)
    · exact hd14.frame k14 (fun b hb e => by have := hf14 b (.inr hb); omega)
  · exact (hT17.frame k17 (fun b hb e => by rcases hft' b hb with h | h; exact h; have := hown.out b h; omega) (fun b hb e => by have := (hT17.lt hb).1; omega)).reads
end Go.Proofs.YtkhclcdmehjfkaaGreat
