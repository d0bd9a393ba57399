/-
  The program's Best and Least.
  The library's Sort, Sorted, Index, Contains, Reverse at numbers of any length; the lot: Of, first, tell, Last.
  The lot: Of, first, tell, Last.
-/
import Derived.Test.YtolbceckbnifmaaGreatW11a
import Derived.Test.YtolbceckbnifmaaGreatFnc
import Derived.Test.YtolbceckbnifmaaGreatW8i
import Derived.Test.YtolbceckbnifmaaGreatShf
import Derived.Lib.OwnBridge
namespace Go.Proofs.YtolbceckbnifmaaGreat
open Go.RowKit Go.Proofs Go.Shelf
attribute [local go_sem] cell?_more cell?_alloc_some cell?_setCell_far frozen?_alloc_some frozen?_more
theorem Own.lit (w : World) (B : Nat) (x : Int) (hB : B ≤ w.heap.size) : Own (w.alloc (.cells #[.int .i64 x] 3)) B (.slice (some ⟨w.heap.size, 0, none⟩) 1 1) [x] := by
  unfold Own
  have := World.ownsRow_lit (base := B) (e := 3) (size := 1) w #[.int .i64 x] 1 hB (by unfold maxLen; omega) (by simp)
  simpa using this

end Go.Proofs.YtolbceckbnifmaaGreat

namespace Go.Proofs.YtolbceckbnifmaaGreat
open Go.RowKit Go.Proofs Go.Shelf
attribute [local go_sem] cell?_more cell?_alloc_some cell?_setCell_far frozen?_alloc_some frozen?_more
theorem sortL_any (B : Nat) (A : Option Addr) (n c : Nat) (xs : List Int) (w : World) (h : Own w B (.slice A n c) xs) (hn : n ≤ 1000) :
    Calls Tryz.prog 70 #[.slice A n c] w (SortPost w B (.slice A n c) xs) := by
  have hlen : xs.length = n := by
    obtain ⟨A', c', e⟩ := h.slice
    cases e; rfl
  by_cases hv : (Value.slice A n c) = .slice none 0 0
  · cases hv
    have hx : xs = [] := List.eq_nil_of_length_eq_zero hlen
    refine (Tryz.slices_Sort_int_none none 0 w).mono ?_
    rintro e w' ⟨rfl, rfl⟩
    exact ⟨rfl, [], by rw [hx] at h; exact h, by rw [hx], List.Pairwise.nil, Frame'.refl _ _⟩
  · have hown : w.ownsRow B 3 1 (.slice A n c) n (xs.map (Value.int .i64)) := by have := h; unfold Own at this; rwa [hlen] at this
    obtain ⟨g, cap, e, hB, hg, hnc, hcm, hxl, hH⟩ := Lib.holds_of_ownsRow hown hv
    cases e
    have hs := Tryz.slices_Sort_int g 0 c xs w hH hg (by omega)
    rw [hlen] at hs
    refine hs.mono ?_
    rintro e w' ⟨rfl, q, os, rfl⟩
    have hp := List.mergeSort_perm xs (fun x y => decide (x ≤ y))
    have hk := Lib.ownsRow_putRow (q := q) (k := n) (ys := xs.mergeSort fun x y => decide (x ≤ y)) hown (by rw [hp.length_eq]; exact hlen) (Nat.le_refl _)
    rw [List.take_of_length_le (by rw [hp.length_eq, hlen]; exact Nat.le_refl _)] at hk
    have hO : Own (Sort.putRow (Value.int .i64) (Sort.ahead w q) g 0 (xs.mergeSort fun x y => decide (x ≤ y)).toArray) B (.slice (some ⟨g, 0, none⟩) n c) (xs.mergeSort fun x y => decide (x ≤ y)) := by
      unfold Own; rw [hp.length_eq, hlen]; exact hk
    have hgrow : ∀ W : World, Below W.heap.size W (Sort.grow W os) := fun W => ⟨rfl, rfl, rfl, by simp, fun k hk => by simp [Sort.grow, Array.getElem?_append, hk]⟩
    have hF : Frame' (fun b => some b = (Value.slice (some ⟨g, 0, none⟩) n c).ownBlock) w (Sort.putRow (Value.int .i64) (Sort.ahead w q) g 0 (xs.mergeSort fun x y => decide (x ≤ y)).toArray) :=
      ⟨rfl, rfl, rfl, by simp [Sort.putRow, Sort.mapBlock, Sort.ahead], fun k hk hne => by
        have hne' : g ≠ k := fun e => hne (by rw [e]; rfl)
        simp [Sort.putRow, Sort.mapBlock, Sort.ahead, Array.getElem?_modify, hne']⟩
    refine ⟨rfl, _, hO.below (hgrow _), hp, ?_, hF.trans (Frame'.of_below (hgrow _))⟩
    have := List.pairwise_mergeSort (le := fun x y : Int => decide (x ≤ y)) (fun a b c h1 h2 => by simp at *; omega) (fun a b => by simp; omega) xs
    exact this.imp fun h => by simpa using h

set_option maxRecDepth 100000 in
theorem sortedL_any (Bs : Nat) (A : Option Addr) (n c : Nat) (xs : List Int) (w : World) (hBs : w.cell? ⟨Bs, 0, none⟩ = some (.slice A n c)) (h : RInts w A n c xs) (hn : n ≤ 1000) :
    Calls Tryz.prog 113 #[.func (.func 142) #[] #[.pointer (some ⟨Bs, 0, none⟩)]] w (SortedPost w xs) := by
  have hcall := collect_any Bs A n c xs w hBs h (by omega)
  have hl := hide h.len
  clear h hBs
  go_enter Tryz.func113, Tryz.ntmps113
  go_wp2_with (first
    | (go_at_call 141; refine hcall.mono ?_; rintro e w1 ⟨v, rfl, hO, hb⟩; obtain ⟨A1, c1, rfl⟩ := hO.slice)
    | (go_at_call 70; refine (sortL_any w.heap.size A1 xs.length c1 xs w1 hO (by rw [hl.out]; exact hn)).mono ?_; rintro e w2 ⟨rfl, ys, hO2, hp, hs, hF⟩))
  go_ret
  exact ⟨A1, c1, ys, rfl, hO2, hp, hs, Frame'.below hb hF (fun k e => (Own.own_lt hO e.symm).1) hb.size⟩

theorem RInts.cells {w : World} {b off n c : Nat} {xs : List Int} (h : RInts w (some ⟨b, off, none⟩) n c xs) : ∀ j, j < xs.length → w.cell? ⟨b, off + j, none⟩ = some (.int .i64 (xs.getD j 0)) := fun j hj => by
  obtain ⟨b', off', e, hc⟩ := h.2.2.2.2 (by have := h.len; omega)
  cases e
  exact hc j (by rw [← h.len]; exact hj)
theorem indexL_any (A : Option Addr) (n c : Nat) (xs : List Int) (x : Int) (w : World) (h : RInts w A n c xs) :
    Calls Tryz.prog 100 #[.slice A n c, .int .i64 x] w fun e w' => e = .returned (.int .i64 (Lib.idxOf xs x)) ∧ w = w' := by
  by_cases h0 : 0 < n
  · obtain ⟨b, off, rfl, _⟩ := h.2.2.2.2 h0
    refine (Tryz.slices_Index_int b off n c xs x w (by rw [h.len]; exact Nat.le_refl _) h.le h.cells).mono ?_
    rintro e w' ⟨rfl, rfl⟩
    exact ⟨by rw [List.take_of_length_le (by rw [h.len]; exact Nat.le_refl _)], rfl⟩
  · obtain rfl : n = 0 := by omega
    have hx : xs = [] := List.eq_nil_of_length_eq_zero h.len
    subst hx
    refine (Tryz.slices_Index_int_empty A c x w).mono ?_
    rintro e w' ⟨rfl, rfl⟩
    exact ⟨rfl, rfl⟩
theorem contains_any (A : Option Addr) (n c : Nat) (xs : List Int) (x : Int) (w : World) (h : RInts w A n c xs) :
    Calls Tryz.prog 102 #[.slice A n c, .int .i64 x] w fun e w' => e = .returned (.bool (inL xs x)) ∧ w = w' := by
  have e0 : ∀ l : List Int, l.contains x = inL l x := fun l => by unfold inL; rw [Bool.eq_iff_iff]; simp
  by_cases h0 : 0 < n
  · obtain ⟨b, off, rfl, _⟩ := h.2.2.2.2 h0
    refine (Tryz.slices_Contains_int b off n c xs x w (by rw [h.len]; exact Nat.le_refl _) h.le h.cells).mono ?_
    rintro e w' ⟨rfl, rfl⟩
    exact ⟨by rw [List.take_of_length_le (by rw [h.len]; exact Nat.le_refl _), e0], rfl⟩
  · obtain rfl : n = 0 := by omega
    have hx : xs = [] := List.eq_nil_of_length_eq_zero h.len
    subst hx
    refine (Tryz.slices_Contains_int_empty A c x w).mono ?_
    rintro e w' ⟨rfl, rfl⟩
    exact ⟨by rw [inL_nil], rfl⟩
theorem idx_bd (xs : List Int) (x : Int) : -1 ≤ Lib.idxOf xs x ∧ Lib.idxOf xs x ≤ (xs.length : Int) := by
  have : ∀ (xs : List Int) (i : Nat), (Lib.idxFrom xs x i = -1 ∨ ((i : Int) ≤ Lib.idxFrom xs x i ∧ Lib.idxFrom xs x i < i + xs.length)) := by
    intro xs
    induction xs with
    | nil => intro i; exact .inl rfl
    | cons a r ih =>
      intro i
      by_cases e : a = x
      · right; simp [Lib.idxFrom, e]; omega
      · simp only [Lib.idxFrom, if_neg e, List.length_cons]
        rcases ih (i + 1) with h | h
        · exact .inl h
        · right; omega
  have h := this xs 0
  unfold Lib.idxOf
  omega
theorem idx_far {pr bs : List Int} {b x : Int} (hx : x ∉ pr) (hm : x ∈ pr ++ b :: bs) : (pr.length : Int) ≤ Lib.idxOf (pr ++ b :: bs) x := by
  have : ∀ (pr : List Int) (i : Nat), x ∉ pr → x ∈ pr ++ b :: bs → ((i + pr.length : Nat) : Int) ≤ Lib.idxFrom (pr ++ b :: bs) x i := by
    intro pr
    induction pr with
    | nil =>
      intro i _ hm
      have : ∀ (l : List Int) (i : Nat), x ∈ l → (i : Int) ≤ Lib.idxFrom l x i := by
        intro l
        induction l with
        | nil => intro i h; simp at h
        | cons a r ih =>
          intro i h
          by_cases e : a = x
          · simp [Lib.idxFrom, e]
          · simp only [Lib.idxFrom, if_neg e]
            have := ih (i + 1) (by rcases List.mem_cons.1 h with h | h; exact absurd h.symm e; exact h)
            omega
      simpa using this _ i hm
    | cons a r ih =>
      intro i hx hm
      have e : a ≠ x := fun e => hx (by rw [e]; exact List.mem_cons_self ..)
      simp only [List.cons_append, Lib.idxFrom, if_neg e, List.length_cons]
      have := ih (i + 1) (fun h => hx (List.mem_cons_of_mem _ h)) (by rcases List.mem_cons.1 (by simpa using hm : x ∈ a :: (r ++ b :: bs)) with h | h; exact absurd h.symm e; exact h)
      omega
  unfold Lib.idxOf
  simpa using this pr 0 hx hm
theorem idx_at {pr bs : List Int} {b : Int} (hb : b ∉ pr) : Lib.idxOf (pr ++ b :: bs) b = pr.length := by
  have : ∀ (pr : List Int) (i : Nat), b ∉ pr → Lib.idxFrom (pr ++ b :: bs) b i = ((i + pr.length : Nat) : Int) := by
    intro pr
    induction pr with
    | nil => intro i _; simp [Lib.idxFrom]
    | cons a r ih =>
      intro i hx
      have e : a ≠ b := fun e => hx (by rw [e]; exact List.mem_cons_self ..)
      simp only [List.cons_append, Lib.idxFrom, if_neg e, List.length_cons]
      rw [ih (i + 1) (fun h => hx (List.mem_cons_of_mem _ h))]
      omega
  simpa [Lib.idxOf] using this pr 0 hb
/-- The one of among that comes first in L. -/
theorem first_find {L among : List Int} {m : Int} (hm : m ∈ among) (hmL : m ∈ L) (hmin : ∀ y ∈ among, Lib.idxOf L m ≤ Lib.idxOf L y) : L.find? (inL among) = some m := by
  cases hf : L.find? (inL among) with
  | none =>
    have := List.find?_eq_none.1 hf m hmL
    exact absurd (inL_iff.2 hm) this
  | some b =>
    obtain ⟨hb, pr, bs, rfl, has⟩ := List.find?_eq_some_iff_append.1 hf
    have hbn : b ∉ pr := fun h => by have := has b h; rw [hb] at this; simp at this
    have hmn : m ∉ pr := fun h => by have := has m h; rw [inL_iff.2 hm] at this; simp at this
    have h1 := hmin b (inL_iff.1 hb)
    rw [idx_at hbn] at h1
    by_cases e : m = b
    · rw [e]
    · exfalso
      have hmn' : m ∉ pr ++ [b] := fun h => by rcases List.mem_append.1 h with h | h; exact hmn h; simp at h; exact e h
      have hsp : pr ++ b :: bs = (pr ++ [b]) ++ bs := by simp
      rw [hsp] at hmL h1
      rcases bs with _ | ⟨d, ds⟩
      · rw [List.append_nil] at hmL; exact hmn' hmL
      · have := idx_far hmn' hmL
        rw [List.length_append] at this
        simp only [List.length_cons, List.length_nil] at this
        omega
end Go.Proofs.YtolbceckbnifmaaGreat

namespace Go.Proofs.YtolbceckbnifmaaGreat
open Go.RowKit Go.Proofs Go.Shelf
attribute [local go_sem] cell?_more cell?_alloc_some cell?_setCell_far frozen?_alloc_some frozen?_more
/-- A count is begun. -/
def OfPost (w : World) (lot : List Int) (e : Ending) (w' : World) : Prop :=
  ∃ g A n c, e = .returned (.pointer (some ⟨g, 0, none⟩)) ∧ Has w' g 96 #[.slice none 0 0, .slice none 0 0, .slice none 0 0, .slice A n c] ∧ Own w' w.heap.size (.slice A n c) lot ∧ w.heap.size ≤ g ∧ (∀ b, (Value.slice A n c).ownBlock = some b → b < g) ∧ Below w.heap.size w w'
theorem cof_any (A : Option Addr) (n c : Nat) (lot : List Int) (w : World) (h : RInts w A n c lot) (hn : n ≤ 1000) :
    Calls Tryz.prog 56 #[.slice A n c] w (OfPost w lot) := by
  have hcall := cloneO_any A n c lot w h (by omega)
  go_enter Tryz.func56, Tryz.ntmps56
  go_wp2_with fail
  refine hcall.mono ?_
  rintro e w1 ⟨A1, c1, rfl, hO, hb⟩
  go_wp2
  go_ret
  have hba : Below w1.heap.size w1 (w1.alloc (.cells #[.slice none 0 0, .slice none 0 0, .slice none 0 0, .slice A1 lot.length c1] 96)) := (Below.refl _ _).alloc (Nat.le_refl _) _
  exact ⟨w1.heap.size, A1, lot.length, c1, rfl, Has.new _ _ _, hO.below hba, hb.size, fun b h => (Own.own_lt hO h).2, Below_trans' hb hb.size hba⟩

set_option maxRecDepth 100000 in
theorem cfirst_any (g : Nat) (x0 x1 x2 : Value) (Al : Option Addr) (nl cl : Nat) (L : List Int) (A : Option Addr) (n c : Nat) (among : List Int) (w : World) (hg : Has w g 96 #[x0, x1, x2, .slice Al nl cl]) (hL : RInts w Al nl cl L) (h : RInts w A n c among) (h0 : 0 < n) (hnl : nl ≤ 1000) :
    Calls Tryz.prog 87 #[.pointer (some ⟨g, 0, none⟩), .slice A n c] w fun e w' => ∃ m, e = .returned (.int .i64 m) ∧ (m ∈ among ∧ ∀ y ∈ among, Lib.idxOf L m ≤ Lib.idxOf L y) ∧ Below w.heap.size w w' := by
  have hb0 : Below w.heap.size w (w.alloc (.cells #[.pointer (some ⟨g, 0, none⟩)] 92)) := (Below.refl _ _).alloc (Nat.le_refl _) _
  have hH0 := Has.new w 92 #[.pointer (some ⟨g, 0, none⟩)]
  have eg2 : ∀ args w, (callFunc 118 args).run Tryz.prog w = .ok (.enter 118 args) w := enters_of Tryz.func118 (by kernel_rfl) rfl
  have hlL := hide hL.len
  go_enter Tryz.func87, Tryz.ntmps87
  generalize hW : World.alloc w _ = W0 at hb0 hH0
  have hmin := minFunc_at 118 eg2 (Lib.idxOf L) (fun x => by have := idx_bd L x; have := hlL.out; omega) #[.pointer (some ⟨w.heap.size, 0, none⟩)] A n c among W0 (h.below hb0) h0 (fun W hb x y => by
    have q0 := (hH0.below hb hH0.lt).cell 0
    have hbw := Below_trans' hb0 hb0.size hb
    have q3 := (hg.below hbw hg.lt).cell 3
    have c1 : ∀ q, Calls Tryz.prog 100 #[.slice Al nl cl, .int .i64 x] (More W q) fun e w'' => e = .returned (.int .i64 (Lib.idxOf L x)) ∧ ∃ q', w'' = More W q' := fun q => more_same (indexL_any Al nl cl L x (More W q) ((hL.below hbw).more q))
    have c2 : ∀ q, Calls Tryz.prog 100 #[.slice Al nl cl, .int .i64 y] (More W q) fun e w'' => e = .returned (.int .i64 (Lib.idxOf L y)) ∧ ∃ q', w'' = More W q' := fun q => more_same (indexL_any Al nl cl L y (More W q) ((hL.below hbw).more q))
    have bx := idx_bd L x
    have by' := idx_bd L y
    have hll := hlL.out
    clear hW
    go_enter Tryz.func118, Tryz.ntmps118
    go_wp2
    refine wp_region_more (by kernel_rfl) (by kernel_rfl) ?_
    repeat (go_big_quiet_step (with_reducible first | exact c1 _ | exact c2 _))
    refine wpQuiet_nil ?_
    rintro w5 ⟨q5, hw5⟩
    have hbw5 := below_of_eq hw5
    clear hw5 q5
    go_wp2
    go_ret
    exact ⟨rfl, hbw5⟩)
  go_wp2_with fail
  try rw [hW]
  clear hW
  refine hmin.mono ?_
  rintro e w1 ⟨m, rfl, hm, hb1⟩
  go_wp2
  go_ret
  exact ⟨m, rfl, hm, Below_trans' hb0 hb0.size hb1⟩

/-- A tie is told. -/
def TellPost (w : World) (g B : Nat) (el rn vt vl : Value) (fp : Nat → Prop) (ts : List Row) (among : List Int) (x : Int) (e : Ending) (w' : World) : Prop :=
  e = .returned (.int .i64 x) ∧ ∃ vt' fp', Has w' g 96 #[el, rn, vt', vl] ∧ OAgg ETie 110 2 fp' w' B vt' (tiedS ts among x) ∧ (∀ b, fp' b → fp b ∨ w.heap.size ≤ b) ∧ (vt'.ownBlock = vt.ownBlock ∨ ∃ b, vt'.ownBlock = some b ∧ w.heap.size ≤ b) ∧
    Frame' (fun b => b = g ∨ vt.ownBlock = some b) w w'
theorem TellPost.start {w w0 : World} {g B : Nat} {el rn vt vl : Value} {fp : Nat → Prop} {ts : List Row} {among : List Int} {x : Int} {e : Ending} {w' : World} (hb : Below w0.heap.size w0 w) (h : TellPost w g B el rn vt vl fp ts among x e w') : TellPost w0 g B el rn vt vl fp ts among x e w' := by
  obtain ⟨h1, vt', fp', h2, h3, h4, h5, h6⟩ := h
  exact ⟨h1, vt', fp', h2, h3, fun b hb' => (h4 b hb').imp id fun h => Nat.le_trans hb.size h, h5.imp id fun ⟨b, e, h⟩ => ⟨b, e, Nat.le_trans hb.size h⟩, (Frame'.of_below hb).trans h6⟩
set_option maxRecDepth 100000 in
theorem tell_any (g B : Nat) (el rn vt vl : Value) (fp : Nat → Prop) (ts : List Row) (A : Option Addr) (n c : Nat) (among : List Int) (x : Int) (w : World) (hg : Has w g 96 #[el, rn, vt, vl]) (hB : B ≤ w.heap.size) (hO : OAgg ETie 110 2 fp w B vt ts)
    (hgf : ¬ fp g) (hgv : vt.ownBlock ≠ some g) (h : RInts w A n c among) (hn : n ≤ 1000) (hs : among.Pairwise (· ≤ ·)) (hx : I64 x) (hts : ts.length ≤ 1000) :
    Calls Tryz.prog 86 #[.pointer (some ⟨g, 0, none⟩), .slice A n c, .int .i64 x] w (TellPost w g B el rn vt vl fp ts among x) := by
  have hl := h.len
  by_cases h2 : 1 < n
  · have f1 : (1 : Int) < (n : Int) := by omega
    have e : Hid (tiedS ts among x = ts ++ [(among, x)]) := by unfold tiedS; exact if_neg (by omega)
    have hcl := cloneO_any A n c among w h (by omega)
    have hbd := hide (fun y (hy : y ∈ among) => h.bd hy)
    have hxx := hide hx
    have Hs := hide hs
    have hln := hide hl
    have Hgf := hide hgf
    have Hgv := hide hgv
    clear hx hs hgf hgv hl
    go_enter Tryz.func86, Tryz.ntmps86
    go_wp2_with fail
    refine hcl.mono ?_
    rintro e1 w1 ⟨A1, c1, rfl, hO1, hb1⟩
    go_wp2_with fail
    refine (sortL_any w.heap.size A1 among.length c1 among w1 hO1 (by have := hln.out; omega)).mono ?_
    rintro e2 w2 ⟨rfl, ys, hO2, hpm, hso, hF⟩
    obtain rfl : among = ys := (List.Perm.eq_of_pairwise (fun a b _ _ h h' => Int.le_antisymm h h') hso Hs.out hpm).symm
    have hb2 : Below w.heap.size w w2 := Frame'.below hb1 hF (fun k e => (Own.own_lt hO1 e.symm).1) hb1.size
    have hR2 := hO2.ints hbd.out
    have hnew := hide hO2.new
    have hg2 := hg.below hb2 hg.lt
    have hOt := hO.below hb2
    have hba : Below w2.heap.size w2 (w2.alloc (.cells #[.slice A1 among.length c1, .int .i64 x] 110)) := (Below.refl _ _).alloc (Nat.le_refl _) _
    have hfresh : ∀ b, fpS A1 among.length b → w.heap.size ≤ b := fun b hb => by
      obtain ⟨h0, off, e⟩ := hb
      obtain ⟨b', off', e', hB'⟩ := hnew.out h0
      rw [e] at e'; cases e'; exact hB'
    obtain ⟨v', w', h41, h42, h43, h44⟩ := run_appAgg infoTie Tryz.underlying37 rfl (by decide) (by decide) 37 (hOt.below hba) (cells2 (Has.new w2 110 #[.slice A1 among.length c1, .int .i64 x])) rfl (by simp [Value.oneCell'])
      ((hR2.on.imp (R' := fun W => ETie W [.slice A1 among.length c1, .int .i64 x] (among, x)) fun W hW => ⟨A1, among.length, c1, rfl, hW, hxx.out⟩).below hba) (fun b hv hx => by have := hO.lt hv; have := hfresh b hx; omega) (by omega) (by have := hb2.size; simp; omega)
    have hga := hg2.alloc (.cells #[.slice A1 among.length c1, .int .i64 x] 110)
    have hg' : Has w' g 96 #[el, rn, vt, vl] := (h43.block g hga.lt (fun e => Hgv.out e.symm)).trans hga
    have q2 := hg2.cell 2
    have p2 := hg'.cell 2
    have p3 := hg'.free 2
    have Hfresh := hide hfresh
    have hvg : Hid (v'.ownBlock ≠ some g) := by
      unfold Hid
      rcases h44 with h | h
      · rw [h]; exact Hgv.out
      · rw [h]; intro e; have e' := Option.some.inj e; have h1 := hg2.lt; rw [World.size_alloc] at e'; omega
    have h44' : Hid (v'.ownBlock = vt.ownBlock ∨ ∃ b, v'.ownBlock = some b ∧ w.heap.size ≤ b) := h44.imp id fun h => ⟨_, h, by have := hb2.size; simp; omega⟩
    have hFr : Frame' (fun b => b = g ∨ vt.ownBlock = some b) w w' := (Frame'.of_below hb2).trans ((Frame'.of_below hba).trans ((Frame'.of_grown h43).mono fun k _ hb => .inr hb.symm))
    obtain ⟨At, ct, rfl⟩ := hOt.slice
    obtain ⟨Av, nv, cv, rfl⟩ : ∃ Av nv cv, v' = .slice Av nv cv := let ⟨A, c, e⟩ := h42.slice; ⟨A, _, c, e⟩
    clear hF h44 h43 hg2 hga hba hb1 hb2 hfresh hcl
    go_wp2_with (at_builtin; refine list_app rfl rfl rfl rfl h41 ?_)
    clear h41
    go_wp2
    go_ret
    have hset : Frame' (fun b => b = g) w' (w'.setCell ⟨g, 2, none⟩ (.slice Av nv cv)) := (Frame'.refl (fun b => b = g) w').setCell (p := ⟨g, 2, none⟩) (.inl rfl) _
    have hfin := h42.frame hset (fun b hb e => by
      subst e
      rcases hb with hb | hb
      · exact Hgf.out hb
      · have := Hfresh.out b hb; have := hg.lt; omega) (fun b hb e => by subst e; exact hvg.out hb)
    exact ⟨rfl, _, (fun b => fp b ∨ fpS A1 among.length b), hg'.put 2 _, by rw [e.out]; exact hfin, fun b hb => hb.imp id (Hfresh.out b), h44'.out, hFr.trans (hset.mono fun k _ h => .inl h)⟩
  · have f1 : ¬ (1 : Int) < (n : Int) := by omega
    have e : Hid (tiedS ts among x = ts) := by unfold tiedS; exact if_pos (by omega)
    go_enter Tryz.func86, Tryz.ntmps86
    go_wp2
    go_ret
    exact ⟨rfl, vt, fp, hg, by rw [e.out]; exact hO, fun b hb => .inl hb, .inl rfl, Frame'.refl _ _⟩

end Go.Proofs.YtolbceckbnifmaaGreat
