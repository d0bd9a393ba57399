/-
  The closures of Keep; the library's IndexFunc and DeleteFunc at them.
  The library's DeleteFunc at Keep's closure, on a slice that the call owns.
  The program's Keep, of a ballot.
-/
import Derived.Test.YthkkadmgcicedaaGreatW9f
import Derived.Lib.SliceRun
import Derived.Shelf.Abstract
import Derived.Deep.RegionHeld3
namespace Go.Proofs.YthkkadmgcicedaaGreat
open Go.RowKit Go.Proofs Go.Shelf
attribute [local go_sem] cell?_more cell?_alloc_some cell?_setCell_far frozen?_alloc_some frozen?_more

/-- The slice value (A, n, c) reads as the truth values bs in the world w. -/
def RBools (w : World) (A : Option Addr) (n c : Nat) (bs : List Bool) : Prop :=
  bs.length = n ∧ n ≤ c ∧ c ≤ 9223372036854775807 ∧ (0 < n → ∃ b off, A = some ⟨b, off, none⟩ ∧ ∀ i, i < n → w.cell? ⟨b, off + i, none⟩ = some (.bool (bs.getD i false)))

theorem RBools.below {w w' : World} {A : Option Addr} {n c : Nat} {bs : List Bool} (h : RBools w A n c bs) (hb : Below w.heap.size w w') : RBools w' A n c bs :=
  ⟨h.1, h.2.1, h.2.2.1, fun hn => let ⟨b, off, e, hc⟩ := h.2.2.2 hn; ⟨b, off, e, fun i hi => keep_cell hb (hc i hi)⟩⟩
theorem RBools.frame {S : Nat → Prop} {w w' : World} {A : Option Addr} {n c : Nat} {bs : List Bool} (h : RBools w A n c bs) (k : Frame' S w w') (hA : 0 < n → ∃ b off, A = some ⟨b, off, none⟩ ∧ ¬ S b) : RBools w' A n c bs := by
  refine ⟨h.1, h.2.1, h.2.2.1, fun hn => ?_⟩
  obtain ⟨b, off, e, hc⟩ := h.2.2.2 hn
  obtain ⟨b', off', e', hS⟩ := hA hn
  have : b' = b := by rw [e] at e'; cases e'; rfl
  subst this
  refine ⟨b', off, e, fun i hi => ?_⟩
  rw [World.cell?_of_block (w := w) (k.block b' (World.block_lt_of_cell? w _ (hc i hi)) hS)]
  exact hc i hi

/-- Is x left? -/
def isS (bs : List Bool) (x : Int) : Bool := inR 0 bs.length x && bs.getD x.toNat false

theorem keep1_any (x : Int) (bl : Nat) (A : Option Addr) (n c : Nat) (bs : List Bool) (w : World) (hc : w.cell? ⟨bl, 0, none⟩ = some (.slice A n c)) (h : RBools w A n c bs) :
    Calls Tryz.prog 64 #[.int .i64 x, .pointer (some ⟨bl, 0, none⟩)] w fun e w' => e = .returned (.bool (isS bs x)) ∧ w = w' := by
  have hlen := h.1
  have hle : n ≤ 9223372036854775807 := Nat.le_trans h.2.1 h.2.2.1
  by_cases hx : 0 ≤ x ∧ x < n
  · have hr : Hid (isS bs x = bs.getD x.toNat false) := by
      unfold Hid isS; rw [inR_iff.2 (by omega)]; rfl
    have hin : inR 0 n x = true := inR_iff.2 (by omega)
    obtain ⟨X, rfl⟩ : ∃ X : Nat, x = X := ⟨x.toNat, by omega⟩
    obtain ⟨b, off, rfl, hcell⟩ := h.2.2.2 (by omega)
    have hX : X < n := by omega
    have hcx := hcell X hX
    clear hcell h hlen
    go_enter Tryz.func64, Tryz.ntmps64
    go_wp2_with (go_at_call 65; refine (within8 _ _ _ _).mono ?_; rintro e w' ⟨rfl, rfl⟩; rw [hin])
    go_ret
    exact ⟨ret_b (by rw [hr.out]; simp), rfl⟩
  · have hr : Hid (isS bs x = false) := by
      unfold Hid isS
      rw [show inR 0 bs.length x = false from Bool.eq_false_iff.2 fun h => hx (by have := inR_iff.1 h; omega)]
      rfl
    have hin : inR 0 n x = false := Bool.eq_false_iff.2 fun h => hx (inR_iff.1 h)
    clear h hlen hx
    go_enter Tryz.func64, Tryz.ntmps64
    go_wp2_with (go_at_call 65; refine (within8 _ _ _ _).mono ?_; rintro e w' ⟨rfl, rfl⟩; rw [hin])
    go_ret
    exact ⟨ret_b (by rw [hr.out]), rfl⟩

/-- Is x gone? The second closure holds the first. -/
theorem keep2_any (x : Int) (bf bl : Nat) (A : Option Addr) (n c : Nat) (bs : List Bool) (w : World) (hf : w.cell? ⟨bf, 0, none⟩ = some (.func (.func 64) #[] #[.pointer (some ⟨bl, 0, none⟩)]))
    (hc : w.cell? ⟨bl, 0, none⟩ = some (.slice A n c)) (h : RBools w A n c bs) :
    Calls Tryz.prog 66 #[.int .i64 x, .pointer (some ⟨bf, 0, none⟩)] w fun e w' => e = .returned (.bool (!isS bs x)) ∧ w = w' := by
  have eg : ∀ args w, (callFunc 64 args).run Tryz.prog w = .ok (.enter 64 args) w := enters_of Tryz.func64 (by kernel_rfl) rfl
  have hcall := keep1_any x bl A n c bs w hc h
  clear h
  go_enter Tryz.func66, Tryz.ntmps66
  go_wp2_with (go_at_fn 64; refine hcall.mono ?_; rintro e w' ⟨rfl, rfl⟩)
  go_ret
  exact ⟨rfl, rfl⟩

/-- The place of the first that is p, counted from k; -1 if there is none. -/
def firstS (p : Int → Bool) : List Int → Int → Int
  | [], _ => -1
  | y :: r, k => if p y = true then k else firstS p r (k + 1)

theorem firstS_spec (p : Int → Bool) : ∀ (l : List Int) (k : Int), (firstS p l k = -1 ∧ ∀ x ∈ l, p x = false) ∨ ∃ i : Nat, i < l.length ∧ firstS p l k = k + i ∧ (l.take (i + 1)).filter (fun x => !p x) = l.take i
  | [], k => .inl ⟨rfl, by simp⟩
  | y :: r, k => by
    cases hy : p y with
    | true => exact .inr ⟨0, by simp, by simp [firstS, hy], by simp [hy]⟩
    | false =>
      rcases firstS_spec p r (k + 1) with ⟨e, h⟩ | ⟨i, hi, e, h⟩
      · exact .inl ⟨by simp [firstS, hy, e], fun x hx => by rcases List.mem_cons.1 hx with rfl | hx; exact hy; exact h x hx⟩
      · exact .inr ⟨i + 1, by simp; omega, by simp [firstS, hy, e]; omega, by simp [hy]; simpa using h⟩

theorem indexFunc_any (p : Int → Bool) (lb : Array Value) (A : Option Addr) (n c : Nat) (xs : List Int) (w : World) (h : RInts w A n c xs)
    (hp : ∀ x, Calls Tryz.prog 66 (#[.int .i64 x] ++ lb) w fun e w' => e = .returned (.bool (p x)) ∧ w = w') :
    Calls Tryz.prog 86 #[.slice A n c, .func (.func 66) #[] lb] w fun e w' => e = .returned (.int .i64 (firstS p xs 0)) ∧ w = w' := by
  have eg : ∀ args w, (callFunc 66 args).run Tryz.prog w = .ok (.enter 66 args) w := enters_of Tryz.func66 (by kernel_rfl) rfl
  have hn := h.le
  have Hp := hide hp
  clear hp
  go_enter Tryz.func86, Tryz.ntmps86
  go_wp2
  go_loop [5, 8] (fun s5 i => ∃ k : Nat, k ≤ n ∧ i = .int .i64 k ∧ Hid (firstS p xs 0 = firstS p (xs.drop k) k)) (fun s5 i => n - (intOf i).toNat)
  case atStart => exact ⟨0, Nat.zero_le _, rfl, by simp [Hid]⟩
  case round =>
    obtain ⟨k, hk, rfl, hq⟩ := hrel
    by_cases hlt : k < n
    · obtain ⟨b, off, v, rfl, hc, hd, _⟩ := h.step hlt
      have hcall := Hp.out v
      cases hv : p v with
      | true =>
        rw [hv] at hcall
        have Hv := hide hv
        clear hv
        go_wp2_with (go_at_fn 66; refine hcall.mono ?_; rintro e w' ⟨rfl, rfl⟩)
        go_ret
        exact ⟨ret_i (by rw [hq.out, hd.out]; simp [firstS, Hv.out]), rfl⟩
      | false =>
        rw [hv] at hcall
        have Hv := hide hv
        clear hv
        go_wp2_with (go_at_fn 66; refine hcall.mono ?_; rintro e w' ⟨rfl, rfl⟩)
        go_round
        case rel => exact ⟨k + 1, by omega, by go_num, by unfold Hid; rw [hq.out, hd.out]; simp [firstS, Hv.out]⟩
        case measure => simp [intOf] <;> omega
    · have hd := hide (h.done hlt)
      go_wp2
      go_ret
      exact ⟨ret_i (by rw [hq.out, hd.out]; simp [firstS]), rfl⟩
end Go.Proofs.YthkkadmgcicedaaGreat

namespace Go.Proofs.YthkkadmgcicedaaGreat
open Go.RowKit Go.Proofs Go.Shelf
attribute [local go_sem] cell?_more cell?_alloc_some cell?_setCell_far frozen?_alloc_some frozen?_more

theorem zero3 (w : World) : (zeroValue 3).run Tryz.prog w = .ok (.int .i64 0) w := by
  obtain ⟨i0, hi, hz0, hz1, hz2⟩ := info_parts info3
  simp [zeroValue, typeInfo, hi, hz0]

theorem owns_setCells {B g n cap : Nat} {e : TypeId} : ∀ (vs : List Value) (o : Nat) (w : World) (xs : List Value), w.ownsRow B e 1 (.slice (some ⟨g, 0, none⟩) n cap) n xs →
    ∃ ys, (w.setCells g o vs).ownsRow B e 1 (.slice (some ⟨g, 0, none⟩) n cap) n ys ∧ (∀ i, i ≤ o → ys.take i = xs.take i) ∧ Frame' (fun b => b = g) w (w.setCells g o vs)
  | [], o, w, xs, h => ⟨xs, h, fun _ _ => rfl, Frame'.refl _ _⟩
  | v :: r, o, w, xs, h => by
    obtain ⟨ys, h1, h2, h3⟩ := owns_setCells r (o + 1) _ _ (h.stored o v).1
    refine ⟨ys, h1, fun i hi => ?_, ((Frame'.refl (fun b => b = g) w).setCell (p := ⟨g, o, none⟩) (.inl rfl) v).trans h3⟩
    rw [h2 i (by omega), List.take_set_of_le (by omega)]
theorem Own.cut {w : World} {B g n cap i : Nat} {xs : List Int} (h : Own w B (.slice (some ⟨g, 0, none⟩) n cap) xs) (hi : i ≤ n) : Own w B (.slice (some ⟨g, 0, none⟩) i cap) (xs.take i) := by
  obtain ⟨h1, h2⟩ := h
  rcases h2 with ⟨e, _⟩ | ⟨g', cap', cur, e, hB, hg, hn, hc, hs, ht⟩
  · cases e
  · cases e
    have hl : (xs.take i).length = i := by simp; omega
    refine ⟨by simp, .inr ⟨g, cap, cur, by rw [hl], hB, hg, by omega, hc, hs, ?_⟩⟩
    rw [hl, List.map_take, ← ht, List.take_take]
    congr 1
    omega

/-- What DeleteFunc leaves. -/
def DelPost (w : World) (B : Nat) (v : Value) (ys : List Int) (e : Ending) (w' : World) : Prop :=
  ∃ A n c, e = .returned (.slice A n c) ∧ Own w' B (.slice A n c) ys ∧ (Value.slice A n c).ownBlock = v.ownBlock ∧ Frame' (fun b => some b = v.ownBlock) w w'

set_option maxRecDepth 100000 in
set_option maxHeartbeats 2000000 in
theorem deleteFunc_any (p : Int → Bool) (lb : Array Value) (B : Nat) (A : Option Addr) (n c : Nat) (xs : List Int) (w : World) (h : Own w B (.slice A n c) xs) (hx : ∀ x ∈ xs, -9223372036854775808 ≤ x ∧ x ≤ 9223372036854775807)
    (hp : ∀ W, Frame' (fun b => some b = (Value.slice A n c).ownBlock) w W → ∀ x, Calls Tryz.prog 66 (#[.int .i64 x] ++ lb) W fun e w' => e = .returned (.bool (p x)) ∧ W = w') :
    Calls Tryz.prog 60 #[.slice A n c, .func (.func 66) #[] lb] w (DelPost w B (.slice A n c) (xs.filter fun x => !p x)) := by
  have eg : ∀ args w, (callFunc 66 args).run Tryz.prog w = .ok (.enter 66 args) w := enters_of Tryz.func66 (by kernel_rfl) rfl
  have hr := h.ints hx
  have hle := hr.le
  have hlen := hide hr.len
  have hcall := indexFunc_any p lb A n c xs w hr (hp w (Frame'.refl _ _))
  have Hp := hide hp
  have Hr := hide hr
  have Hh := hide h
  rcases firstS_spec p xs 0 with ⟨e1, hall⟩ | ⟨i0, hi0, e1, hf0⟩
  · have hf : Hid ((xs.filter fun x => !p x) = xs) := by
      unfold Hid
      rw [List.filter_eq_self]
      intro x hx
      rw [hall x hx]; rfl
    rw [e1] at hcall
    clear hp hr h e1 hall hx
    go_enter Tryz.func60, Tryz.ntmps60
    go_wp2_with (go_at_call 86; refine hcall.mono ?_; rintro e w' ⟨rfl, rfl⟩)
    go_ret
    exact ⟨A, n, c, rfl, by rw [hf.out]; exact Hh.out, rfl, Frame'.refl _ _⟩
  · rw [show (0 : Int) + i0 = i0 by omega] at e1
    rw [e1] at hcall
    rw [hr.len] at hi0
    obtain ⟨g, rfl⟩ : ∃ g, A = some ⟨g, 0, none⟩ := by
      rcases h.2 with ⟨_, e⟩ | ⟨g, cap, cur, e, _⟩
      · rw [hr.len] at e; omega
      · cases e; exact ⟨g, rfl⟩
    have hne : ((i0 : Int) == -1) = false := beq_eq_false_iff_ne.2 (by omega)
    have hnc : n ≤ c := hr.2.1
    have hcm : c ≤ 9223372036854775807 := hr.2.2.1
    have hF0 := hide hf0
    clear hp hr h e1 hx hf0
    go_enter Tryz.func60, Tryz.ntmps60
    go_wp2_with (go_at_call 86; refine hcall.mono ?_; rintro e w' ⟨rfl, rfl⟩)
    clear hcall
    go_loopw [5, 6, 7] (fun s5 s6 s7 wr => ∃ (i j : Nat) (ys : List Int), i < j ∧ j ≤ n ∧ s5 = .int .i64 i ∧ s6 = .int .i64 j ∧ Hid (ys.length = n) ∧ Hid (ys.take i = (xs.take j).filter fun x => !p x) ∧ Hid (ys.drop j = xs.drop j) ∧ Hid (Own wr B (.slice (some ⟨g, 0, none⟩) n c) ys) ∧ Hid (Frame' (fun b => some b = (Value.slice (some ⟨g, 0, none⟩) n c).ownBlock) w wr)) (fun s5 s6 s7 _ => n - (intOf s6).toNat)
    case atStart => exact ⟨i0, i0 + 1, xs, by omega, by omega, rfl, by go_num, hlen, hF0.out.symm, rfl, Hh, Frame'.refl _ _⟩
    case round =>
      obtain ⟨i, j, ys, hij, hj, rfl, rfl, hyl, hyt, hyd, hO, hF⟩ := hrel
      have hown : wr.ownsRow B 3 1 (.slice (some ⟨g, 0, none⟩) n c) n (ys.map (Value.int .i64)) := by have := hO.out; unfold Own at this; rwa [hyl.out] at this
      by_cases hlt : j < n
      · have hxj : xs[j]? = some (xs[j]'(by rw [hlen.out]; exact hlt)) := List.getElem?_eq_getElem _
        generalize (xs[j]'(by rw [hlen.out]; exact hlt)) = v at hxj
        have hyj : ys[j]? = some v := by
          have := congrArg (·[0]?) hyd.out
          simpa [List.getElem?_drop, hxj] using this
        have hcj : wr.cell? ⟨g, j, none⟩ = some (.int .i64 v) := by rw [hown.cellAt j (by omega), List.getElem?_map, hyj]; rfl
        obtain ⟨u, hci⟩ : ∃ u, wr.cell? ⟨g, i, none⟩ = some (.int .i64 u) := by
          have hil : i < ys.length := by rw [hyl.out]; omega
          exact ⟨ys[i], by rw [hown.cellAt i (by omega), List.getElem?_map, List.getElem?_eq_getElem hil]; rfl⟩
        have hfi := hown.frozenAt i
        have hcall := Hp.out wr hF.out v
        have Hxj := hide hxj
        have Hown := hide hown
        have htk : Hid (xs.take (j + 1) = xs.take j ++ [v]) := by unfold Hid; rw [List.take_add_one, hxj]; rfl
        have hdk : Hid (ys.drop (j + 1) = xs.drop (j + 1)) := by
          have := congrArg (List.drop 1) hyd.out
          unfold Hid
          simpa [List.drop_drop] using this
        clear hxj hown hyj
        cases hv : p v with
        | true =>
          rw [hv] at hcall
          have Hv := hide hv
          clear hv
          go_wp2_with (go_at_fn 66; refine hcall.mono ?_; rintro e w' ⟨rfl, rfl⟩)
          go_roundw
          case rel => exact ⟨i, j + 1, ys, by omega, by omega, rfl, by go_num, hyl, by unfold Hid; rw [hyt.out, htk.out]; simp [Hv.out], hdk, hO, hF⟩
          case measure => simp [intOf] <;> omega
        | false =>
          rw [hv] at hcall
          have Hv := hide hv
          clear hv
          go_wp2_with (go_at_fn 66; refine hcall.mono ?_; rintro e w' ⟨rfl, rfl⟩)
          go_roundw
          case rel =>
            refine ⟨i + 1, j + 1, ys.set i v, by omega, by omega, by go_num, by go_num, by unfold Hid; rw [List.length_set]; exact hyl.out, ?_, ?_, ?_, Frame'.setCell (p := ⟨g, i, none⟩) hF.out (.inl rfl) _⟩
            · unfold Hid
              have hil : i < ys.length := by rw [hyl.out]; omega
              rw [List.take_add_one, List.getElem?_set_self hil, List.take_set_of_le (Nat.le_refl _), hyt.out, htk.out]
              simp [Hv.out]
            · unfold Hid
              rw [List.drop_set, if_pos (by omega)]
              exact hdk.out
            · unfold Hid Own
              rw [List.length_set, hyl.out, List.map_set]
              exact (Hown.out.stored i _).1
          case measure => simp [intOf] <;> omega
      · have hjn : j = n := by omega
        have hfin : Hid ((xs.filter fun x => !p x) = ys.take i) := by
          unfold Hid
          rw [hyt.out, hjn, List.take_of_length_le (by rw [hlen.out]; exact Nat.le_refl _)]
        have hcl : ∀ ty, (Builtin.clear_ #[25] ty #[.slice (some ⟨g, i, none⟩) (n - i) (c - i)]).run Tryz.prog wr = .ok (.tuple #[]) (wr.setCells g i (List.replicate (n - i) (.int .i64 0))) :=
          fun ty => Lib.run_clear_slice wr _ 3 ty _ Tryz.underlying25 zero3 rfl rfl g i _ _ (by omega) (fun t ht => by
            have hil : i + t < ys.length := by rw [hyl.out]; omega
            rw [hown.cellAt (i + t) (by omega), List.getElem?_map, List.getElem?_eq_getElem hil]; rfl) (fun t ht => hown.frozenAt (i + t))
        have Hown := hide hown
        clear hown
        subst hjn
        clear hlt
        go_wp2
        go_ret
        obtain ⟨zs, h1, h2, h3⟩ := owns_setCells (List.replicate (j - i) (.int .i64 0)) i wr _ Hown.out
        refine ⟨some ⟨g, 0, none⟩, i, c, rfl, ?_, rfl, hF.out.trans (h3.mono fun k _ e => by rw [e]; rfl)⟩
        rw [hfin.out]
        have e := h2 i (Nat.le_refl _)
        obtain ⟨k1, k2⟩ := h1
        rcases k2 with ⟨e', _⟩ | ⟨g', cap', cur, e', hB, hg, hn, hc, hs, ht⟩
        · cases e'
        · cases e'
          have hl : (ys.take i).length = i := by rw [List.length_take, hyl.out]; omega
          refine ⟨by simp, .inr ⟨g, c, cur, by rw [hl], hB, hg, by omega, hc, hs, ?_⟩⟩
          rw [hl, List.map_take, ← e, ← ht, List.take_take]
          congr 1
          omega
end Go.Proofs.YthkkadmgcicedaaGreat

namespace Go.Proofs.YthkkadmgcicedaaGreat
open Go.RowKit Go.Proofs Go.Shelf
attribute [local go_sem] cell?_more cell?_alloc_some cell?_setCell_far frozen?_alloc_some frozen?_more

@[local go_sem] theorem st_func {P : Program} {w : World} {a : Addr} {m : Mode} (fn : Fn) (first captured : Array Value) : (store a (.func fn first captured) m).run P w = stored P w a (.func fn first captured) m := run_store P w a _ m rfl

/-- What Clone leaves, as something owned. -/
def CloneO (w : World) (xs : List Int) (e : Ending) (w' : World) : Prop :=
  ∃ A c, e = .returned (.slice A xs.length c) ∧ Own w' w.heap.size (.slice A xs.length c) xs ∧ Below w.heap.size w w'

theorem cloneO_any (A : Option Addr) (n c : Nat) (xs : List Int) (w : World) (h : RInts w A n c xs) (hn : n ≤ 1000000) :
    Calls Tryz.prog 50 #[.slice A n c] w (CloneO w xs) := by
  have hl := hide h.len
  cases A with
  | none =>
    have h0 : n = 0 := by
      by_cases e : 0 < n
      · obtain ⟨b, off, e', _⟩ := h.2.2.2.2 e; cases e'
      · omega
    have hx : Hid (xs = []) := List.eq_nil_of_length_eq_zero (by rw [hl.out]; exact h0)
    subst h0
    have he := fun W : World => Lib.run_eql_slice_nil (P := Tryz.prog) W 25 3 none 0 c 0 0 Tryz.underlying25
    go_enter Tryz.func50, Tryz.ntmps50
    go_wp2
    go_ret
    exact ⟨none, 0, by rw [hl.out]; rfl, by rw [hx.out]; exact Own.nil_ _ _, Below.refl _ _⟩
  | some ad =>
    have he := fun W : World => Lib.run_eql_slice_nil (P := Tryz.prog) W 25 3 (some ad) n c 0 0 Tryz.underlying25
    have h' := h.below ((Below.refl w.heap.size w).alloc (Nat.le_refl _) (.cells #[] 3))
    have hown : Own (w.alloc (.cells #[] 3)) w.heap.size (.slice (some ⟨w.heap.size, 0, none⟩) 0 0) [] := World.ownsRow_made w #[] 0 (Nat.le_refl _) (by unfold maxLen; omega) rfl
    go_enter Tryz.func50, Tryz.ntmps50
    go_wp2_with (at_builtin; refine appInts rfl rfl rfl hown rfl h' (by simp; omega) (by simp) ?_)
    intro v' w' h1 h2 _
    go_wp2
    go_ret
    have hb : Below w.heap.size w w' := ((Below.refl w.heap.size w).alloc (Nat.le_refl _) (.cells #[] 3)).grown h2 (by simp) (fun k hk => by cases hk; exact Nat.le_refl _)
    obtain ⟨A', c', rfl⟩ := h1.slice
    exact ⟨A', c', rfl, h1, hb⟩

/-- The marks of a ballot of kind k that are left. -/
def keptS (k : Int) (ms : List Int) (bs : List Bool) : List Int :=
  if k = 1 ∨ k = 2 then ms.filter fun x => isS bs x
  else if k = 3 then (List.range ms.length).map fun i : Nat => if isS bs i = true then ms.getD i 0 else 0
  else ms

theorem infoBal : (Tryz.prog.info? 76).map (·.size) = some 2 := by kernel_rfl
/-- A function hands back a ballot that lies in its result's variable. -/
theorem retBal {fn : Func} {R : Ending → World → Prop} {a : Act} {w : World} {p g : Nat} {C : Array Value} (hr : fn.results = #[.cell p 76]) (hp : a.tmps.getD p undef = .pointer (some ⟨g, 0, none⟩))
    (hg : Has w g 76 C) (hs : C.size = 2) (hd : a.defers = []) (hR : R (.returned (.agg C)) w) : bodyPost Tryz.prog fn R .ret a w :=
  bodyPost_ret (results_cell_row hr _ _ g _ C _ _ hp hg Tryz.underlying76 rfl (infoBal.trans (by rw [hs]))) hd hR
theorem put2 {w : World} {g : Nat} {t : TypeId} {x y x' y' : Value} (h : Has w g t #[x, y]) : Has ((w.setCell ⟨g, 0, none⟩ x').setCell ⟨g, 1, none⟩ y') g t #[x', y'] := (h.put 0 x').put 1 y'
theorem frame2 (w : World) (g : Nat) (x y : Value) : Frame' (fun b => b = g) w ((w.setCell ⟨g, 0, none⟩ x).setCell ⟨g, 1, none⟩ y) :=
  ((Frame'.refl (fun b => b = g) w).setCell (p := ⟨g, 0, none⟩) (.inl rfl) x).setCell (p := ⟨g, 1, none⟩) (.inl rfl) y
theorem below2 {B : Nat} {a w : World} (h : Below B a w) {g : Nat} (hg : B ≤ g) (x y : Value) : Below B a ((w.setCell ⟨g, 0, none⟩ x).setCell ⟨g, 1, none⟩ y) :=
  (h.setCell (p := ⟨g, 0, none⟩) hg x).setCell (p := ⟨g, 1, none⟩) hg y
theorem Own.frame {S : Nat → Prop} {w w' : World} {B : Nat} {v : Value} {xs : List Int} (h : Own w B v xs) (k : Frame' S w w') (hS : ∀ b, v.ownBlock = some b → ¬ S b) : Own w' B v xs := owns_frame h k hS
theorem Own.own_lt {w : World} {B : Nat} {v : Value} {xs : List Int} (h : Own w B v xs) {b : Nat} (hb : v.ownBlock = some b) : B ≤ b ∧ b < w.heap.size := World.ownsRow.lt h b hb

theorem Own.mono {w : World} {B B' : Nat} {v : Value} {xs : List Int} (h : Own w B v xs) (hB : B' ≤ B) : Own w B' v xs := by
  obtain ⟨h1, h2⟩ := h
  refine ⟨h1, ?_⟩
  rcases h2 with h2 | ⟨g, cap, cur, e, hb, r⟩
  · exact .inl h2
  · exact .inr ⟨g, cap, cur, e, by omega, r⟩
theorem Own.new {w : World} {B n c : Nat} {A : Option Addr} {xs : List Int} (h : Own w B (.slice A n c) xs) : 0 < n → ∃ b off, A = some ⟨b, off, none⟩ ∧ B ≤ b := fun hn => by
  rcases h.2 with ⟨e, h0⟩ | ⟨g, cap, cur, e, hb, r⟩
  · cases e; omega
  · cases e; exact ⟨g, 0, rfl, hb⟩
/-- The first t places of a points ballot have been looked at. -/
def partS (ms : List Int) (bs : List Bool) (t : Nat) : List Int := (List.range ms.length).map fun i : Nat => if i < t ∧ isS bs i = false then 0 else ms.getD i 0
theorem partS_zero (ms : List Int) (bs : List Bool) : partS ms bs 0 = ms := by
  unfold partS
  apply List.ext_getElem?
  intro i
  by_cases hi : i < ms.length
  · simp [hi, List.getD]
  · rw [List.getElem?_eq_none (by simp; omega), List.getElem?_eq_none (by omega)]
theorem length_partS (ms : List Int) (bs : List Bool) (t : Nat) : (partS ms bs t).length = ms.length := by simp [partS]
theorem get_partS {ms : List Int} {bs : List Bool} {t i : Nat} (hi : i < ms.length) : (partS ms bs t)[i]? = some (if i < t ∧ isS bs i = false then 0 else ms.getD i 0) := by simp [partS, hi]
theorem partS_keep {ms : List Int} {bs : List Bool} {t : Nat} (h : isS bs t = true) : partS ms bs (t + 1) = partS ms bs t := by
  apply List.ext_getElem?
  intro i
  by_cases hi : i < ms.length
  · rw [get_partS hi, get_partS hi]
    by_cases e : i = t
    · subst e; rw [h]; simp
    · congr 1
      by_cases e2 : i < t
      · simp [e2, show i < t + 1 by omega]
      · simp [e2, show ¬ i < t + 1 by omega]
  · rw [List.getElem?_eq_none (by rw [length_partS]; omega), List.getElem?_eq_none (by rw [length_partS]; omega)]
theorem partS_drop {ms : List Int} {bs : List Bool} {t : Nat} (_ht : t < ms.length) (h : isS bs t = false) : partS ms bs (t + 1) = (partS ms bs t).set t 0 := by
  apply List.ext_getElem?
  intro i
  by_cases hi : i < ms.length
  · rw [get_partS hi]
    by_cases e : t = i
    · subst e; rw [List.getElem?_set_self (by rw [length_partS]; exact hi), h]; simp
    · rw [List.getElem?_set_ne e, get_partS hi]
      congr 1
      by_cases e2 : i < t
      · simp [e2, show i < t + 1 by omega]
      · simp [e2, show ¬ i < t + 1 by omega]
  · rw [List.getElem?_eq_none (by rw [length_partS]; omega), List.getElem?_eq_none (by rw [List.length_set, length_partS]; omega)]
theorem partS_all (ms : List Int) (bs : List Bool) : partS ms bs ms.length = keptS 3 ms bs := by
  unfold keptS partS
  rw [if_neg (by omega), if_pos rfl]
  refine List.map_congr_left fun i hi => ?_
  rw [List.mem_range] at hi
  by_cases h : isS bs i = true
  · rw [if_pos h, if_neg (by simp [h])]
  · rw [if_neg h, if_pos ⟨hi, by simpa using h⟩]
theorem bd_partS {ms : List Int} (bs : List Bool) (t : Nat) (h : ∀ x ∈ ms, -9223372036854775808 ≤ x ∧ x ≤ 9223372036854775807) : ∀ x ∈ partS ms bs t, -9223372036854775808 ≤ x ∧ x ≤ 9223372036854775807 := by
  intro x hx
  obtain ⟨i, hi, rfl⟩ := List.mem_map.1 hx
  split
  · omega
  · rw [List.mem_range] at hi
    refine h _ ?_
    simp [List.getD, hi]

def KeepPost (w : World) (k : Int) (ms : List Int) (bs : List Bool) (e : Ending) (w' : World) : Prop :=
  ∃ A n c, e = .returned (.agg #[.int .u8 k, .slice A n c]) ∧ RInts w' A n c (keptS k ms bs) ∧ (0 < n → ∃ b off, A = some ⟨b, off, none⟩ ∧ w.heap.size ≤ b) ∧ Below w.heap.size w w'

set_option maxRecDepth 100000 in
set_option maxHeartbeats 2000000 in
theorem bkeep_any (k : Int) (A : Option Addr) (n c : Nat) (ms : List Int) (A' : Option Addr) (n' c' : Nat) (bs : List Bool) (w : World) (h : RInts w A n c ms) (h' : RBools w A' n' c' bs) (hn : n ≤ 1000000) :
    Calls Tryz.prog 35 #[.agg #[.int .u8 k, .slice A n c], .slice A' n' c'] w (KeepPost w k ms bs) := by
  have hl := hide h.len
  have hS1 := ((((Hs.nil w).alloc 76 #[.int .u8 k, .slice A n c]).alloc 35 #[.slice A' n' c']).alloc 76 #[.int .u8 0, .slice none 0 0]).alloc 94 #[.func (.func 64) #[] #[.pointer (some ⟨w.heap.size + 1, 0, none⟩)]]
  have hb1 := ((((Below.refl w.heap.size w).alloc (Nat.le_refl _) (.cells #[.int .u8 k, .slice A n c] 76)).alloc (by simp) (.cells #[.slice A' n' c'] 35)).alloc (by simp; omega) (.cells #[.int .u8 0, .slice none 0 0] 76)).alloc (by simp; omega) (.cells #[.func (.func 64) #[] #[.pointer (some ⟨w.heap.size + 1, 0, none⟩)]] 94)
  simp only [World.size_alloc] at hS1
  have hz1 : (((( w.alloc (.cells #[.int .u8 k, .slice A n c] 76)).alloc (.cells #[.slice A' n' c'] 35)).alloc (.cells #[.int .u8 0, .slice none 0 0] 76)).alloc (.cells #[.func (.func 64) #[] #[.pointer (some ⟨w.heap.size + 1, 0, none⟩)]] 94)).heap.size = w.heap.size + 4 := by simp
  go_enter Tryz.func35, Tryz.ntmps35
  go_upto_region 2 with fail
  generalize hW : World.alloc _ _ = W1 at hS1 hb1 hz1
  try rw [hW]
  clear hW
  have hm1 := h.below hb1
  have hl1 := h'.below hb1
  have q0 : W1.cell? ⟨w.heap.size, 0, none⟩ = some (.int .u8 k) := hS1.2.2.2.1.cell 0
  have q1 : W1.cell? ⟨w.heap.size, 1, none⟩ = some (.slice A n c) := hS1.2.2.2.1.cell 1
  have hmD : RInts W1.drew A n c ms := hm1
  have hmA0 : RInts (W1.alloc (.cells #[.int .u8 0, .slice none 0 0] 76)) A n c ms := hm1.below ((Below.refl _ _).alloc (Nat.le_refl _) _)
  have hmA : RInts (W1.alloc (.cells #[.int .u8 0, .slice none 0 0] 76)).drew A n c ms := hmA0
  have hz1' : w.heap.size + 4 ≤ W1.heap.size := by omega
  clear hz1
  have hu1 : Below W1.heap.size W1 (W1.alloc (.cells #[.int .u8 0, .slice none 0 0] 76)) := (Below.refl _ _).alloc (Nat.le_refl _) _
  have hN := Has.new W1 76 #[.int .u8 0, .slice none 0 0]
  go_region_held3 (fun w' => w'.cell? ⟨w.heap.size, 0, none⟩ = some (.int .u8 k) ∧ w'.cell? ⟨w.heap.size, 1, none⟩ = some (.slice A n c))
    (first
      | go_keep
      | exact ⟨q04, q14⟩
      | exact ⟨(cell?_setCell_far (p := ⟨W1.heap.size, 1, none⟩) (by show w.heap.size ≠ W1.heap.size; omega)).trans ((cell?_setCell_far (p := ⟨W1.heap.size, 0, none⟩) (by show w.heap.size ≠ W1.heap.size; omega)).trans q04), (cell?_setCell_far (p := ⟨W1.heap.size, 1, none⟩) (by show w.heap.size ≠ W1.heap.size; omega)).trans ((cell?_setCell_far (p := ⟨W1.heap.size, 0, none⟩) (by show w.heap.size ≠ W1.heap.size; omega)).trans q14)⟩)
    (first
      | (go_at_call 50; refine (cloneO_any A n c ms _ (by with_reducible exact hmD) hn).mono ?_; rintro e w4 ⟨A4, c4, rfl, hO4, hb4⟩; have hbU := undrew hb4; have q04 := keep_cell hbU q0; have q14 := keep_cell hbU q1)
      | (go_at_call 50; refine (cloneO_any A n c ms _ (by with_reducible exact hmA) hn).mono ?_; rintro e w4 ⟨A4, c4, rfl, hO4, hb4⟩; have hbV := undrew hb4; have hbU := Below_trans' hu1 hu1.size hbV; have q04 := keep_cell hbU q0; have q14 := keep_cell hbU q1; have hN4 := hN.below hbV hN.lt; have n0 : w4.cell? ⟨W1.heap.size, 0, none⟩ = some (.int .u8 0) := hN4.cell 0; have n1 : w4.cell? ⟨W1.heap.size, 1, none⟩ = some (.slice none 0 0) := hN4.cell 1; have m0 := hN4.free 0; have m1 := hN4.free 1))
  · try (rename_i hh; clear hh)
    have hT5 := Has.new w4 76 #[.int .u8 k, .slice A4 ms.length c4]
    have hu5 : Below w4.heap.size w4 (w4.alloc (.cells #[.int .u8 k, .slice A4 ms.length c4] 76)) := (Below.refl _ _).alloc (Nat.le_refl _) _
    obtain ⟨hF5, hR5, hL5, hQ5, -⟩ := (hS1.below hbU).below hu5
    have hb5 := Below_trans' (Below_trans' hb1 hb1.size hbU) (Nat.le_trans hb1.size hbU.size) hu5
    have hO5 : Own (w4.alloc (.cells #[.int .u8 k, .slice A4 ms.length c4] 76)) W1.heap.size (.slice A4 ms.length c4) ms := Own.below hO4 hu5
    have hg6 : w.heap.size + 4 ≤ w4.heap.size := Nat.le_trans hz1' hbU.size
    have hne : (Value.slice A4 ms.length c4).ownBlock ≠ some w4.heap.size := fun e => by have := (Own.own_lt hO4 e).2; omega
    have hl5 := (hl1.below hbU).below hu5
    generalize hW : World.alloc _ _ = W5 at hT5 hF5 hR5 hL5 hQ5 hb5 hO5 hl5 ⊢
    clear hW hO4 hb4 hbU q04 q14 hu5
    generalize w4.heap.size = g6 at hT5 hg6 hne ⊢
    replace hF5 : Has W5 (w.heap.size + 1 + 1 + 1) 94 #[.func (.func 64) #[] #[.pointer (some ⟨w.heap.size + 1, 0, none⟩)]] := hF5
    replace hR5 : Has W5 (w.heap.size + 1 + 1) 76 #[.int .u8 0, .slice none 0 0] := hR5
    replace hL5 : Has W5 (w.heap.size + 1) 35 #[.slice A' n' c'] := hL5
    replace hQ5 : Has W5 w.heap.size 76 #[.int .u8 k, .slice A n c] := hQ5
    have hz5 : w.heap.size + 4 ≤ W1.heap.size := hz1'
    have hbd := hide (fun x (hx : x ∈ ms) => hm1.bd hx)
    have hlo : Hid (0 < n' → ∃ b off, A' = some ⟨b, off, none⟩ ∧ b < W1.heap.size) := fun hn => let ⟨b, off, e, hc⟩ := hl1.2.2.2 hn; ⟨b, off, e, World.block_lt_of_cell? W1 _ (hc 0 hn)⟩
    generalize W1.heap.size = B at hO5 hz5 hlo
    replace hne := hide hne
    clear hz1' hu1 hN hmA hmA0 hmD q0 q1 hl1 hm1 hS1 hb1
    clear W1
    have q0 : W5.cell? ⟨w.heap.size, 0, none⟩ = some (.int .u8 k) := hQ5.cell 0
    by_cases hk12 : k = 1 ∨ k = 2
    · have hkm := hide (fun x (hx : x ∈ keptS k ms bs) => hbd.out x (by unfold keptS at hx; rw [if_pos hk12] at hx; exact (List.mem_filter.1 hx).1))
      have hfil : Hid ((ms.filter fun x => !(!isS bs x)) = keptS k ms bs) := by unfold Hid keptS; rw [if_pos hk12]; simp
      have hdel := fun W hF x => keep2_any x (w.heap.size + 1 + 1 + 1) (w.heap.size + 1) A' n' c' bs W ((Frame'.has (S := fun b => some b = (Value.slice A4 ms.length c4).ownBlock) (w := W5) (w' := W) hF hF5 (fun e => by have := (Own.own_lt hO5 e.symm).1; omega)).cell 0) ((Frame'.has hF hL5 (fun e => by have := (Own.own_lt hO5 e.symm).1; omega)).cell 0) (hl5.frame hF (fun hn => let ⟨b, off, e, hb⟩ := hlo.out hn; ⟨b, off, e, fun e' => by have := (Own.own_lt hO5 e'.symm).1; omega⟩))
      have hcall := deleteFunc_any (fun x => !isS bs x) #[.pointer (some ⟨w.heap.size + 1 + 1 + 1, 0, none⟩)] B A4 ms.length c4 ms W5 hO5 hbd.out hdel
      rw [hfil.out] at hcall
      clear hdel hfil hl5 hlo
      have t1 : W5.cell? ⟨g6, 1, none⟩ = some (.slice A4 ms.length c4) := hT5.cell 1
      rcases hk12 with rfl | rfl
      · have hol := fun b e => Own.own_lt hO5 (b := b) e
        go_upto_region 14 with (go_at_call 60; refine hcall.mono ?_; rintro e w6 ⟨A6, n6, c6, rfl, hO6, hob, hF6⟩; have hT6 := hF6.has hT5 (fun e => hne.out e.symm); have s1 : w6.cell? ⟨g6, 1, none⟩ = some (.slice A4 ms.length c4) := hT6.cell 1; have s2 := hT6.free 1)
        have k7 : Frame' (fun b => b = g6) w6 (w6.setCell ⟨g6, 1, none⟩ (.slice A6 n6 c6)) := Frame'.setCell (p := ⟨g6, 1, none⟩) (Frame'.refl (fun b => b = g6) w6) (.inl rfl) _
        have hT7 : Has (w6.setCell ⟨g6, 1, none⟩ (.slice A6 n6 c6)) g6 76 #[.int .u8 _, .slice A6 n6 c6] := hT6.put 1 (.slice A6 n6 c6)
        have hR7 := k7.has (hF6.has hR5 (fun e => by have := (hol _ e.symm).1; omega)) (fun e => absurd (show _ = _ from e) (by omega))
        have hO7 := Own.frame hO6 k7 (fun b e e' => hne.out (by rw [← hob, e, e']))
        have hb7 := Frame'.below (Frame'.below hb5 hF6 (fun k e => by have := (hol _ e.symm).1; omega) hb5.size) k7 (fun k e => by have e : k = g6 := e; omega) (Nat.le_trans hb5.size hF6.size)
        generalize hW : World.setCell _ _ _ = W7 at hT7 hR7 hO7 hb7 ⊢
        clear hW k7 hT6 hO6 hF6 hob hol s1 s2 t1 q0 hcall hR5 hT5 hb5 hO5 hF5 hL5 hQ5
        have x0 := hT7.cell 0
        have x1 : World.cell? _ ⟨g6, 1, none⟩ = some (.slice A6 n6 c6) := hT7.cell 1
        have y0 := hR7.cell 0
        have y1 := hR7.cell 1
        have f0 := hR7.free 0
        have f1 := hR7.free 1
        simp only [List.getElem?_toArray, List.getElem?_cons_zero, List.getElem?_cons_succ] at x0 y0 y1
        go_wp2
        refine retBal rfl rfl (put2 hR7) rfl rfl ⟨_, _, _, rfl, ?_, fun hn => let ⟨b, off, e, hb⟩ := Own.new hO7 hn; ⟨b, off, e, by omega⟩, below2 hb7 (by omega) _ _⟩
        exact Own.ints (Own.frame hO7 (frame2 _ _ _ _) (fun b e e' => by have := (Own.own_lt hO7 e).1; have e' : b = w.heap.size + 1 + 1 := e'; omega)) (hkm.out)
      · have hol := fun b e => Own.own_lt hO5 (b := b) e
        go_upto_region 14 with (go_at_call 60; refine hcall.mono ?_; rintro e w6 ⟨A6, n6, c6, rfl, hO6, hob, hF6⟩; have hT6 := hF6.has hT5 (fun e => hne.out e.symm); have s1 : w6.cell? ⟨g6, 1, none⟩ = some (.slice A4 ms.length c4) := hT6.cell 1; have s2 := hT6.free 1)
        have k7 : Frame' (fun b => b = g6) w6 (w6.setCell ⟨g6, 1, none⟩ (.slice A6 n6 c6)) := Frame'.setCell (p := ⟨g6, 1, none⟩) (Frame'.refl (fun b => b = g6) w6) (.inl rfl) _
        have hT7 : Has (w6.setCell ⟨g6, 1, none⟩ (.slice A6 n6 c6)) g6 76 #[.int .u8 _, .slice A6 n6 c6] := hT6.put 1 (.slice A6 n6 c6)
        have hR7 := k7.has (hF6.has hR5 (fun e => by have := (hol _ e.symm).1; omega)) (fun e => absurd (show _ = _ from e) (by omega))
        have hO7 := Own.frame hO6 k7 (fun b e e' => hne.out (by rw [← hob, e, e']))
        have hb7 := Frame'.below (Frame'.below hb5 hF6 (fun k e => by have := (hol _ e.symm).1; omega) hb5.size) k7 (fun k e => by have e : k = g6 := e; omega) (Nat.le_trans hb5.size hF6.size)
        generalize hW : World.setCell _ _ _ = W7 at hT7 hR7 hO7 hb7 ⊢
        clear hW k7 hT6 hO6 hF6 hob hol s1 s2 t1 q0 hcall hR5 hT5 hb5 hO5 hF5 hL5 hQ5
        have x0 := hT7.cell 0
        have x1 : World.cell? _ ⟨g6, 1, none⟩ = some (.slice A6 n6 c6) := hT7.cell 1
        have y0 := hR7.cell 0
        have y1 := hR7.cell 1
        have f0 := hR7.free 0
        have f1 := hR7.free 1
        simp only [List.getElem?_toArray, List.getElem?_cons_zero, List.getElem?_cons_succ] at x0 y0 y1
        go_wp2
        refine retBal rfl rfl (put2 hR7) rfl rfl ⟨_, _, _, rfl, ?_, fun hn => let ⟨b, off, e, hb⟩ := Own.new hO7 hn; ⟨b, off, e, by omega⟩, below2 hb7 (by omega) _ _⟩
        exact Own.ints (Own.frame hO7 (frame2 _ _ _ _) (fun b e e' => by have := (Own.own_lt hO7 e).1; have e' : b = w.heap.size + 1 + 1 := e'; omega)) (hkm.out)
    · by_cases hk3 : k = 3
      · subst hk3
        have eg : ∀ args w, (callFunc 64 args).run Tryz.prog w = .ok (.enter 64 args) w := enters_of Tryz.func64 (by kernel_rfl) rfl
        have t1 : W5.cell? ⟨g6, 1, none⟩ = some (.slice A4 ms.length c4) := hT5.cell 1
        have hol := fun b e => Own.own_lt hO5 (b := b) e
        have h64 : ms.length ≤ 9223372036854775807 := (Own.ints hO5 hbd.out).le
        go_wp2_with fail
        clear t1 q0
        go_loopw [7, 30] (fun s7 i wr => ∃ (t : Nat), t ≤ ms.length ∧ i = .int .i64 t ∧ Hid (Own wr B (.slice A4 ms.length c4) (partS ms bs t)) ∧ Hid (Frame' (fun b => some b = (Value.slice A4 ms.length c4).ownBlock) W5 wr)) (fun s7 i _ => ms.length - (intOf i).toNat)
        case atStart => exact ⟨0, Nat.zero_le _, rfl, by unfold Hid; rw [partS_zero]; exact hO5, Frame'.refl _ _⟩
        case round =>
          obtain ⟨t, ht, rfl, hO, hF⟩ := hrel
          have Hol := hide hol
          have f0 : wr.cell? ⟨w.heap.size + 1 + 1 + 1, 0, none⟩ = some (.func (.func 64) #[] #[.pointer (some ⟨w.heap.size + 1, 0, none⟩)]) := (hF.out.has hF5 (fun e => by have := (Hol.out _ e.symm).1; omega)).cell 0
          have l0 : wr.cell? ⟨w.heap.size + 1, 0, none⟩ = some (.slice A' n' c') := (hF.out.has hL5 (fun e => by have := (Hol.out _ e.symm).1; omega)).cell 0
          have hTr := hF.out.has hT5 (fun e => hne.out e.symm)
          have t1 : wr.cell? ⟨g6, 1, none⟩ = some (.slice A4 ms.length c4) := hTr.cell 1
          have hlr := hl5.frame hF.out (fun hn => let ⟨b, off, e, hb⟩ := hlo.out hn; ⟨b, off, e, fun e' => by have := (Hol.out _ e'.symm).1; omega⟩)
          have hcall := keep1_any t (w.heap.size + 1) A' n' c' bs wr l0 hlr
          clear hlr l0 hol
          by_cases hlt : t < ms.length
          · obtain ⟨g, rfl⟩ : ∃ g, A4 = some ⟨g, 0, none⟩ := by
              rcases hO5.2 with ⟨_, e⟩ | ⟨g, cap, cur, e, _⟩
              · omega
              · cases e; exact ⟨g, rfl⟩
            have hown : wr.ownsRow B 3 1 (.slice (some ⟨g, 0, none⟩) ms.length c4) ms.length ((partS ms bs t).map (Value.int .i64)) := by have := hO.out; unfold Own at this; rwa [length_partS] at this
            obtain ⟨u, hci⟩ : ∃ u, wr.cell? ⟨g, t, none⟩ = some (.int .i64 u) := by
              have hil : t < (partS ms bs t).length := by rw [length_partS]; exact hlt
              exact ⟨(partS ms bs t)[t], by rw [hown.cellAt t (by omega), List.getElem?_map, List.getElem?_eq_getElem hil]; rfl⟩
            have hfi := hown.frozenAt t
            have Hown := hide hown
            clear hown
            cases hs : isS bs t with
            | true =>
              rw [hs] at hcall
              have Hs := hide hs
              clear hs
              go_wp2_with (go_at_fn 64; refine hcall.mono ?_; rintro e w' ⟨rfl, rfl⟩)
              go_roundw
              case rel => exact ⟨t + 1, by omega, by go_num, by unfold Hid; rw [partS_keep Hs.out]; exact hO.out, hF⟩
              case measure => simp [intOf] <;> omega
            | false =>
              rw [hs] at hcall
              have Hs := hide hs
              clear hs
              go_wp2_with (go_at_fn 64; refine hcall.mono ?_; rintro e w' ⟨rfl, rfl⟩)
              go_roundw
              case rel =>
                refine ⟨t + 1, by omega, by go_num, ?_, Frame'.setCell (p := ⟨g, t, none⟩) hF.out (.inl rfl) _⟩
                unfold Hid Own
                rw [length_partS, partS_drop hlt Hs.out, List.map_set]
                exact (Hown.out.stored t _).1
              case measure => simp [intOf] <;> omega
          · clear hcall f0
            have hte : t = ms.length := by omega
            have hO6 : Own wr B (.slice A4 ms.length c4) (keptS 3 ms bs) := by have := hO.out; rw [hte, partS_all] at this; exact this
            have hR6 := hF.out.has hR5 (fun e => by have := (Hol.out _ e.symm).1; omega)
            have hb6 := Frame'.below hb5 hF.out (fun k e => by have := (Hol.out _ e.symm).1; omega) hb5.size
            have hbk := hide (fun x (hx : x ∈ keptS 3 ms bs) => by rw [← partS_all] at hx; exact bd_partS bs _ hbd.out x hx)
            have hlt' : ¬ (t : Int) < (ms.length : Int) := by omega
            clear hR5 hT5 hb5 hO5 hO hF hF5 hL5 hQ5 hl5 t1
            have x0 := hTr.cell 0
            have x1 : World.cell? _ ⟨g6, 1, none⟩ = some (.slice A4 ms.length c4) := hTr.cell 1
            have y0 := hR6.cell 0
            have y1 := hR6.cell 1
            have f0 := hR6.free 0
            have f1 := hR6.free 1
            simp only [List.getElem?_toArray, List.getElem?_cons_zero, List.getElem?_cons_succ] at x0 y0 y1
            go_wp2
            refine retBal rfl rfl (put2 hR6) rfl rfl ⟨_, _, _, rfl, ?_, fun hn => let ⟨b, off, e, hb⟩ := Own.new hO6 hn; ⟨b, off, e, by omega⟩, below2 hb6 (by omega) _ _⟩
            exact Own.ints (Own.frame hO6 (frame2 _ _ _ _) (fun b e e' => by have := (Own.own_lt hO6 e).1; have e' : b = w.heap.size + 1 + 1 := e'; omega)) (hbk.out)
      · have hke : Hid (keptS k ms bs = ms) := by unfold Hid keptS; rw [if_neg hk12, if_neg hk3]
        have k1 : (k == 1) = false := by rw [beq_eq_false_iff_ne]; omega
        have k2 : (k == 2) = false := by rw [beq_eq_false_iff_ne]; omega
        have k3 : (k == 3) = false := by rw [beq_eq_false_iff_ne]; omega
        clear hk12 hk3
        have hO6 : Own W5 B (.slice A4 ms.length c4) (keptS k ms bs) := by rw [hke.out]; exact hO5
        have x0 := hT5.cell 0
        have x1 : World.cell? _ ⟨g6, 1, none⟩ = some (.slice A4 ms.length c4) := hT5.cell 1
        have y0 := hR5.cell 0
        have y1 := hR5.cell 1
        have f0 := hR5.free 0
        have f1 := hR5.free 1
        simp only [List.getElem?_toArray, List.getElem?_cons_zero, List.getElem?_cons_succ] at x0 y0 y1
        go_wp2
        refine retBal rfl rfl (put2 hR5) rfl rfl ⟨_, _, _, rfl, ?_, fun hn => let ⟨b, off, e, hb⟩ := Own.new hO6 hn; ⟨b, off, e, by omega⟩, below2 hb5 (by omega) _ _⟩
        exact Own.ints (Own.frame hO6 (frame2 _ _ _ _) (fun b e e' => by have := (Own.own_lt hO6 e).1; have e' : b = w.heap.size + 1 + 1 := e'; omega)) ((fun x hx => hbd.out x (by rw [hke.out] at hx; exact hx)))
  · try (rename_i hh; clear hh)
    have hT5 := put2 (x' := .int .u8 k) (y' := .slice A4 ms.length c4) hN4
    have k5 := frame2 w4 W1.heap.size (.int .u8 k) (.slice A4 ms.length c4)
    have hS4 := hS1.below hbU
    have hF5 := k5.has hS4.1 (fun e => absurd (show _ = _ from e) (by omega))
    have hR5 := k5.has hS4.2.1 (fun e => absurd (show _ = _ from e) (by omega))
    have hL5 := k5.has hS4.2.2.1 (fun e => absurd (show _ = _ from e) (by omega))
    have hQ5 := k5.has hS4.2.2.2.1 (fun e => absurd (show _ = _ from e) (by omega))
    have hb5 := below2 (Below_trans' hb1 hb1.size hbU) hb1.size (.int .u8 k) (.slice A4 ms.length c4)
    have hne : (Value.slice A4 ms.length c4).ownBlock ≠ some W1.heap.size := fun e => by have := (Own.own_lt hO4 e).1; simp at this; omega
    have hO5 : Own ((w4.setCell ⟨W1.heap.size, 0, none⟩ (.int .u8 k)).setCell ⟨W1.heap.size, 1, none⟩ (.slice A4 ms.length c4)) W1.heap.size (.slice A4 ms.length c4) ms := Own.frame (Own.mono hO4 (by simp)) k5 (fun b e e' => hne (by rw [e, e']))
    have hl5 := (hl1.below hbU).frame k5 (fun hn => by
      obtain ⟨b, off, e, hc⟩ := hl1.2.2.2 hn
      exact ⟨b, off, e, fun e' => by have := World.block_lt_of_cell? W1 _ (hc 0 hn); simp only at this; omega⟩)
    have hg6 := hz1'
    generalize hW : World.setCell _ _ _ = W5 at hT5 hF5 hR5 hL5 hQ5 hb5 hO5 hl5 ⊢
    clear hW hO4 hb4 hbU hbV q04 q14 hN4 n0 n1 m0 m1 k5 hS4
    generalize W1.heap.size = g6 at hT5 hg6 hne ⊢
    replace hF5 : Has W5 (w.heap.size + 1 + 1 + 1) 94 #[.func (.func 64) #[] #[.pointer (some ⟨w.heap.size + 1, 0, none⟩)]] := hF5
    replace hR5 : Has W5 (w.heap.size + 1 + 1) 76 #[.int .u8 0, .slice none 0 0] := hR5
    replace hL5 : Has W5 (w.heap.size + 1) 35 #[.slice A' n' c'] := hL5
    replace hQ5 : Has W5 w.heap.size 76 #[.int .u8 k, .slice A n c] := hQ5
    have hz5 : w.heap.size + 4 ≤ W1.heap.size := hz1'
    have hbd := hide (fun x (hx : x ∈ ms) => hm1.bd hx)
    have hlo : Hid (0 < n' → ∃ b off, A' = some ⟨b, off, none⟩ ∧ b < W1.heap.size) := fun hn => let ⟨b, off, e, hc⟩ := hl1.2.2.2 hn; ⟨b, off, e, World.block_lt_of_cell? W1 _ (hc 0 hn)⟩
    generalize W1.heap.size = B at hO5 hz5 hlo
    replace hne := hide hne
    clear hz1' hu1 hN hmA hmA0 hmD q0 q1 hl1 hm1 hS1 hb1
    clear W1
    have q0 : W5.cell? ⟨w.heap.size, 0, none⟩ = some (.int .u8 k) := hQ5.cell 0
    by_cases hk12 : k = 1 ∨ k = 2
    · have hkm := hide (fun x (hx : x ∈ keptS k ms bs) => hbd.out x (by unfold keptS at hx; rw [if_pos hk12] at hx; exact (List.mem_filter.1 hx).1))
      have hfil : Hid ((ms.filter fun x => !(!isS bs x)) = keptS k ms bs) := by unfold Hid keptS; rw [if_pos hk12]; simp
      have hdel := fun W hF x => keep2_any x (w.heap.size + 1 + 1 + 1) (w.heap.size + 1) A' n' c' bs W ((Frame'.has (S := fun b => some b = (Value.slice A4 ms.length c4).ownBlock) (w := W5) (w' := W) hF hF5 (fun e => by have := (Own.own_lt hO5 e.symm).1; omega)).cell 0) ((Frame'.has hF hL5 (fun e => by have := (Own.own_lt hO5 e.symm).1; omega)).cell 0) (hl5.frame hF (fun hn => let ⟨b, off, e, hb⟩ := hlo.out hn; ⟨b, off, e, fun e' => by have := (Own.own_lt hO5 e'.symm).1; omega⟩))
      have hcall := deleteFunc_any (fun x => !isS bs x) #[.pointer (some ⟨w.heap.size + 1 + 1 + 1, 0, none⟩)] B A4 ms.length c4 ms W5 hO5 hbd.out hdel
      rw [hfil.out] at hcall
      clear hdel hfil hl5 hlo
      have t1 : W5.cell? ⟨g6, 1, none⟩ = some (.slice A4 ms.length c4) := hT5.cell 1
      rcases hk12 with rfl | rfl
      · have hol := fun b e => Own.own_lt hO5 (b := b) e
        go_upto_region 14 with (go_at_call 60; refine hcall.mono ?_; rintro e w6 ⟨A6, n6, c6, rfl, hO6, hob, hF6⟩; have hT6 := hF6.has hT5 (fun e => hne.out e.symm); have s1 : w6.cell? ⟨g6, 1, none⟩ = some (.slice A4 ms.length c4) := hT6.cell 1; have s2 := hT6.free 1)
        have k7 : Frame' (fun b => b = g6) w6 (w6.setCell ⟨g6, 1, none⟩ (.slice A6 n6 c6)) := Frame'.setCell (p := ⟨g6, 1, none⟩) (Frame'.refl (fun b => b = g6) w6) (.inl rfl) _
        have hT7 : Has (w6.setCell ⟨g6, 1, none⟩ (.slice A6 n6 c6)) g6 76 #[.int .u8 _, .slice A6 n6 c6] := hT6.put 1 (.slice A6 n6 c6)
        have hR7 := k7.has (hF6.has hR5 (fun e => by have := (hol _ e.symm).1; omega)) (fun e => absurd (show _ = _ from e) (by omega))
        have hO7 := Own.frame hO6 k7 (fun b e e' => hne.out (by rw [← hob, e, e']))
        have hb7 := Frame'.below (Frame'.below hb5 hF6 (fun k e => by have := (hol _ e.symm).1; omega) hb5.size) k7 (fun k e => by have e : k = g6 := e; omega) (Nat.le_trans hb5.size hF6.size)
        generalize hW : World.setCell _ _ _ = W7 at hT7 hR7 hO7 hb7 ⊢
        clear hW k7 hT6 hO6 hF6 hob hol s1 s2 t1 q0 hcall hR5 hT5 hb5 hO5 hF5 hL5 hQ5
        have x0 := hT7.cell 0
        have x1 : World.cell? _ ⟨g6, 1, none⟩ = some (.slice A6 n6 c6) := hT7.cell 1
        have y0 := hR7.cell 0
        have y1 := hR7.cell 1
        have f0 := hR7.free 0
        have f1 := hR7.free 1
        simp only [List.getElem?_toArray, List.getElem?_cons_zero, List.getElem?_cons_succ] at x0 y0 y1
        go_wp2
        refine retBal rfl rfl (put2 hR7) rfl rfl ⟨_, _, _, rfl, ?_, fun hn => let ⟨b, off, e, hb⟩ := Own.new hO7 hn; ⟨b, off, e, by omega⟩, below2 hb7 (by omega) _ _⟩
        exact Own.ints (Own.frame hO7 (frame2 _ _ _ _) (fun b e e' => by have := (Own.own_lt hO7 e).1; have e' : b = w.heap.size + 1 + 1 := e'; omega)) (hkm.out)
      · have hol := fun b e => Own.own_lt hO5 (b := b) e
        go_upto_region 14 with (go_at_call 60; refine hcall.mono ?_; rintro e w6 ⟨A6, n6, c6, rfl, hO6, hob, hF6⟩; have hT6 := hF6.has hT5 (fun e => hne.out e.symm); have s1 : w6.cell? ⟨g6, 1, none⟩ = some (.slice A4 ms.length c4) := hT6.cell 1; have s2 := hT6.free 1)
        have k7 : Frame' (fun b => b = g6) w6 (w6.setCell ⟨g6, 1, none⟩ (.slice A6 n6 c6)) := Frame'.setCell (p := ⟨g6, 1, none⟩) (Frame'.refl (fun b => b = g6) w6) (.inl rfl) _
        have hT7 : Has (w6.setCell ⟨g6, 1, none⟩ (.slice A6 n6 c6)) g6 76 #[.int .u8 _, .slice A6 n6 c6] := hT6.put 1 (.slice A6 n6 c6)
        have hR7 := k7.has (hF6.has hR5 (fun e => by have := (hol _ e.symm).1; omega)) (fun e => absurd (show _ = _ from e) (by omega))
        have hO7 := Own.frame hO6 k7 (fun b e e' => hne.out (by rw [← hob, e, e']))
        have hb7 := Frame'.below (Frame'.below hb5 hF6 (fun k e => by have := (hol _ e.symm).1; omega) hb5.size) k7 (fun k e => by have e : k = g6 := e; omega) (Nat.le_trans hb5.size hF6.size)
        generalize hW : World.setCell _ _ _ = W7 at hT7 hR7 hO7 hb7 ⊢
        clear hW k7 hT6 hO6 hF6 hob hol s1 s2 t1 q0 hcall hR5 hT5 hb5 hO5 hF5 hL5 hQ5
        have x0 := hT7.cell 0
        have x1 : World.cell? _ ⟨g6, 1, none⟩ = some (.slice A6 n6 c6) := hT7.cell 1
        have y0 := hR7.cell 0
        have y1 := hR7.cell 1
        have f0 := hR7.free 0
        have f1 := hR7.free 1
        simp only [List.getElem?_toArray, List.getElem?_cons_zero, List.getElem?_cons_succ] at x0 y0 y1
        go_wp2
        refine retBal rfl rfl (put2 hR7) rfl rfl ⟨_, _, _, rfl, ?_, fun hn => let ⟨b, off, e, hb⟩ := Own.new hO7 hn; ⟨b, off, e, by omega⟩, below2 hb7 (by omega) _ _⟩
        exact Own.ints (Own.frame hO7 (frame2 _ _ _ _) (fun b e e' => by have := (Own.own_lt hO7 e).1; have e' : b = w.heap.size + 1 + 1 := e'; omega)) (hkm.out)
    · by_cases hk3 : k = 3
      · subst hk3
        have eg : ∀ args w, (callFunc 64 args).run Tryz.prog w = .ok (.enter 64 args) w := enters_of Tryz.func64 (by kernel_rfl) rfl
        have t1 : W5.cell? ⟨g6, 1, none⟩ = some (.slice A4 ms.length c4) := hT5.cell 1
        have hol := fun b e => Own.own_lt hO5 (b := b) e
        have h64 : ms.length ≤ 9223372036854775807 := (Own.ints hO5 hbd.out).le
        go_wp2_with fail
        clear t1 q0
        go_loopw [7, 30] (fun s7 i wr => ∃ (t : Nat), t ≤ ms.length ∧ i = .int .i64 t ∧ Hid (Own wr B (.slice A4 ms.length c4) (partS ms bs t)) ∧ Hid (Frame' (fun b => some b = (Value.slice A4 ms.length c4).ownBlock) W5 wr)) (fun s7 i _ => ms.length - (intOf i).toNat)
        case atStart => exact ⟨0, Nat.zero_le _, rfl, by unfold Hid; rw [partS_zero]; exact hO5, Frame'.refl _ _⟩
        case round =>
          obtain ⟨t, ht, rfl, hO, hF⟩ := hrel
          have Hol := hide hol
          have f0 : wr.cell? ⟨w.heap.size + 1 + 1 + 1, 0, none⟩ = some (.func (.func 64) #[] #[.pointer (some ⟨w.heap.size + 1, 0, none⟩)]) := (hF.out.has hF5 (fun e => by have := (Hol.out _ e.symm).1; omega)).cell 0
          have l0 : wr.cell? ⟨w.heap.size + 1, 0, none⟩ = some (.slice A' n' c') := (hF.out.has hL5 (fun e => by have := (Hol.out _ e.symm).1; omega)).cell 0
          have hTr := hF.out.has hT5 (fun e => hne.out e.symm)
          have t1 : wr.cell? ⟨g6, 1, none⟩ = some (.slice A4 ms.length c4) := hTr.cell 1
          have hlr := hl5.frame hF.out (fun hn => let ⟨b, off, e, hb⟩ := hlo.out hn; ⟨b, off, e, fun e' => by have := (Hol.out _ e'.symm).1; omega⟩)
          have hcall := keep1_any t (w.heap.size + 1) A' n' c' bs wr l0 hlr
          clear hlr l0 hol
          by_cases hlt : t < ms.length
          · obtain ⟨g, rfl⟩ : ∃ g, A4 = some ⟨g, 0, none⟩ := by
              rcases hO5.2 with ⟨_, e⟩ | ⟨g, cap, cur, e, _⟩
              · omega
              · cases e; exact ⟨g, rfl⟩
            have hown : wr.ownsRow B 3 1 (.slice (some ⟨g, 0, none⟩) ms.length c4) ms.length ((partS ms bs t).map (Value.int .i64)) := by have := hO.out; unfold Own at this; rwa [length_partS] at this
            obtain ⟨u, hci⟩ : ∃ u, wr.cell? ⟨g, t, none⟩ = some (.int .i64 u) := by
              have hil : t < (partS ms bs t).length := by rw [length_partS]; exact hlt
              exact ⟨(partS ms bs t)[t], by rw [hown.cellAt t (by omega), List.getElem?_map, List.getElem?_eq_getElem hil]; rfl⟩
            have hfi := hown.frozenAt t
            have Hown := hide hown
            clear hown
            cases hs : isS bs t with
            | true =>
              rw [hs] at hcall
              have Hs := hide hs
              clear hs
              go_wp2_with (go_at_fn 64; refine hcall.mono ?_; rintro e w' ⟨rfl, rfl⟩)
              go_roundw
              case rel => exact ⟨t + 1, by omega, by go_num, by unfold Hid; rw [partS_keep Hs.out]; exact hO.out, hF⟩
              case measure => simp [intOf] <;> omega
            | false =>
              rw [hs] at hcall
              have Hs := hide hs
              clear hs
              go_wp2_with (go_at_fn 64; refine hcall.mono ?_; rintro e w' ⟨rfl, rfl⟩)
              go_roundw
              case rel =>
                refine ⟨t + 1, by omega, by go_num, ?_, Frame'.setCell (p := ⟨g, t, none⟩) hF.out (.inl rfl) _⟩
                unfold Hid Own
                rw [length_partS, partS_drop hlt Hs.out, List.map_set]
                exact (Hown.out.stored t _).1
              case measure => simp [intOf] <;> omega
          · clear hcall f0
            have hte : t = ms.length := by omega
            have hO6 : Own wr B (.slice A4 ms.length c4) (keptS 3 ms bs) := by have := hO.out; rw [hte, partS_all] at this; exact this
            have hR6 := hF.out.has hR5 (fun e => by have := (Hol.out _ e.symm).1; omega)
            have hb6 := Frame'.below hb5 hF.out (fun k e => by have := (Hol.out _ e.symm).1; omega) hb5.size
            have hbk := hide (fun x (hx : x ∈ keptS 3 ms bs) => by rw [← partS_all] at hx; exact bd_partS bs _ hbd.out x hx)
            have hlt' : ¬ (t : Int) < (ms.length : Int) := by omega
            clear hR5 hT5 hb5 hO5 hO hF hF5 hL5 hQ5 hl5 t1
            have x0 := hTr.cell 0
            have x1 : World.cell? _ ⟨g6, 1, none⟩ = some (.slice A4 ms.length c4) := hTr.cell 1
            have y0 := hR6.cell 0
            have y1 := hR6.cell 1
            have f0 := hR6.free 0
            have f1 := hR6.free 1
            simp only [List.getElem?_toArray, List.getElem?_cons_zero, List.getElem?_cons_succ] at x0 y0 y1
            go_wp2
            refine retBal rfl rfl (put2 hR6) rfl rfl ⟨_, _, _, rfl, ?_, fun hn => let ⟨b, off, e, hb⟩ := Own.new hO6 hn; ⟨b, off, e, by omega⟩, below2 hb6 (by omega) _ _⟩
            exact Own.ints (Own.frame hO6 (frame2 _ _ _ _) (fun b e e' => by have := (Own.own_lt hO6 e).1; have e' : b = w.heap.size + 1 + 1 := e'; omega)) (hbk.out)
      · have hke : Hid (keptS k ms bs = ms) := by unfold Hid keptS; rw [if_neg hk12, if_neg hk3]
        have k1 : (k == 1) = false := by rw [beq_eq_false_iff_ne]; omega
        have k2 : (k == 2) = false := by rw [beq_eq_false_iff_ne]; omega
        have k3 : (k == 3) = false := by rw [beq_eq_false_iff_ne]; omega
        clear hk12 hk3
        have hO6 : Own W5 B (.slice A4 ms.length c4) (keptS k ms bs) := by rw [hke.out]; exact hO5
        have x0 := hT5.cell 0
        have x1 : World.cell? _ ⟨g6, 1, none⟩ = some (.slice A4 ms.length c4) := hT5.cell 1
        have y0 := hR5.cell 0
        have y1 := hR5.cell 1
        have f0 := hR5.free 0
        have f1 := hR5.free 1
        simp only [List.getElem?_toArray, List.getElem?_cons_zero, List.getElem?_cons_succ] at x0 y0 y1
        go_wp2
        refine retBal rfl rfl (put2 hR5) rfl rfl ⟨_, _, _, rfl, ?_, fun hn => let ⟨b, off, e, hb⟩ := Own.new hO6 hn; ⟨b, off, e, by omega⟩, below2 hb5 (by omega) _ _⟩
        exact Own.ints (Own.frame hO6 (frame2 _ _ _ _) (fun b e e' => by have := (Own.own_lt hO6 e).1; have e' : b = w.heap.size + 1 + 1 := e'; omega)) ((fun x hx => hbd.out x (by rw [hke.out] at hx; exact hx)))
end Go.Proofs.YthkkadmgcicedaaGreat
