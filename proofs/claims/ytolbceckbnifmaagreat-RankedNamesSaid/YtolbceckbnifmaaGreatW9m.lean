/-
  The program's turned, with any closure.
  The program's Keep, of a profile.
-/
import Derived.Test.YtolbceckbnifmaaGreatW9i
import Derived.Shelf.Abstract
import Derived.Test.YtolbceckbnifmaaGreatW8f
namespace Go.Proofs.YtolbceckbnifmaaGreat
open Go.RowKit Go.Proofs Go.Shelf
attribute [local go_sem] cell?_more cell?_alloc_some cell?_setCell_far frozen?_alloc_some frozen?_more
/-- Each row's marks turned, and put anew. -/
def eachS (f : List Int → List Int) (l : List Row) : List Row := sumRows [] (l.map fun r => (f r.1, r.2))
def turnP (f : List Int → List Int) (c k : Int) (l : List Row) : PR := if checkS c k l = 0 then ⟨0, c, k, eachS f l⟩ else badP (checkS c k l)

/-- What the closure hands back: a ballot, and no error. -/
def TurnPost (W : World) (k : Int) (ms : List Int) (e : Ending) (w' : World) : Prop :=
  ∃ A n c, e = .returned (.tuple #[.agg #[.int .u8 k, .slice A n c], .int .i64 0]) ∧ RInts w' A n c ms ∧ Below W.heap.size W w'

theorem asc_nil : Asc [] := List.Pairwise.nil
theorem pos_nil : Pos [] := by intro x hx; simp at hx
theorem pos_map {l : List Row} (h : Pos l) (f : List Int → List Int) : Pos (l.map fun r => (f r.1, r.2)) := by
  intro x hx
  obtain ⟨r, hr, rfl⟩ := List.mem_map.1 hx
  exact h r hr
theorem tot_map (l : List Row) (f : List Int → List Int) : totS (l.map fun r => (f r.1, r.2)) = totS l := by
  unfold totS; rw [List.map_map]; rfl

set_option maxRecDepth 100000 in
set_option maxHeartbeats 2000000 in
theorem turned_any (gf : Nat) (lb : Array Value) (eg : ∀ args w, (callFunc gf args).run Tryz.prog w = .ok (.enter gf args) w) (f : List Int → List Int) (c k : Int) (A : Option Addr) (n cp : Nat) (l : List Row) (w : World) (h : RRows w A n cp l)
    (hf : checkS c k l = 0 → ∀ W, Below w.heap.size w W → ∀ r ∈ l, ∀ Am nm cm, RInts W Am nm cm r.1 → Calls Tryz.prog gf (#[.agg #[.int .u8 k, .slice Am nm cm]] ++ lb) W (TurnPost W k (f r.1)))
    (hfl : checkS c k l = 0 → ∀ r ∈ l, (f r.1).length ≤ 1000000) :
    Calls Tryz.prog 76 #[.agg #[.int .i64 c, .int .u8 k, .slice A n cp], .func (.func gf) #[] lb] w (PPostO w (turnP f c k l)) := by
  have hl := h.len
  have hS0 := ((Hs.nil w).alloc 27 #[.int .i64 c, .int .u8 k, .slice A n cp]).alloc 27 #[.int .i64 0, .int .u8 0, .slice none 0 0]
  have hb0 : Below w.heap.size w ((w.alloc (.cells #[.int .i64 c, .int .u8 k, .slice A n cp] 27)).alloc (.cells #[.int .i64 0, .int .u8 0, .slice none 0 0] 27)) := ((Below.refl _ _).alloc (Nat.le_refl _) _).alloc (by simp) _
  have hz0 : ((w.alloc (.cells #[.int .i64 c, .int .u8 k, .slice A n cp] 27)).alloc (.cells #[.int .i64 0, .int .u8 0, .slice none 0 0] 27)).heap.size = w.heap.size + 2 := by simp
  simp only [World.size_alloc] at hS0
  have Hf := hide hf
  have Hfl := hide hfl
  clear hf hfl
  go_enter Tryz.func76, Tryz.ntmps76
  go_wp2_with fail
  generalize hW : World.alloc (World.alloc _ _) _ = W0 at hS0 hb0 hz0
  try rw [hW]
  clear hW
  refine (pcheck_any _ _ _ _ _ l _ (h.below hb0)).mono ?_
  rintro e w1 ⟨rfl, hbw⟩
  obtain ⟨hR, hP, -⟩ := hS0.below hbw
  have hb1 := Below_trans' hb0 hb0.size hbw
  have hz1 : w.heap.size + 2 ≤ w1.heap.size := by have := hbw.size; omega
  clear hS0 hb0 hbw hz0
  by_cases herr : checkS c k l = 0
  · have hr : Hid (turnP f c k l = ⟨0, c, k, eachS f l⟩) := by unfold Hid turnP; rw [if_pos herr]
    have H1 := hide herr
    rw [herr]
    have h64 := (check_iff.1 herr).1
    clear herr
    have p0 : w1.cell? ⟨w.heap.size, 0, none⟩ = some (.int .i64 c) := hP.cell 0
    have p1 : w1.cell? ⟨w.heap.size, 1, none⟩ = some (.int .u8 k) := hP.cell 1
    have p2 : w1.cell? ⟨w.heap.size, 2, none⟩ = some (.slice A n cp) := hP.cell 2
    have z0 : w1.cell? ⟨w.heap.size + 1, 0, none⟩ = some (.int .i64 0) := hR.cell 0
    have z1 : w1.cell? ⟨w.heap.size + 1, 1, none⟩ = some (.int .u8 0) := hR.cell 1
    have z2 : w1.cell? ⟨w.heap.size + 1, 2, none⟩ = some (.slice none 0 0) := hR.cell 2
    have y0 := hR.free 0
    have y1 := hR.free 1
    have y2 := hR.free 2
    have hR3 := put3 (x' := .int .i64 c) (y' := .int .u8 k) (z' := .slice none 0 0) hR
    have k3 := frame3 w1 (w.heap.size + 1) (.int .i64 c) (.int .u8 k) (.slice none 0 0)
    have hP3 := k3.has hP (by show ¬ (w.heap.size = w.heap.size + 1); omega)
    have hb3 := below3 hb1 (show w.heap.size ≤ w.heap.size + 1 by omega) (.int .i64 c) (.int .u8 k) (.slice none 0 0)
    have hz3 := Nat.le_trans hz1 k3.size
    go_wp2_with fail
    generalize hW : World.setCell _ _ _ = W3 at hP3 hR3 hb3 hz3
    try rw [hW]
    clear hW k3 hP hR hb1 hz1 p0 p1 p2 z0 z1 z2 y0 y1 y2
    go_loopw [7, 8, 9, 24] (fun s7 s8 s9 i wr => ∃ (t : Nat) (v : Value), t ≤ n ∧ i = .int .i64 t ∧ Has wr (w.heap.size + 1) 27 #[.int .i64 c, .int .u8 k, v] ∧ ORows wr (w.heap.size + 2) v (eachS f (l.take t)) ∧ Has wr w.heap.size 27 #[.int .i64 c, .int .u8 k, .slice A n cp] ∧ Below w.heap.size w wr ∧ w.heap.size + 2 ≤ wr.heap.size) (fun s7 s8 s9 i _ => n - (intOf i).toNat)
    case atStart => exact ⟨0, _, Nat.zero_le _, rfl, hR3, ORows.nil_ _ _, hP3, hb3, hz3⟩
    case round =>
      clear hP3 hR3 hb3 hz3
      obtain ⟨t, v, ht, rfl, hR, hO, hP, hb, hz⟩ := hrel
      by_cases hlt : t < n
      · obtain ⟨b, off, Am, nm, cm, ms, y, rfl, hc0, hm0, hc1, hd, hat, hy⟩ := (h.below hb).step hlt
        have hsmall := row_small H1.out (List.mem_of_getElem? hat.out)
        simp only at hsmall
        obtain ⟨-, -, -, -, -, g6, g7, g8, -⟩ := check_iff.1 H1.out
        have hasc : Hid (Asc (eachS f (l.take t))) := asc_sumRows asc_nil
        have hpt : Pos (l.take t) := fun x hx => g8 x (List.mem_of_mem_take hx)
        have hpos : Hid (Pos (eachS f (l.take t))) := pos_sumRows pos_nil (pos_map hpt f)
        have htot : Hid (totS (eachS f (l.take t)) ≤ 1000000) := by
          unfold Hid eachS
          rw [tot_sumRows, tot_map]
          have h3 := totS_mono (l := l) (fun i hi => rowOK_many (rowOK_of H1.out hi)) (a := t) (b := l.length) (by omega) (Nat.le_refl _)
          rw [List.take_length] at h3
          have : totS [] = 0 := rfl
          omega
        have hlen : (eachS f (l.take t)).length ≤ 64 := by
          have := length_sumRows [] ((l.take t).map fun r => (f r.1, r.2))
          rw [List.length_map, List.length_take] at this
          unfold eachS
          simp only [List.length_nil] at this
          omega
        have hnext : Hid (eachS f (l.take (t + 1)) = putS (eachS f (l.take t)) (f ms) y) := by
          unfold Hid eachS
          rw [List.map_take, List.map_take, sumRows_take (r := (f ms, y)) (by rw [List.getElem?_map, hat.out]; rfl)]
        have hfn := Hfl.out H1.out _ (List.mem_of_getElem? hat.out)
        simp only at hfn
        clear g6 g7 g8 hpt
        go_upto_region 8 with fail
        have hbR : Below wr.heap.size wr (wr.alloc (.cells #[.slice Am nm cm, .int .i64 y] 80)) := (Below.refl _ _).alloc (Nat.le_refl _) _
        have hRow := Has.new wr 80 #[.slice Am nm cm, .int .i64 y]
        have hRl := hR.lt
        have hPl := hP.lt
        generalize hW : World.alloc _ _ = W4 at hbR hRow
        try rw [hW]
        clear hW
        have hR4 := hR.below hbR hRl
        have hP4 := hP.below hbR hPl
        have hO4 := hO.below hbR
        have hb4 := Below_trans' hb hb.size hbR
        have hm4 := hm0.below hbR
        have hz4 := Nat.le_trans hz hbR.size
        have hgr : w.heap.size + 2 ≤ wr.heap.size := hz
        generalize wr.heap.size = gr at hRow hgr
        clear hbR hR hP hO hb hm0 hc0 hc1 hz hRl hPl
        clear wr
        have q0 : W4.cell? ⟨w.heap.size, 0, none⟩ = some (.int .i64 c) := hP4.cell 0
        have q1 : W4.cell? ⟨w.heap.size, 1, none⟩ = some (.int .u8 k) := hP4.cell 1
        have q2 : W4.cell? ⟨w.heap.size, 2, none⟩ = some (.slice (some ⟨b, off, none⟩) n cp) := hP4.cell 2
        have r0 : W4.cell? ⟨gr, 0, none⟩ = some (.slice Am nm cm) := hRow.cell 0
        have r1 : W4.cell? ⟨gr, 1, none⟩ = some (.int .i64 y) := hRow.cell 1
        go_upto_region 9 with (first
          | (go_at_call 98; refine (of_any _ _ _ _ _ _ _ _ _ _).mono ?_; rintro e w5 ⟨rfl, hb5⟩; have hcl := Hf.out H1.out w5 (Below_trans' hb4 hb4.size hb5) _ (List.mem_of_getElem? hat.out) Am nm cm (hm4.below hb5))
          | (go_at_fn gf; refine hcl.mono ?_; rintro e w6 ⟨A6, n6, c6, rfl, hm6, hb6⟩))
        have hb7 := Below_trans' hb5 hb5.size hb6
        have hb8 := hb7.alloc hb7.size (.cells #[.int .u8 k, .slice A6 n6 c6] 103)
        have hBal := Has.new w6 103 #[.int .u8 k, .slice A6 n6 c6]
        have hm8 := hm6.below ((Below.refl _ _).alloc (Nat.le_refl _) (.cells #[.int .u8 k, .slice A6 n6 c6] 103))
        have hbal : Has (w6.alloc (.cells #[.int .u8 k, .slice A6 n6 c6] 103)) w6.heap.size 103 #[.int .u8 k, .slice A6 n6 c6] := hBal
        generalize hW : World.alloc _ _ = W8 at hb8 hBal hm8 hbal ⊢
        clear hW hbal
        generalize w6.heap.size = gb at hBal ⊢
        have hR8 := hR4.below hb8 hR4.lt
        have hP8 := hP4.below hb8 hP4.lt
        have hO8 := hO4.below hb8
        have hRow8 := hRow.below hb8 hRow.lt
        have hbw8 := Below_trans' hb4 hb4.size hb8
        have hz8 := Nat.le_trans hz4 hb8.size
        have hn6 : n6 ≤ 1000000 := by rw [← hm8.len]; exact hfn
        have s1 : W8.cell? ⟨gb, 1, none⟩ = some (.slice A6 n6 c6) := hBal.cell 1
        have r1' : W8.cell? ⟨gr, 1, none⟩ = some (.int .i64 y) := hRow8.cell 1
        clear hR4 hP4 hO4 hRow hm6 hm4 hb5 hb6 hb7 hb8 hb4 hcl hz4 q0 q1 q2 r0 r1 hBal hRow8
        go_wp2_with fail
        refine (put_any c k v (eachS f (l.take t)) (w.heap.size + 1) (w.heap.size + 2) A6 n6 c6 (f ms) y W8 hR8 hO8 (by omega) hz8 hasc.out (by omega) hm8 hn6 ⟨by omega, by omega⟩ (fun z hz => by
          have h1 := hpos.out _ (List.mem_of_getElem? hz)
          have h2 := le_tot hpos.out (List.mem_of_getElem? hz)
          have h3 := htot.out
          simp only at h1 h2
          exact ⟨by omega, by omega⟩)).mono ?_
        rintro e w9 ⟨rfl, v9, hR9, hO9, hF⟩
        have hol := fun k hk => hO8.own_lt (k := k) hk
        have hP9 := hF.has hP8 (by
          rintro (e | e)
          · omega
          · have := (hol _ e.symm).1; omega)
        have hb9 : Below w.heap.size w w9 := Frame'.below hbw8 hF (by
          rintro b (e | e)
          · omega
          · have := (hol _ e.symm).1; omega) hbw8.size
        have hz9 : w.heap.size + 2 ≤ w9.heap.size := Nat.le_trans hz8 hF.size
        have hO10 : ORows w9 (w.heap.size + 2) v9 (eachS f (l.take (t + 1))) := by rw [hnext.out]; exact hO9
        clear hP8 hO8 hR8 hbw8 hz8 hF hO9 hasc hpos htot hnext hol s1 r1' hm8
        go_wp2
        go_roundw
        case rel => exact ⟨t + 1, v9, by omega, by go_num, hR9, hO10, hP9, hb9, hz9⟩
        case measure => simp [intOf] <;> omega
      · have htn : Hid (l.take t = l) := List.take_of_length_le (by omega)
        rw [htn.out] at hO
        have b2 : ¬ (t : Int) < n := by omega
        clear hlt ht
        obtain ⟨Aw, nw, cw, rfl⟩ : ∃ Av nv cv, v = .slice Av nv cv := by
          rcases hO.slice with ⟨e, _⟩ | ⟨g', cap, cur, e, _⟩
          · exact ⟨none, 0, 0, e⟩
          · exact ⟨_, _, _, e⟩
        have p0 : wr.cell? ⟨w.heap.size + 1, 0, none⟩ = some (.int .i64 c) := hR.cell 0
        have p1 : wr.cell? ⟨w.heap.size + 1, 1, none⟩ = some (.int .u8 k) := hR.cell 1
        have p2 : wr.cell? ⟨w.heap.size + 1, 2, none⟩ = some (.slice Aw nw cw) := hR.cell 2
        have f0 := hR.free 0
        have f1 := hR.free 1
        have f2 := hR.free 2
        clear hP
        go_wp2
        refine retProf2 rfl rfl rfl (put3 hR) rfl rfl ⟨Aw, nw, cw, ?_, ?_, below3 hb (by omega) _ _ _⟩
        · rw [hr.out]; rfl
        · rw [hr.out]
          exact (hO.frame (frame3 wr (w.heap.size + 1) _ _ _) (fun b hb _ e => by omega)).mono (by omega)
  · have hr : Hid (turnP f c k l = badP (checkS c k l)) := by unfold Hid turnP; rw [if_neg herr]
    have hne : (checkS c k l != 0) = true := by rw [bne_iff_ne]; exact herr
    clear herr
    have z0 : w1.cell? ⟨w.heap.size + 1, 0, none⟩ = some (.int .i64 0) := hR.cell 0
    have z1 : w1.cell? ⟨w.heap.size + 1, 1, none⟩ = some (.int .u8 0) := hR.cell 1
    have z2 : w1.cell? ⟨w.heap.size + 1, 2, none⟩ = some (.slice none 0 0) := hR.cell 2
    have y0 := hR.free 0
    have y1 := hR.free 1
    have y2 := hR.free 2
    go_wp2
    refine retProf2 rfl rfl rfl (put3 hR) rfl rfl ⟨none, 0, 0, ?_, ?_, below3 hb1 (by omega) _ _ _⟩
    · rw [hr.out]; rfl
    · rw [hr.out]; exact ORows.nil_ _ _
end Go.Proofs.YtolbceckbnifmaaGreat

namespace Go.Proofs.YtolbceckbnifmaaGreat
open Go.RowKit Go.Proofs Go.Shelf
attribute [local go_sem] cell?_more cell?_alloc_some cell?_setCell_far frozen?_alloc_some frozen?_more
/-- A function hands back a ballot and a value beside it. -/
theorem retBal2 {fn : Func} {R : Ending → World → Prop} {a : Act} {w : World} {p q g : Nat} {C : Array Value} {v : Value} (hr : fn.results = #[.cell p 103, .tmp q]) (hp : a.tmps.getD p undef = .pointer (some ⟨g, 0, none⟩))
    (hq : a.tmps.getD q undef = v) (hg : Has w g 103 C) (hs : C.size = 2) (hd : a.defers = []) (hR : R (.returned (.tuple #[.agg C, v])) w) : bodyPost Tryz.prog fn R .ret a w := by
  have hl := run_loadVar_row (P := Tryz.prog) w g _ 103 C (0, 0) _ hg Tryz.underlying103 rfl (infoBal.trans (by rw [hs]))
  refine bodyPost_ret (v := .tuple #[.agg C, v]) ?_ hd hR
  have hp' : a.tmps[p]?.getD undef = .pointer (some ⟨g, 0, none⟩) := by simpa using hp
  have hq' : a.tmps[q]?.getD undef = v := by simpa using hq
  simp [results, hr, hp', hq', asAddr, hl]

theorem length_keptS (k : Int) (ms : List Int) (bs : List Bool) : (keptS k ms bs).length ≤ ms.length := by
  unfold keptS
  split
  · exact List.length_filter_le ..
  · split
    · simp
    · exact Nat.le_refl _

end Go.Proofs.YtolbceckbnifmaaGreat
