/-
  The reference's Keep and Rename of a profile.
  The program's Rename of a profile, errors included.
  The reference's Make.
-/
import Derived.Test.YtleniljhacnikaaGreatRa
import Derived.Test.YtleniljhacnikaaGreatWx
import Derived.Test.YtleniljhacnikaaGreatW8n
import Derived.Test.YtleniljhacnikaaGreatSpecM
import Derived.Test.YtleniljhacnikaaGreatW9o
import Derived.Test.YtleniljhacnikaaGreatW9x
namespace Go.Proofs.YtleniljhacnikaaGreat
open Go.RowKit Go.Proofs
attribute [local go_sem] cell?_more cell?_alloc_some cell?_setCell_far frozen?_alloc_some frozen?_more

/-- Neither the rows nor their marks lie in block x. -/
def Off (x : Nat) (w : World) (A : Option Addr) (n : Nat) : Prop := (0 < n → ∃ b off, A = some ⟨b, off, none⟩ ∧ b ≠ x) ∧ Av (fun b => b = x) w A n
theorem Off.nil_ (x : Nat) (w : World) : Off x w none 0 := ⟨fun h => absurd h (by omega), fun i hi => absurd hi (by omega)⟩
theorem Off.to {x : Nat} {w w' : World} {A : Option Addr} {n : Nat} (h : Off x w A n) (hc : ∀ i, i < n → ∀ b off, A = some ⟨b, off, none⟩ → w'.cell? ⟨b, off + i * 2, none⟩ = w.cell? ⟨b, off + i * 2, none⟩) : Off x w' A n :=
  ⟨h.1, fun i hi b off e Am nm cm hcell => h.2 i hi b off e Am nm cm (by rw [← hc i hi b off e]; exact hcell)⟩
theorem Off.below {x : Nat} {w w' : World} {A : Option Addr} {n c : Nat} {l : List Row} (h : Off x w A n) (hr : RRows w A n c l) (hb : Below w.heap.size w w') : Off x w' A n :=
  h.to fun i hi b off e => by
    obtain ⟨b', off', e', hcs⟩ := hr.2.2.2 (by omega)
    rw [e] at e'
    cases e'
    obtain ⟨Am, nm, cm, k1, _⟩ := hcs i hi
    rw [k1, keep_cell hb k1]
theorem RRows.frameOff {x : Nat} {w w' : World} {A : Option Addr} {n c : Nat} {l : List Row} (h : RRows w A n c l) (ho : Off x w A n) (k : Frame' (fun b => b = x) w w') : RRows w' A n c l := by
  refine ⟨h.1, h.2.1, h.2.2.1, fun hn => ?_⟩
  obtain ⟨b, off, e, hc⟩ := h.2.2.2 hn
  obtain ⟨b', off', e', hne⟩ := ho.1 hn
  rw [e] at e'
  cases e'
  have hcell : ∀ {o : Nat} {v : Value}, w.cell? ⟨b, o, none⟩ = some v → w'.cell? ⟨b, o, none⟩ = some v := fun {o v} hv => by
    have hlt := World.block_lt_of_cell? w _ hv
    have hbk := k.block b hlt hne
    rw [← hv]; unfold World.cell?; simp only [hbk]
  refine ⟨b, off, e, fun i hi => ?_⟩
  obtain ⟨Am, nm, cm, k1, k2, k3, k4⟩ := hc i hi
  refine ⟨Am, nm, cm, hcell k1, k2.frame k (fun hm => ?_), hcell k3, k4⟩
  obtain ⟨b2, off2, e2, _⟩ := k2.2.2.2.2 hm
  exact ⟨b2, off2, e2, ho.2 i hi b off e Am nm cm k1 hm b2 off2 e2⟩
theorem XRows.off {x : Nat} {w : World} {B : Nat} {A : Option Addr} {n c : Nat} {l : List Row} (h : XRows (fun b => b = x) w B (.slice A n c) l) (hB : x < B) : Off x w A n := by
  refine ⟨fun hn => ?_, h.av⟩
  obtain ⟨b, off, e, _⟩ := h.rows.2.2.2 hn
  subst e
  have := (h.own_lt (k := b) rfl).1
  exact ⟨b, off, rfl, by omega⟩

/-- The loop's frame: p, the result, o, whose rows are L. -/
structure TurnR (w : World) (g : Nat) (c k : Int) (A : Option Addr) (n cp : Nat) (At : Option Addr) (nt ct : Nat) (L : List Row) (wr : World) : Prop where
  P : Has wr w.heap.size 24 #[.int .i64 c, .int .u8 k, .slice A n cp]
  R : Has wr (w.heap.size + 1) 24 #[.int .i64 0, .int .u8 0, .slice none 0 0]
  V : Has wr g 24 #[.int .i64 c, .int .u8 k, .slice At nt ct]
  L : RRows wr At nt ct L
  B : Below w.heap.size w wr
  O : Off (w.heap.size + 1) wr At nt
theorem TurnR.below {w : World} {g : Nat} {c k : Int} {A : Option Addr} {n cp : Nat} {At : Option Addr} {nt ct : Nat} {L : List Row} {wr wx : World} (h : TurnR w g c k A n cp At nt ct L wr) (hb : Below wr.heap.size wr wx) : TurnR w g c k A n cp At nt ct L wx :=
  ⟨h.P.below hb h.P.lt, h.R.below hb h.R.lt, h.V.below hb h.V.lt, h.L.below hb, Below_trans' h.B h.B.size hb, h.O.below h.L hb⟩
/-- New rows are stored into o. -/
theorem TurnR.put {w : World} {g : Nat} {c k : Int} {A : Option Addr} {n cp : Nat} {At : Option Addr} {nt ct : Nat} {L : List Row} {wr : World} (h : TurnR w g c k A n cp At nt ct L wr) (hg : w.heap.size + 1 < g) {B : Nat} (hB : g < B) {Aw : Option Addr} {nw cw : Nat} {L' : List Row} (hr : XRows (fun b => b = w.heap.size + 1) wr B (.slice Aw nw cw) L') :
    TurnR w g c k A n cp Aw nw cw L' (wr.setCell ⟨g, 2, none⟩ (.slice Aw nw cw)) := by
  have k4 : Frame' (fun b => b = g) wr (wr.setCell ⟨g, 2, none⟩ (.slice Aw nw cw)) := Frame'.setCell (p := ⟨g, 2, none⟩) (Frame'.refl (fun b => b = g) wr) (.inl rfl) _
  refine ⟨k4.has h.P (by show ¬ (w.heap.size = g); omega), k4.has h.R (by show ¬ (w.heap.size + 1 = g); omega), h.V.put 2 _, hr.rows.setBox h.V _, Frame'.below h.B k4 (fun b e => by have e : b = g := e; omega) h.B.size, (hr.off (by omega)).to fun i hi b off e => ?_⟩
  subst e
  have := (hr.own_lt (k := b) rfl).1
  exact cell?_setCell_far (p := ⟨g, 2, none⟩) (by show b ≠ g; omega)
/-- What the first t rows leave: numbers that fit. -/
theorem each_bd {f : List Int → List Int} {c k : Int} {l : List Row} (h : checkS c k l = 0) {t : Nat} (ht : t ≤ l.length) : Asc (eachS f (l.take t)) ∧ Pos (eachS f (l.take t)) ∧ totS (eachS f (l.take t)) ≤ 1000000 ∧ (eachS f (l.take t)).length ≤ 64 := by
  obtain ⟨h64, -, -, -, -, g6, g7, g8, -⟩ := check_iff.1 h
  have hpt : Pos (l.take t) := fun x hx => g8 x (List.mem_of_mem_take hx)
  refine ⟨asc_sumRows asc_nil, pos_sumRows pos_nil (pos_map hpt f), ?_, ?_⟩
  · unfold eachS
    rw [tot_sumRows, tot_map]
    have h3 := totS_mono (l := l) (fun i hi => rowOK_many (rowOK_of h hi)) (a := t) (b := l.length) ht (Nat.le_refl _)
    rw [List.take_length] at h3
    have : totS [] = 0 := rfl
    omega
  · have := length_sumRows [] ((l.take t).map fun r => (f r.1, r.2))
    rw [List.length_map, List.length_take] at this
    unfold eachS
    simp only [List.length_nil] at this
    omega
theorem each_next {f : List Int → List Int} {l : List Row} {t : Nat} {ms : List Int} {y : Int} (hat : l[t]? = some (ms, y)) : eachS f (l.take (t + 1)) = putS (eachS f (l.take t)) (f ms) y := by
  unfold eachS
  rw [List.map_take, List.map_take, sumRows_take (r := (f ms, y)) (by rw [List.getElem?_map, hat]; rfl)]

theorem rof_val {E : Int} (A : Option Addr) (n cp : Nat) (l : List Row) (A' : Option Addr) (n' c' : Nat) (m : List Int) (w : World) (h : RRows w A n cp l) (h' : RInts w A' n' c' m) (hE : cntR l m = E) :
    Calls Tryz.prog 29 #[.slice A n cp, .slice A' n' c'] w fun e w' => e = .returned (.int .i64 E) ∧ Below w.heap.size w w' := hE ▸ rof_any A n cp l A' n' c' m w h h'


set_option maxRecDepth 100000 in
set_option maxHeartbeats 4000000 in
theorem rkeep9_any (c k : Int) (A : Option Addr) (n cp : Nat) (l : List Row) (A' : Option Addr) (n' c' : Nat) (bs : List Bool) (w : World) (h : RRows w A n cp l) (h' : RBools w A' n' c' bs) :
    Calls Tryz.prog 9 #[.agg #[.int .i64 c, .int .u8 k, .slice A n cp], .slice A' n' c'] w (PPost w (turnP (fun ms => keptS k ms bs) c k l)) := by
  have hl := hide h.len
  have hle := h.le
  have hS0 := ((Hs.nil w).alloc 24 #[.int .i64 c, .int .u8 k, .slice A n cp]).alloc 24 #[.int .i64 0, .int .u8 0, .slice none 0 0]
  have hb0 : Below w.heap.size w ((w.alloc (.cells #[.int .i64 c, .int .u8 k, .slice A n cp] 24)).alloc (.cells #[.int .i64 0, .int .u8 0, .slice none 0 0] 24)) := ((Below.refl _ _).alloc (Nat.le_refl _) _).alloc (by simp) _
  have hz0 : ((w.alloc (.cells #[.int .i64 c, .int .u8 k, .slice A n cp] 24)).alloc (.cells #[.int .i64 0, .int .u8 0, .slice none 0 0] 24)).heap.size = w.heap.size + 2 := by simp
  simp only [World.size_alloc] at hS0
  go_enter Tryz.func9, Tryz.ntmps9
  go_wp2_with fail
  generalize hW : World.alloc (World.alloc w _) _ = W0 at hS0 hb0 hz0
  try rw [hW]
  clear hW
  refine (rcheck_any c k A n cp l W0 (h.below hb0)).mono ?_
  rintro e w1 ⟨rfl, hbw⟩
  obtain ⟨hR, hP, -⟩ := hS0.below hbw
  have hb1 := Below_trans' hb0 hb0.size hbw
  have hz1 : w.heap.size + 2 ≤ w1.heap.size := by have := hbw.size; omega
  clear hS0 hb0 hbw hz0
  by_cases herr : checkS c k l = 0
  · have hr : Hid (turnP (fun ms => keptS k ms bs) c k l = ⟨0, c, k, eachS (fun ms => keptS k ms bs) l⟩) := by unfold Hid turnP; rw [if_pos herr]
    have H1 := hide herr
    rw [herr]
    clear herr
    have p0 : w1.cell? ⟨w.heap.size, 0, none⟩ = some (.int .i64 c) := hP.cell 0
    have p1 : w1.cell? ⟨w.heap.size, 1, none⟩ = some (.int .u8 k) := hP.cell 1
    go_upto_region 5 with fail
    have hbw : Below w1.heap.size w1 (w1.alloc (.cells #[.int .i64 c, .int .u8 k, .slice none 0 0] 24)) := (Below.refl _ _).alloc (Nat.le_refl _) _
    have hT : TurnR w w1.heap.size c k A n cp none 0 0 (eachS (fun ms => keptS k ms bs) (l.take 0)) (w1.alloc (.cells #[.int .i64 c, .int .u8 k, .slice none 0 0] 24)) :=
      ⟨hP.below hbw hP.lt, hR.below hbw hR.lt, Has.new _ _ _, RRows.nil_ _, Below_trans' hb1 hb1.size hbw, Off.nil_ _ _⟩
    generalize hW : World.alloc w1 _ = W2 at hT
    try rw [hW]
    clear hW hbw hP hR hb1 p0 p1
    generalize w1.heap.size = g at hT hz1 ⊢
    have hg2 : w.heap.size + 1 < g := by omega
    go_wp2_with fail
    go_loopw [8] (fun i wr => ∃ (t : Nat) (At : Option Addr) (nt ct : Nat), t ≤ n ∧ i = .int .i64 t ∧ TurnR w g c k A n cp At nt ct (eachS (fun ms => keptS k ms bs) (l.take t)) wr) (fun i _ => n - (intOf i).toNat)
    case atStart => exact ⟨0, none, 0, 0, Nat.zero_le _, rfl, hT⟩
    case round =>
      clear hT
      obtain ⟨t, At, nt, ct, ht, rfl, hT⟩ := hrel
      have p1 : wr.cell? ⟨w.heap.size, 1, none⟩ = some (.int .u8 k) := hT.P.cell 1
      have p2 : wr.cell? ⟨w.heap.size, 2, none⟩ = some (.slice A n cp) := hT.P.cell 2
      by_cases hlt : t < n
      · obtain ⟨b, off, Am, nm, cm, ms, y, rfl, hc0, hm0, hc1, hd, hat, hy⟩ := h.step hlt
        have hsmall := row_small H1.out (List.mem_of_getElem? hat.out)
        simp only at hsmall
        obtain ⟨s1, s2, s3, s4⟩ := each_bd (f := fun ms => keptS k ms bs) H1.out (t := t) (by have := hl.out; omega)
        have hyp := (check_iff.1 H1.out).2.2.2.2.2.2.2.1 _ (List.mem_of_getElem? hat.out)
        have hyt := le_tot (check_iff.1 H1.out).2.2.2.2.2.2.2.1 (List.mem_of_getElem? hat.out)
        have htt := (check_iff.1 H1.out).2.2.2.2.2.1
        simp only at hyp hyt
        have hlm := length_keptS k ms bs
        have hmn := hm0.len
        have hbd := hide (bd_keptS (k := k) (bs := bs) (fun x hx => hm0.2.2.2.1 x hx))
        have hwith : Hid (withS (eachS (fun ms => keptS k ms bs) (l.take t)) (keptS k ms bs) (cntR (eachS (fun ms => keptS k ms bs) (l.take t)) (keptS k ms bs) + y) = eachS (fun ms => keptS k ms bs) (l.take (t + 1))) := hide (by rw [each_next hat.out]; exact with_put s1 s2 (by omega))
        obtain ⟨s5, s6⟩ := cnt_bd s2 (keptS k ms bs)
        have hI : I64 (cntR (eachS (fun ms => keptS k ms bs) (l.take t)) (keptS k ms bs) + y) := ⟨by omega, by omega⟩
        have hnm : nm ≤ 1000 := by omega
        have hnL : nt ≤ 1000 := by have := hT.L.len; omega
        have hkl : (keptS k ms bs).length ≤ 1000 := by omega
        clear s1 s2 s3 s4 s5 s6 hyp hyt htt hlm hmn hsmall hd
        have c0 := keep_cell hT.B hc0
        have hmD : RInts wr.drew Am nm cm ms := hm0.below hT.B.drew
        have hlD : RBools wr.drew A' n' c' bs := h'.below hT.B.drew
        have hu1 : Below wr.heap.size wr (wr.alloc (.cells #[.int .u8 0, .slice none 0 0] 32)) := (Below.refl _ _).alloc (Nat.le_refl _) _
        have hN := Has.new wr 32 #[.int .u8 0, .slice none 0 0]
        have hmA : RInts (wr.alloc (.cells #[.int .u8 0, .slice none 0 0] 32)).drew Am nm cm ms := (hm0.below hT.B).below hu1.drew
        have hlA : RBools (wr.alloc (.cells #[.int .u8 0, .slice none 0 0] 32)).drew A' n' c' bs := (h'.below hT.B).below hu1.drew
        have hwz : w.heap.size < wr.heap.size := hT.P.lt
        have hbz : b < w.heap.size := World.block_lt_of_cell? w _ hc0
        have b1 : (0 : Int) ≤ (t : Int) := by omega
        have b2 : (t : Int) < (n : Int) := by omega
        go_upto_region 8 with fail
        go_region_held3 (fun w' => w'.cell? ⟨w.heap.size, 1, none⟩ = some (.int .u8 k) ∧ w'.cell? ⟨w.heap.size, 2, none⟩ = some (.slice (some ⟨b, off, none⟩) n cp) ∧ w'.cell? ⟨b, off + t * 2, none⟩ = some (.slice Am nm cm))
          (first
            | go_keep
            | exact ⟨q14, q24, q34⟩
            | exact ⟨(cell?_setCell_far (p := ⟨wr.heap.size, 1, none⟩) (by show w.heap.size ≠ wr.heap.size; omega)).trans ((cell?_setCell_far (p := ⟨wr.heap.size, 0, none⟩) (by show w.heap.size ≠ wr.heap.size; omega)).trans q14), (cell?_setCell_far (p := ⟨wr.heap.size, 1, none⟩) (by show w.heap.size ≠ wr.heap.size; omega)).trans ((cell?_setCell_far (p := ⟨wr.heap.size, 0, none⟩) (by show w.heap.size ≠ wr.heap.size; omega)).trans q24), (cell?_setCell_far (p := ⟨wr.heap.size, 1, none⟩) (by show b ≠ wr.heap.size; omega)).trans ((cell?_setCell_far (p := ⟨wr.heap.size, 0, none⟩) (by show b ≠ wr.heap.size; omega)).trans q34)⟩)
          (first
            | (go_at_call 27; refine (rkeep_any k Am nm cm ms A' n' c' bs _ (by with_reducible exact hmD) (by with_reducible exact hlD) hnm).mono ?_; rintro e w4 ⟨A4, n4, c4, rfl, hO4, hb4⟩; have hbU := undrew hb4; have q14 := keep_cell hbU p1; have q24 := keep_cell hbU p2; have q34 := keep_cell hbU c0)
            | (go_at_call 27; refine (rkeep_any k Am nm cm ms A' n' c' bs _ (by with_reducible exact hmA) (by with_reducible exact hlA) hnm).mono ?_; rintro e w4 ⟨A4, n4, c4, rfl, hO4, hb4⟩; have hbV := undrew hb4; have hbU := Below_trans' hu1 hu1.size hbV; have q14 := keep_cell hbU p1; have q24 := keep_cell hbU p2; have q34 := keep_cell hbU c0; have hN4 := hN.below hbV hN.lt; have n0 : w4.cell? ⟨wr.heap.size, 0, none⟩ = some (.int .u8 0) := hN4.cell 0; have n1 : w4.cell? ⟨wr.heap.size, 1, none⟩ = some (.slice none 0 0) := hN4.cell 1; have m0 := hN4.free 0; have m1 := hN4.free 1))
        · try (rename_i hh; clear hh)
          have hu5 : Below w4.heap.size w4 (w4.alloc (.cells #[.int .u8 k, .slice A4 n4 c4] 32)) := (Below.refl _ _).alloc (Nat.le_refl _) _
          have hB5 := Has.new w4 32 #[.int .u8 k, .slice A4 n4 c4]
          have hT5 := hT.below (Below_trans' hbU hbU.size hu5)
          have hm5 := (hO4.ints hbd.out).below hu5
          generalize hW : World.alloc w4 _ = W5 at hB5 hT5 hm5 ⊢
          clear hW hu5 hO4 hb4 hbU q14 q24 q34 hT p1 p2 c0 hmD hlD hmA hlA hu1 hN
          generalize w4.heap.size = gb at hB5 ⊢
          have hwl := hwith
          have hc1' := keep_cell hT5.B hc1
          have hc0' := keep_cell hT5.B hc0
          have p2 : W5.cell? ⟨w.heap.size, 2, none⟩ = some (.slice (some ⟨b, off, none⟩) n cp) := hT5.P.cell 2
          have v2 : W5.cell? ⟨g, 2, none⟩ = some (.slice At nt ct) := hT5.V.cell 2
          have x1 : W5.cell? ⟨gb, 1, none⟩ = some (.slice A4 n4 c4) := hB5.cell 1
          have f2 := hT5.V.free 2
          have hL5 := hT5.L
          have hn4 : n4 ≤ 1000 := by have := hm5.len; omega
          obtain ⟨q, hq⟩ : ∃ q, cntR (eachS (fun ms => keptS k ms bs) (l.take t)) (keptS k ms bs) = q := ⟨_, rfl⟩
          rw [hq] at hwl hI
          have HQ := hide hq
          clear hq
          have hsum : IntKind.i64.wrap (q + y) = q + y := IntWalk.i64_in _ ⟨by have := hI.1; omega, by have := hI.2; omega⟩
          go_upto_region 9 with fail
          refine wp_region_more_pick [0, 1, 2, 3, 4, 5, 6, 7, 8, 9, 10, 11, 12, 13, 14, 15] [16, 17, 18] (by kernel_rfl) (by kernel_rfl) ?_
          simp only [pickOps, List.getElem?_cons_zero, List.getElem?_cons_succ]
          repeat (go_big_quiet_step (with_reducible exact more_of (rof_val At nt ct _ A4 n4 c4 _ _ (hL5.more _) (hm5.more _) HQ.out)))
          refine wpQuiet_nil ?_
          rintro w6 ⟨qq, hw6⟩
          have hb6 := below_of_eq hw6
          clear hw6 qq
          have hT6 := hT5.below hb6
          have hm6 := hm5.below hb6
          clear p2 v2 x1 f2 hL5 hb6 hT5 hm5 hB5 hc0' hc1' hsum
          go_wp2_with fail
          have hg6 := hT6.V.lt
          refine (with_anyX (X := fun b => b = w.heap.size + 1) At nt ct _ A4 n4 c4 _ (q + y) w6 hT6.L hm6 hnL hn4 hI (fun b e => by have e : b = w.heap.size + 1 := e; omega) hT6.O.2).mono ?_
          rintro e w7 ⟨v, rfl, hO, hbw⟩
          rw [hwl.out] at hO
          obtain ⟨Aw, cw, rfl⟩ := hO.slice
          have hT7 := hT6.below hbw
          generalize (eachS (fun ms => keptS k ms bs) (l.take (t + 1))).length = nw at hO ⊢
          have f2 := hT7.V.free 2
          have v2 : w7.cell? ⟨g, 2, none⟩ = some (.slice At nt ct) := hT7.V.cell 2
          have hT8 := hT7.put hg2 hg6 hO
          clear hT6 hm6 hbw hO hT7
          go_wp2
          go_roundw
          case rel => exact ⟨t + 1, Aw, nw, cw, by omega, by go_num, hT8⟩
          case measure => simp [intOf] <;> omega
        · try (rename_i hh; clear hh)
          have hB5 := put2 (x' := .int .u8 k) (y' := .slice A4 n4 c4) hN4
          have k5 := frame2 w4 wr.heap.size (.int .u8 k) (.slice A4 n4 c4)
          have hbX := below2 hbU (Nat.le_refl _) (.int .u8 k) (.slice A4 n4 c4)
          have hT5 := hT.below hbX
          have hm5 : RInts ((w4.setCell ⟨wr.heap.size, 0, none⟩ (.int .u8 k)).setCell ⟨wr.heap.size, 1, none⟩ (.slice A4 n4 c4)) A4 n4 c4 (keptS k ms bs) :=
            (Own.frame hO4 k5 (fun b e e' => by have := (Own.own_lt hO4 e).1; have e' : b = wr.heap.size := e'; simp at this; omega)).ints hbd.out
          generalize hW : World.setCell (World.setCell w4 _ _) _ _ = W5 at hB5 hT5 hm5 ⊢
          clear hW k5 hbX hO4 hb4 hbU hbV q14 q24 q34 hN4 n0 n1 m0 m1 hT p1 p2 c0 hmD hlD hmA hlA hu1 hN
          generalize wr.heap.size = gb at hB5 ⊢
          have hwl := hwith
          have hc1' := keep_cell hT5.B hc1
          have hc0' := keep_cell hT5.B hc0
          have p2 : W5.cell? ⟨w.heap.size, 2, none⟩ = some (.slice (some ⟨b, off, none⟩) n cp) := hT5.P.cell 2
          have v2 : W5.cell? ⟨g, 2, none⟩ = some (.slice At nt ct) := hT5.V.cell 2
          have x1 : W5.cell? ⟨gb, 1, none⟩ = some (.slice A4 n4 c4) := hB5.cell 1
          have f2 := hT5.V.free 2
          have hL5 := hT5.L
          have hn4 : n4 ≤ 1000 := by have := hm5.len; omega
          obtain ⟨q, hq⟩ : ∃ q, cntR (eachS (fun ms => keptS k ms bs) (l.take t)) (keptS k ms bs) = q := ⟨_, rfl⟩
          rw [hq] at hwl hI
          have HQ := hide hq
          clear hq
          have hsum : IntKind.i64.wrap (q + y) = q + y := IntWalk.i64_in _ ⟨by have := hI.1; omega, by have := hI.2; omega⟩
          go_upto_region 9 with fail
          refine wp_region_more_pick [0, 1, 2, 3, 4, 5, 6, 7, 8, 9, 10, 11, 12, 13, 14, 15] [16, 17, 18] (by kernel_rfl) (by kernel_rfl) ?_
          simp only [pickOps, List.getElem?_cons_zero, List.getElem?_cons_succ]
          repeat (go_big_quiet_step (with_reducible exact more_of (rof_val At nt ct _ A4 n4 c4 _ _ (hL5.more _) (hm5.more _) HQ.out)))
          refine wpQuiet_nil ?_
          rintro w6 ⟨qq, hw6⟩
          have hb6 := below_of_eq hw6
          clear hw6 qq
          have hT6 := hT5.below hb6
          have hm6 := hm5.below hb6
          clear p2 v2 x1 f2 hL5 hb6 hT5 hm5 hB5 hc0' hc1' hsum
          go_wp2_with fail
          have hg6 := hT6.V.lt
          refine (with_anyX (X := fun b => b = w.heap.size + 1) At nt ct _ A4 n4 c4 _ (q + y) w6 hT6.L hm6 hnL hn4 hI (fun b e => by have e : b = w.heap.size + 1 := e; omega) hT6.O.2).mono ?_
          rintro e w7 ⟨v, rfl, hO, hbw⟩
          rw [hwl.out] at hO
          obtain ⟨Aw, cw, rfl⟩ := hO.slice
          have hT7 := hT6.below hbw
          generalize (eachS (fun ms => keptS k ms bs) (l.take (t + 1))).length = nw at hO ⊢
          have f2 := hT7.V.free 2
          have v2 : w7.cell? ⟨g, 2, none⟩ = some (.slice At nt ct) := hT7.V.cell 2
          have hT8 := hT7.put hg2 hg6 hO
          clear hT6 hm6 hbw hO hT7
          go_wp2
          go_roundw
          case rel => exact ⟨t + 1, Aw, nw, cw, by omega, by go_num, hT8⟩
          case measure => simp [intOf] <;> omega
      · have htn : Hid (l.take t = l) := List.take_of_length_le (by have := hl.out; omega)
        have b2 : ¬ (t : Int) < n := by omega
        have v0 : wr.cell? ⟨g, 0, none⟩ = some (.int .i64 c) := hT.V.cell 0
        have v1 : wr.cell? ⟨g, 1, none⟩ = some (.int .u8 k) := hT.V.cell 1
        have v2 : wr.cell? ⟨g, 2, none⟩ = some (.slice At nt ct) := hT.V.cell 2
        have hR := hT.R
        have hL := hT.L
        have hb := hT.B
        have hO9 := hT.O
        have z0 : wr.cell? ⟨w.heap.size + 1, 0, none⟩ = some (.int .i64 0) := (hR).cell 0
        have z1 : wr.cell? ⟨w.heap.size + 1, 1, none⟩ = some (.int .u8 0) := (hR).cell 1
        have z2 : wr.cell? ⟨w.heap.size + 1, 2, none⟩ = some (.slice none 0 0) := (hR).cell 2
        have y0 := (hR).free 0
        have y1 := (hR).free 1
        have y2 := (hR).free 2
        clear hT
        go_wp2
        refine retProf2 rfl rfl rfl (put3 hR) rfl rfl ⟨At, nt, ct, ?_, ?_, below3 hb (by omega) _ _ _⟩
        · rw [hr.out]; rfl
        · rw [hr.out]
          rw [htn.out] at hL
          exact hL.frameOff hO9 (frame3 wr (w.heap.size + 1) (.int .i64 c) (.int .u8 k) (.slice At nt ct))
  · have hr : Hid (turnP (fun ms => keptS k ms bs) c k l = badP (checkS c k l)) := by unfold Hid turnP; rw [if_neg herr]
    have hne : (checkS c k l != 0) = true := by rw [bne_iff_ne]; exact herr
    clear herr
    have z0 : w1.cell? ⟨w.heap.size + 1, 0, none⟩ = some (.int .i64 0) := (hR).cell 0
    have z1 : w1.cell? ⟨w.heap.size + 1, 1, none⟩ = some (.int .u8 0) := (hR).cell 1
    have z2 : w1.cell? ⟨w.heap.size + 1, 2, none⟩ = some (.slice none 0 0) := (hR).cell 2
    have y0 := (hR).free 0
    have y1 := (hR).free 1
    have y2 := (hR).free 2
    go_wp2
    refine retProf2 rfl rfl rfl (put3 hR) rfl rfl ⟨none, 0, 0, ?_, ?_, below3 hb1 (by omega) _ _ _⟩
    · rw [hr.out]; rfl
    · rw [hr.out]; exact RRows.nil_ _
/-- Renaming, errors included. -/
def renP (c k : Int) (l : List Row) (p : List Int) : PR := if checkS c k l = 0 then (if turnedS p = true ∧ (p.length : Int) = c then ⟨0, c, k, eachS (fun ms => renS k ms p) l⟩ else badP 2) else badP (checkS c k l)
theorem bd_renS {k : Int} {ms p : List Int} (hm : ∀ x ∈ ms, -9223372036854775808 ≤ x ∧ x ≤ 9223372036854775807) (hp : ∀ x ∈ p, -9223372036854775808 ≤ x ∧ x ≤ 9223372036854775807) : ∀ x ∈ renS k ms p, -9223372036854775808 ≤ x ∧ x ≤ 9223372036854775807 := by
  intro x hx
  unfold renS at hx
  split at hx
  · exact bd_partR ms.length hm hp x (List.mem_mergeSort.1 hx)
  · exact bd_partR ms.length hm hp x hx
theorem fine_of {c k : Int} {ms : List Int} (h : bcheckS k ms c = 0) : fineS k ms c = true := by
  unfold bcheckS at h
  split at h
  · cases h
  · split at h
    · assumption
    · cases h
/-- A renamed row is a new one. -/
theorem ren_new {n : Nat} {k : Int} {l : List Row} {p : List Int} (hc : checkS n k l = 0) (ht : turnedS p = true) (hl : p.length = n) {t : Nat} {ms : List Int} {y : Int} (hat : l[t]? = some (ms, y)) :
    cntR (eachS (fun ms => renS k ms p) (l.take t)) (renS k ms p) = 0 := by
  obtain ⟨-, -, -, -, -, -, ha, -, hm⟩ := check_iff.1 hc
  rw [cntR_each]
  refine wsum_zero fun r hr => decide_eq_false fun e => ?_
  obtain ⟨i, hi⟩ := List.getElem?_of_mem hr
  have hit : i < t := by have := (List.getElem?_eq_some_iff.1 hi).1; rw [List.length_take] at this; omega
  rw [List.getElem?_take_of_lt hit] at hi
  have h1 := ren_ren ht hl (hm _ (List.mem_of_getElem? hi))
  have h2 := ren_ren ht hl (hm _ (List.mem_of_getElem? hat))
  have h3 : r.1 = ms := h1.symm.trans ((congrArg (fun x => renS k x (backS p)) e).trans h2)
  have h4 := ha.lt hit hi hat
  rw [h3] at h4
  simp only [cmpL_self] at h4
  omega

set_option maxRecDepth 100000 in
set_option maxHeartbeats 4000000 in
theorem rren9_any (c k : Int) (A : Option Addr) (n cp : Nat) (l : List Row) (A' : Option Addr) (n' c' : Nat) (p : List Int) (w : World) (h : RRows w A n cp l) (h' : RInts w A' n' c' p) :
    Calls Tryz.prog 11 #[.agg #[.int .i64 c, .int .u8 k, .slice A n cp], .slice A' n' c'] w (PPost w (renP c k l p)) := by
  have hl := hide h.len
  have hlp := hide h'.len
  have hle := h.le
  have hle' := h'.le
  have hS0 := ((Hs.nil w).alloc 24 #[.int .i64 c, .int .u8 k, .slice A n cp]).alloc 24 #[.int .i64 0, .int .u8 0, .slice none 0 0]
  have hb0 : Below w.heap.size w ((w.alloc (.cells #[.int .i64 c, .int .u8 k, .slice A n cp] 24)).alloc (.cells #[.int .i64 0, .int .u8 0, .slice none 0 0] 24)) := ((Below.refl _ _).alloc (Nat.le_refl _) _).alloc (by simp) _
  have hz0 : ((w.alloc (.cells #[.int .i64 c, .int .u8 k, .slice A n cp] 24)).alloc (.cells #[.int .i64 0, .int .u8 0, .slice none 0 0] 24)).heap.size = w.heap.size + 2 := by simp
  simp only [World.size_alloc] at hS0
  go_enter Tryz.func11, Tryz.ntmps11
  go_wp2_with fail
  generalize hW : World.alloc (World.alloc w _) _ = W0 at hS0 hb0 hz0
  try rw [hW]
  clear hW
  refine (rcheck_any c k A n cp l W0 (h.below hb0)).mono ?_
  rintro e w1 ⟨rfl, hbw⟩
  obtain ⟨hR, hP, -⟩ := hS0.below hbw
  have hb1 := Below_trans' hb0 hb0.size hbw
  have hz1 : w.heap.size + 2 ≤ w1.heap.size := by have := hbw.size; omega
  clear hS0 hb0 hbw hz0
  by_cases herr : checkS c k l = 0
  · have H1 := hide herr
    have p0 : w1.cell? ⟨w.heap.size, 0, none⟩ = some (.int .i64 c) := hP.cell 0
    have p1 : w1.cell? ⟨w.heap.size, 1, none⟩ = some (.int .u8 k) := hP.cell 1
    rw [herr]
    clear herr
    go_wp2_with fail
    refine (rturned_any A' n' c' p w1 (h'.below hb1)).mono ?_
    rintro e w9 ⟨rfl, rfl⟩
    cases ht : turnedS p with
    | false =>
      have hr : Hid (renP c k l p = badP 2) := hide (by unfold renP; rw [if_pos H1.out, if_neg (by simp [ht])])
      clear ht
      have z0 : w1.cell? ⟨w.heap.size + 1, 0, none⟩ = some (.int .i64 0) := (hR).cell 0
      have z1 : w1.cell? ⟨w.heap.size + 1, 1, none⟩ = some (.int .u8 0) := (hR).cell 1
      have z2 : w1.cell? ⟨w.heap.size + 1, 2, none⟩ = some (.slice none 0 0) := (hR).cell 2
      have y0 := (hR).free 0
      have y1 := (hR).free 1
      have y2 := (hR).free 2
      go_wp2
      refine retProf2 rfl rfl rfl (put3 hR) rfl rfl ⟨none, 0, 0, ?_, ?_, below3 hb1 (by omega) _ _ _⟩
      · rw [hr.out]; rfl
      · rw [hr.out]; exact RRows.nil_ _
    | true =>
      by_cases hnc : (n' : Int) = c
      · have hr : Hid (renP c k l p = ⟨0, c, k, eachS (fun ms => renS k ms p) l⟩) := hide (by unfold renP; rw [if_pos H1.out, if_pos ⟨ht, by rw [hlp.out]; exact hnc⟩])
        have e1 : ((n' : Int) != c) = false := by simp [hnc]
        have HT := hide ht
        have HNC := hide hnc
        clear ht hnc
        go_upto_region 7 with fail
        have hbw : Below w1.heap.size w1 (w1.alloc (.cells #[.int .i64 c, .int .u8 k, .slice none 0 0] 24)) := (Below.refl _ _).alloc (Nat.le_refl _) _
        have hT : TurnR w w1.heap.size c k A n cp none 0 0 (eachS (fun ms => renS k ms p) (l.take 0)) (w1.alloc (.cells #[.int .i64 c, .int .u8 k, .slice none 0 0] 24)) :=
          ⟨hP.below hbw hP.lt, hR.below hbw hR.lt, Has.new _ _ _, RRows.nil_ _, Below_trans' hb1 hb1.size hbw, Off.nil_ _ _⟩
        generalize hW : World.alloc w1 _ = W2 at hT
        try rw [hW]
        clear hW hbw hP hR hb1 p0 p1 e1
        generalize w1.heap.size = g at hT hz1 ⊢
        have hg2 : w.heap.size + 1 < g := by omega
        go_wp2_with fail
        go_loopw [8] (fun i wr => ∃ (t : Nat) (At : Option Addr) (nt ct : Nat), t ≤ n ∧ i = .int .i64 t ∧ TurnR w g c k A n cp At nt ct (eachS (fun ms => renS k ms p) (l.take t)) wr) (fun i _ => n - (intOf i).toNat)
        case atStart => exact ⟨0, none, 0, 0, Nat.zero_le _, rfl, hT⟩
        case round =>
          clear hT
          obtain ⟨t, At, nt, ct, ht, rfl, hT⟩ := hrel
          have p1 : wr.cell? ⟨w.heap.size, 1, none⟩ = some (.int .u8 k) := hT.P.cell 1
          have p2 : wr.cell? ⟨w.heap.size, 2, none⟩ = some (.slice A n cp) := hT.P.cell 2
          by_cases hlt : t < n
          · obtain ⟨b, off, Am, nm, cm, ms, y, rfl, hc0, hm0, hc1, hd, hat, hy⟩ := h.step hlt
            have hsmall := row_small H1.out (List.mem_of_getElem? hat.out)
            simp only at hsmall
            obtain ⟨s1, s2, s3, s4⟩ := each_bd (f := fun ms => renS k ms p) H1.out (t := t) (by have := hl.out; omega)
            have hyp := (check_iff.1 H1.out).2.2.2.2.2.2.2.1 _ (List.mem_of_getElem? hat.out)
            have hck := (check_iff.1 H1.out).2.2.2.2.2.2.2.2 _ (List.mem_of_getElem? hat.out)
            simp only at hyp hck
            have hlm := length_renS k ms p
            have hmn := hm0.len
            have hbd := hide (bd_renS (k := k) (ms := ms) (p := p) (fun x hx => hm0.2.2.2.1 x hx) (fun x hx => h'.2.2.2.1 x hx))
            have hwith : Hid (withS (eachS (fun ms => renS k ms p) (l.take t)) (renS k ms p) y = eachS (fun ms => renS k ms p) (l.take (t + 1))) := hide (by
              rw [each_next hat.out]
              have h1 := with_put s1 s2 (m := renS k ms p) hyp
              rw [ren_new (n := n') (by rw [HNC.out]; exact H1.out) HT.out hlp.out hat.out, Int.zero_add] at h1
              exact h1)
            have hfine := hide (show fineS k ms n' = true from by rw [HNC.out]; exact fine_of hck)
            have hnm : nm ≤ 10 := by omega
            have hnL : nt ≤ 1000 := by have := hT.L.len; omega
            have hkl : (renS k ms p).length ≤ 1000 := by omega
            clear s1 s2 s3 s4 hyp hck hlm hmn hsmall hd
            have c0 := keep_cell hT.B hc0
            have hmD : RInts wr.drew Am nm cm ms := hm0.below hT.B.drew
            have hlD : RInts wr.drew A' n' c' p := h'.below hT.B.drew
            have hu1 : Below wr.heap.size wr (wr.alloc (.cells #[.int .u8 0, .slice none 0 0] 32)) := (Below.refl _ _).alloc (Nat.le_refl _) _
            have hN := Has.new wr 32 #[.int .u8 0, .slice none 0 0]
            have hmA : RInts (wr.alloc (.cells #[.int .u8 0, .slice none 0 0] 32)).drew Am nm cm ms := (hm0.below hT.B).below hu1.drew
            have hlA : RInts (wr.alloc (.cells #[.int .u8 0, .slice none 0 0] 32)).drew A' n' c' p := (h'.below hT.B).below hu1.drew
            have hwz : w.heap.size < wr.heap.size := hT.P.lt
            have hbz : b < w.heap.size := World.block_lt_of_cell? w _ hc0
            have b1 : (0 : Int) ≤ (t : Int) := by omega
            have b2 : (t : Int) < (n : Int) := by omega
            go_upto_region 10 with fail
            go_region_held3 (fun w' => w'.cell? ⟨w.heap.size, 1, none⟩ = some (.int .u8 k) ∧ w'.cell? ⟨w.heap.size, 2, none⟩ = some (.slice (some ⟨b, off, none⟩) n cp) ∧ w'.cell? ⟨b, off + t * 2, none⟩ = some (.slice Am nm cm))
              (first
                | go_keep
                | exact ⟨q14, q24, q34⟩
                | exact ⟨(cell?_setCell_far (p := ⟨wr.heap.size, 1, none⟩) (by show w.heap.size ≠ wr.heap.size; omega)).trans ((cell?_setCell_far (p := ⟨wr.heap.size, 0, none⟩) (by show w.heap.size ≠ wr.heap.size; omega)).trans q14), (cell?_setCell_far (p := ⟨wr.heap.size, 1, none⟩) (by show w.heap.size ≠ wr.heap.size; omega)).trans ((cell?_setCell_far (p := ⟨wr.heap.size, 0, none⟩) (by show w.heap.size ≠ wr.heap.size; omega)).trans q24), (cell?_setCell_far (p := ⟨wr.heap.size, 1, none⟩) (by show b ≠ wr.heap.size; omega)).trans ((cell?_setCell_far (p := ⟨wr.heap.size, 0, none⟩) (by show b ≠ wr.heap.size; omega)).trans q34)⟩)
              (first
                | (go_at_call 33; refine (rren8_any k Am nm cm ms A' n' c' p _ (by with_reducible exact hmD) (by with_reducible exact hlD) HT.out hfine.out hnm).mono ?_; rintro e w4 ⟨A4, n4, c4, rfl, hO4, hb4⟩; have hbU := undrew hb4; have q14 := keep_cell hbU p1; have q24 := keep_cell hbU p2; have q34 := keep_cell hbU c0)
                | (go_at_call 33; refine (rren8_any k Am nm cm ms A' n' c' p _ (by with_reducible exact hmA) (by with_reducible exact hlA) HT.out hfine.out hnm).mono ?_; rintro e w4 ⟨A4, n4, c4, rfl, hO4, hb4⟩; have hbV := undrew hb4; have hbU := Below_trans' hu1 hu1.size hbV; have q14 := keep_cell hbU p1; have q24 := keep_cell hbU p2; have q34 := keep_cell hbU c0; have hN4 := hN.below hbV hN.lt; have n0 : w4.cell? ⟨wr.heap.size, 0, none⟩ = some (.int .u8 0) := hN4.cell 0; have n1 : w4.cell? ⟨wr.heap.size, 1, none⟩ = some (.slice none 0 0) := hN4.cell 1; have m0 := hN4.free 0; have m1 := hN4.free 1))
            · try (rename_i hh; clear hh)
              have hu5 : Below w4.heap.size w4 (w4.alloc (.cells #[.int .u8 k, .slice A4 n4 c4] 32)) := (Below.refl _ _).alloc (Nat.le_refl _) _
              have hB5 := Has.new w4 32 #[.int .u8 k, .slice A4 n4 c4]
              have hT5 := hT.below (Below_trans' hbU hbU.size hu5)
              have hm5 := (hO4.ints hbd.out).below hu5
              generalize hW : World.alloc w4 _ = W5 at hB5 hT5 hm5 ⊢
              clear hW hu5 hO4 hb4 hbU q14 q24 q34 hT p1 p2 c0 hmD hlD hmA hlA hu1 hN
              generalize w4.heap.size = gb at hB5 ⊢
              have hc1' := keep_cell hT5.B hc1
              have hc0' := keep_cell hT5.B hc0
              have p2 : W5.cell? ⟨w.heap.size, 2, none⟩ = some (.slice (some ⟨b, off, none⟩) n cp) := hT5.P.cell 2
              have v2 : W5.cell? ⟨g, 2, none⟩ = some (.slice At nt ct) := hT5.V.cell 2
              have x1 : W5.cell? ⟨gb, 1, none⟩ = some (.slice A4 n4 c4) := hB5.cell 1
              have f2 := hT5.V.free 2
              have hn4 : n4 ≤ 1000 := by have := hm5.len; omega
              go_upto_region 11 with fail
              refine wp_region_more_pick [0, 1, 2, 3, 4, 5, 6, 7, 8, 9] [10, 11, 12] (by kernel_rfl) (by kernel_rfl) ?_
              simp only [pickOps, List.getElem?_cons_zero, List.getElem?_cons_succ]
              repeat (go_big_quiet_step (fail))
              refine wpQuiet_nil ?_
              rintro w6 ⟨qq, hw6⟩
              have hb6 := below_of_eq hw6
              clear hw6 qq
              have hT6 := hT5.below hb6
              have hm6 := hm5.below hb6
              clear p2 v2 x1 f2 hb6 hT5 hm5 hB5 hc0' hc1'
              go_wp2_with fail
              have hg6 := hT6.V.lt
              refine (with_anyX (X := fun b => b = w.heap.size + 1) At nt ct _ A4 n4 c4 _ y w6 hT6.L hm6 hnL hn4 hy (fun b e => by have e : b = w.heap.size + 1 := e; omega) hT6.O.2).mono ?_
              rintro e w7 ⟨v, rfl, hO, hbw⟩
              rw [hwith.out] at hO
              obtain ⟨Aw, cw, rfl⟩ := hO.slice
              have hT7 := hT6.below hbw
              generalize (eachS (fun ms => renS k ms p) (l.take (t + 1))).length = nw at hO ⊢
              have f2 := hT7.V.free 2
              have v2 : w7.cell? ⟨g, 2, none⟩ = some (.slice At nt ct) := hT7.V.cell 2
              have hT8 := hT7.put hg2 hg6 hO
              clear hT6 hm6 hbw hO hT7
              go_wp2
              go_roundw
              case rel => exact ⟨t + 1, Aw, nw, cw, by omega, by go_num, hT8⟩
              case measure => simp [intOf] <;> omega
            · try (rename_i hh; clear hh)
              have hB5 := put2 (x' := .int .u8 k) (y' := .slice A4 n4 c4) hN4
              have k5 := frame2 w4 wr.heap.size (.int .u8 k) (.slice A4 n4 c4)
              have hbX := below2 hbU (Nat.le_refl _) (.int .u8 k) (.slice A4 n4 c4)
              have hT5 := hT.below hbX
              have hm5 : RInts ((w4.setCell ⟨wr.heap.size, 0, none⟩ (.int .u8 k)).setCell ⟨wr.heap.size, 1, none⟩ (.slice A4 n4 c4)) A4 n4 c4 (renS k ms p) :=
                (Own.frame hO4 k5 (fun b e e' => by have := (Own.own_lt hO4 e).1; have e' : b = wr.heap.size := e'; simp at this; omega)).ints hbd.out
              generalize hW : World.setCell (World.setCell w4 _ _) _ _ = W5 at hB5 hT5 hm5 ⊢
              clear hW k5 hbX hO4 hb4 hbU hbV q14 q24 q34 hN4 n0 n1 m0 m1 hT p1 p2 c0 hmD hlD hmA hlA hu1 hN
              generalize wr.heap.size = gb at hB5 ⊢
              have hc1' := keep_cell hT5.B hc1
              have hc0' := keep_cell hT5.B hc0
              have p2 : W5.cell? ⟨w.heap.size, 2, none⟩ = some (.slice (some ⟨b, off, none⟩) n cp) := hT5.P.cell 2
              have v2 : W5.cell? ⟨g, 2, none⟩ = some (.slice At nt ct) := hT5.V.cell 2
              have x1 : W5.cell? ⟨gb, 1, none⟩ = some (.slice A4 n4 c4) := hB5.cell 1
              have f2 := hT5.V.free 2
              have hn4 : n4 ≤ 1000 := by have := hm5.len; omega
              go_upto_region 11 with fail
              refine wp_region_more_pick [0, 1, 2, 3, 4, 5, 6, 7, 8, 9] [10, 11, 12] (by kernel_rfl) (by kernel_rfl) ?_
              simp only [pickOps, List.getElem?_cons_zero, List.getElem?_cons_succ]
              repeat (go_big_quiet_step (fail))
              refine wpQuiet_nil ?_
              rintro w6 ⟨qq, hw6⟩
              have hb6 := below_of_eq hw6
              clear hw6 qq
              have hT6 := hT5.below hb6
              have hm6 := hm5.below hb6
              clear p2 v2 x1 f2 hb6 hT5 hm5 hB5 hc0' hc1'
              go_wp2_with fail
              have hg6 := hT6.V.lt
              refine (with_anyX (X := fun b => b = w.heap.size + 1) At nt ct _ A4 n4 c4 _ y w6 hT6.L hm6 hnL hn4 hy (fun b e => by have e : b = w.heap.size + 1 := e; omega) hT6.O.2).mono ?_
              rintro e w7 ⟨v, rfl, hO, hbw⟩
              rw [hwith.out] at hO
              obtain ⟨Aw, cw, rfl⟩ := hO.slice
              have hT7 := hT6.below hbw
              generalize (eachS (fun ms => renS k ms p) (l.take (t + 1))).length = nw at hO ⊢
              have f2 := hT7.V.free 2
              have v2 : w7.cell? ⟨g, 2, none⟩ = some (.slice At nt ct) := hT7.V.cell 2
              have hT8 := hT7.put hg2 hg6 hO
              clear hT6 hm6 hbw hO hT7
              go_wp2
              go_roundw
              case rel => exact ⟨t + 1, Aw, nw, cw, by omega, by go_num, hT8⟩
              case measure => simp [intOf] <;> omega
          · have htn : Hid (l.take t = l) := List.take_of_length_le (by have := hl.out; omega)
            have b2 : ¬ (t : Int) < n := by omega
            have v0 : wr.cell? ⟨g, 0, none⟩ = some (.int .i64 c) := hT.V.cell 0
            have v1 : wr.cell? ⟨g, 1, none⟩ = some (.int .u8 k) := hT.V.cell 1
            have v2 : wr.cell? ⟨g, 2, none⟩ = some (.slice At nt ct) := hT.V.cell 2
            have hR := hT.R
            have hL := hT.L
            have hb := hT.B
            have hO9 := hT.O
            have z0 : wr.cell? ⟨w.heap.size + 1, 0, none⟩ = some (.int .i64 0) := (hR).cell 0
            have z1 : wr.cell? ⟨w.heap.size + 1, 1, none⟩ = some (.int .u8 0) := (hR).cell 1
            have z2 : wr.cell? ⟨w.heap.size + 1, 2, none⟩ = some (.slice none 0 0) := (hR).cell 2
            have y0 := (hR).free 0
            have y1 := (hR).free 1
            have y2 := (hR).free 2
            clear hT
            go_wp2
            refine retProf2 rfl rfl rfl (put3 hR) rfl rfl ⟨At, nt, ct, ?_, ?_, below3 hb (by omega) _ _ _⟩
            · rw [hr.out]; rfl
            · rw [hr.out]
              rw [htn.out] at hL
              exact hL.frameOff hO9 (frame3 wr (w.heap.size + 1) (.int .i64 c) (.int .u8 k) (.slice At nt ct))
      · have hr : Hid (renP c k l p = badP 2) := hide (by unfold renP; rw [if_pos H1.out, if_neg (by rw [hlp.out]; exact fun e => hnc e.2)])
        have e1 : ((n' : Int) != c) = true := by simpa using hnc
        clear ht hnc
        have z0 : w1.cell? ⟨w.heap.size + 1, 0, none⟩ = some (.int .i64 0) := (hR).cell 0
        have z1 : w1.cell? ⟨w.heap.size + 1, 1, none⟩ = some (.int .u8 0) := (hR).cell 1
        have z2 : w1.cell? ⟨w.heap.size + 1, 2, none⟩ = some (.slice none 0 0) := (hR).cell 2
        have y0 := (hR).free 0
        have y1 := (hR).free 1
        have y2 := (hR).free 2
        go_wp2
        refine retProf2 rfl rfl rfl (put3 hR) rfl rfl ⟨none, 0, 0, ?_, ?_, below3 hb1 (by omega) _ _ _⟩
        · rw [hr.out]; rfl
        · rw [hr.out]; exact RRows.nil_ _
  · have hr : Hid (renP c k l p = badP (checkS c k l)) := by unfold Hid renP; rw [if_neg herr]
    have hne : (checkS c k l != 0) = true := by rw [bne_iff_ne]; exact herr
    clear herr
    have z0 : w1.cell? ⟨w.heap.size + 1, 0, none⟩ = some (.int .i64 0) := (hR).cell 0
    have z1 : w1.cell? ⟨w.heap.size + 1, 1, none⟩ = some (.int .u8 0) := (hR).cell 1
    have z2 : w1.cell? ⟨w.heap.size + 1, 2, none⟩ = some (.slice none 0 0) := (hR).cell 2
    have y0 := (hR).free 0
    have y1 := (hR).free 1
    have y2 := (hR).free 2
    go_wp2
    refine retProf2 rfl rfl rfl (put3 hR) rfl rfl ⟨none, 0, 0, ?_, ?_, below3 hb1 (by omega) _ _ _⟩
    · rw [hr.out]; rfl
    · rw [hr.out]; exact RRows.nil_ _
end Go.Proofs.YtleniljhacnikaaGreat

namespace Go.Proofs.YtleniljhacnikaaGreat
open Go.RowKit Go.Proofs
attribute [local go_sem] cell?_more cell?_alloc_some cell?_setCell_far frozen?_alloc_some frozen?_more

set_option maxRecDepth 100000 in
set_option maxHeartbeats 4000000 in
theorem brename_bad (k : Int) (A : Option Addr) (n c : Nat) (A' : Option Addr) (n' c' : Nat) (p : List Int) (w : World) (h' : RInts w A' n' c' p) (hp : turnedS p = false) :
    Calls Tryz.prog 30 #[.agg #[.int .u8 k, .slice A n c], .slice A' n' c'] w fun e w' => e = .returned (.tuple #[.agg #[.int .u8 0, .slice none 0 0], .int .i64 2]) ∧ Below w.heap.size w w' := by
  have hS0 := ((Hs.nil w).alloc 32 #[.int .u8 k, .slice A n c]).alloc 32 #[.int .u8 0, .slice none 0 0]
  have hb0 := ((Below.refl w.heap.size w).alloc (Nat.le_refl _) (.cells #[.int .u8 k, .slice A n c] 32)).alloc (by simp) (.cells #[.int .u8 0, .slice none 0 0] 32)
  simp only [World.size_alloc] at hS0
  go_enter Tryz.func30, Tryz.ntmps30
  go_wp2_with fail
  generalize hW : World.alloc _ _ = W0 at hS0 hb0
  try rw [hW]
  clear hW
  refine (bturned_any A' n' c' p W0 (h'.below hb0)).mono ?_
  rintro e w1 ⟨rfl, hbw⟩
  rw [hp]
  have hR := (hS0.below hbw).1
  have hb1 := Below_trans' hb0 hb0.size hbw
  clear hS0 hb0 hbw
  have r0 : w1.cell? ⟨w.heap.size + 1, 0, none⟩ = some (.int .u8 0) := hR.cell 0
  have r1 : w1.cell? ⟨w.heap.size + 1, 1, none⟩ = some (.slice none 0 0) := hR.cell 1
  have f0 := hR.free 0
  have f1 := hR.free 1
  go_wp2
  exact retBal2 rfl rfl rfl (put2 hR) rfl rfl ⟨rfl, below2 hb1 (by omega) _ _⟩
theorem brename_empty (A' : Option Addr) (n' c' : Nat) (p : List Int) (w : World) (h' : RInts w A' n' c' p) {E : Int} (hE : (if turnedS p = true then 0 else 2) = E) :
    Calls Tryz.prog 30 #[.agg #[.int .u8 1, .slice none 0 0], .slice A' n' c'] w fun e w' => ∃ kx A1 n1 c1, e = .returned (.tuple #[.agg #[.int .u8 kx, .slice A1 n1 c1], .int .i64 E]) ∧ Below w.heap.size w w' := by
  cases hp : turnedS p with
  | false =>
    rw [hp] at hE
    simp at hE
    subst hE
    exact (brename_bad 1 none 0 0 A' n' c' p w h' hp).mono fun e w' ⟨h1, h2⟩ => ⟨0, none, 0, 0, h1, h2⟩
  | true =>
    rw [hp] at hE
    simp at hE
    subst hE
    exact (brename_any 1 none 0 0 [] A' n' c' p w (RInts.nil_ _) h' hp (by simp [fineS, nodupB]) (by omega)).mono fun e w' ⟨A1, n1, c1, h1, _, _, h2⟩ => ⟨1, A1, n1, c1, h1, h2⟩

set_option maxRecDepth 100000 in
set_option maxHeartbeats 4000000 in
theorem prename_err (c k : Int) (A : Option Addr) (n cp : Nat) (l : List Row) (A' : Option Addr) (n' c' : Nat) (p : List Int) (w : World) (h : RRows w A n cp l) (h' : RInts w A' n' c' p) (hno : ¬ (checkS c k l = 0 ∧ turnedS p = true ∧ (n' : Int) = c)) :
    Calls Tryz.prog 10 #[.agg #[.int .i64 c, .int .u8 k, .slice A n cp], .slice A' n' c'] w (PPostO w (renP c k l p)) := by
  have eg : ∀ args w, (callFunc 31 args).run Tryz.prog w = .ok (.enter 31 args) w := enters_of Tryz.func31 (by kernel_rfl) rfl
  have hlp := hide h'.len
  have hS0 := ((((Hs.nil w).alloc 24 #[.int .i64 c, .int .u8 k, .slice A n cp]).alloc 26 #[.slice A' n' c']).alloc 24 #[.int .i64 0, .int .u8 0, .slice none 0 0]).alloc 32 #[.int .u8 1, .slice none 0 0]
  have hb0 : Below w.heap.size w ((((w.alloc (.cells #[.int .i64 c, .int .u8 k, .slice A n cp] 24)).alloc (.cells #[.slice A' n' c'] 26)).alloc (.cells #[.int .i64 0, .int .u8 0, .slice none 0 0] 24)).alloc (.cells #[.int .u8 1, .slice none 0 0] 32)) := ((((Below.refl _ _).alloc (Nat.le_refl _) _).alloc (by simp) _).alloc (by simp; omega) _).alloc (by simp; omega) _
  have hz0 : ((((w.alloc (.cells #[.int .i64 c, .int .u8 k, .slice A n cp] 24)).alloc (.cells #[.slice A' n' c'] 26)).alloc (.cells #[.int .i64 0, .int .u8 0, .slice none 0 0] 24)).alloc (.cells #[.int .u8 1, .slice none 0 0] 32)).heap.size = w.heap.size + 4 := by simp
  simp only [World.size_alloc] at hS0
  obtain ⟨E, hE⟩ : ∃ E : Int, (if turnedS p = true then 0 else 2) = E := ⟨_, rfl⟩
  have HE := hide hE
  have Hno := hide hno
  clear hE hno
  go_enter Tryz.func10, Tryz.ntmps10
  go_wp2_with fail
  generalize hW : World.alloc (World.alloc (World.alloc _ _) _) _ = W0 at hS0 hb0 hz0
  try rw [hW]
  clear hW
  refine (brename_empty A' n' c' p W0 (h'.below hb0) HE.out).mono ?_
  rintro e w1 ⟨kx, A1, n1, c1, rfl, hbw⟩
  have hS1 := hS0.below hbw
  have hb1 := Below_trans' hb0 hb0.size hbw
  have hz1 : w.heap.size + 4 ≤ w1.heap.size := by have := hbw.size; omega
  clear hS0 hb0 hbw hz0
  go_upto_region 3 with fail
  have hu2 : Below w1.heap.size w1 (w1.alloc (.cells #[.int .u8 kx, .slice A1 n1 c1] 32)) := (Below.refl _ _).alloc (Nat.le_refl _) _
  have hS2 := hS1.below hu2
  have hb2 := Below_trans' hb1 hb1.size hu2
  have hz2 := Nat.le_trans hz1 hu2.size
  clear hS1 hb1 hz1
  generalize hW : World.alloc _ _ = W2 at hS2 hb2 hz2 hu2
  try rw [hW]
  clear hW hu2
  generalize w1.heap.size = gx
  have p0 : W2.cell? ⟨w.heap.size, 0, none⟩ = some (.int .i64 c) := hS2.2.2.2.1.cell 0
  have p1 : W2.cell? ⟨w.heap.size, 1, none⟩ = some (.int .u8 k) := hS2.2.2.2.1.cell 1
  have p2 : W2.cell? ⟨w.heap.size, 2, none⟩ = some (.slice A n cp) := hS2.2.2.2.1.cell 2
  go_wp2_with fail
  refine (pcheck_any _ _ _ _ _ l _ (h.below hb2)).mono ?_
  rintro e w3 ⟨rfl, hbw⟩
  have hS3 := hS2.below hbw
  have hb3 := Below_trans' hb2 hb2.size hbw
  have hz3 := Nat.le_trans hz2 hbw.size
  clear hS2 hb2 hz2 hbw p0 p1 p2
  have p0 : w3.cell? ⟨w.heap.size, 0, none⟩ = some (.int .i64 c) := hS3.2.2.2.1.cell 0
  have p1 : w3.cell? ⟨w.heap.size, 1, none⟩ = some (.int .u8 k) := hS3.2.2.2.1.cell 1
  have p2 : w3.cell? ⟨w.heap.size, 2, none⟩ = some (.slice A n cp) := hS3.2.2.2.1.cell 2
  have l0 : w3.cell? ⟨w.heap.size + 1, 0, none⟩ = some (.slice A' n' c') := hS3.2.2.1.cell 0
  have hR3 : Has w3 (w.heap.size + 2) 24 #[.int .i64 0, .int .u8 0, .slice none 0 0] := hS3.2.1
  by_cases hck : checkS c k l = 0
  · have hr : Hid (renP c k l p = badP 2) := hide (by
      unfold renP
      rw [if_pos hck, if_neg (fun e => Hno.out ⟨hck, e.1, by rw [← hlp.out]; exact e.2⟩)])
    rw [hck]
    cases ht : turnedS p with
    | false =>
      obtain rfl : E = 2 := by have := HE.out; rw [ht] at this; simpa using this.symm
      clear hck ht HE Hno
      have z0 : w3.cell? ⟨w.heap.size + 2, 0, none⟩ = some (.int .i64 0) := (hR3).cell 0
      have z1 : w3.cell? ⟨w.heap.size + 2, 1, none⟩ = some (.int .u8 0) := (hR3).cell 1
      have z2 : w3.cell? ⟨w.heap.size + 2, 2, none⟩ = some (.slice none 0 0) := (hR3).cell 2
      have y0 := (hR3).free 0
      have y1 := (hR3).free 1
      have y2 := (hR3).free 2
      go_wp2
      refine retProf2 rfl rfl rfl (put3 hR3) rfl rfl ⟨none, 0, 0, ?_, ?_, below3 hb3 (by omega) _ _ _⟩
      · rw [hr.out]; rfl
      · rw [hr.out]; exact ORows.nil_ _ _
    | true =>
      obtain rfl : E = 0 := by have := HE.out; rw [ht] at this; simpa using this.symm
      have e1 : ((n' : Int) != c) = true := by
        rw [bne_iff_ne]
        exact fun e => Hno.out ⟨hck, ht, e⟩
      clear hck ht HE Hno
      have z0 : w3.cell? ⟨w.heap.size + 2, 0, none⟩ = some (.int .i64 0) := (hR3).cell 0
      have z1 : w3.cell? ⟨w.heap.size + 2, 1, none⟩ = some (.int .u8 0) := (hR3).cell 1
      have z2 : w3.cell? ⟨w.heap.size + 2, 2, none⟩ = some (.slice none 0 0) := (hR3).cell 2
      have y0 := (hR3).free 0
      have y1 := (hR3).free 1
      have y2 := (hR3).free 2
      go_wp2
      refine retProf2 rfl rfl rfl (put3 hR3) rfl rfl ⟨none, 0, 0, ?_, ?_, below3 hb3 (by omega) _ _ _⟩
      · rw [hr.out]; rfl
      · rw [hr.out]; exact ORows.nil_ _ _
  · have hr : Hid (renP c k l p = badP (checkS c k l)) := hide (by unfold renP; rw [if_neg hck])
    have ht4 : turnP (fun ms => renS k ms p) c k l = badP (checkS c k l) := by unfold turnP; rw [if_neg hck]
    have hne : (checkS c k l == 0) = false := by simpa using hck
    have Hck := hide hck
    clear hck
    go_wp2_with fail
    refine (turned_any 31 #[.pointer (some ⟨w.heap.size + 1, 0, none⟩)] eg (fun ms => renS k ms p) c k A n cp l w3 (h.below hb3) (fun hck => absurd hck Hck.out) (fun hck => absurd hck Hck.out)).mono ?_
    rintro e w4 ⟨A4, n4, c4, rfl, hr4, hbw⟩
    have hR := hR3.below hbw hR3.lt
    have hb4 := Below_trans' hb3 hb3.size hbw
    rw [ht4] at hr4 ⊢
    simp only [badP] at hr4 ⊢
    have k3 := frame3 w4 (w.heap.size + 2) (.int .i64 0) (.int .u8 0) (.slice A4 n4 c4)
    have hr5 := (hr4.frame k3 (fun b hb _ e => absurd (show b = w.heap.size + 2 from e) (by omega))).mono (show w.heap.size ≤ w3.heap.size by omega)
    have z0 : w4.cell? ⟨w.heap.size + 2, 0, none⟩ = some (.int .i64 0) := (hR).cell 0
    have z1 : w4.cell? ⟨w.heap.size + 2, 1, none⟩ = some (.int .u8 0) := (hR).cell 1
    have z2 : w4.cell? ⟨w.heap.size + 2, 2, none⟩ = some (.slice none 0 0) := (hR).cell 2
    have y0 := (hR).free 0
    have y1 := (hR).free 1
    have y2 := (hR).free 2
    clear hS3 hb3 hbw eg hz3 k3 hr4 ht4 p0 p1 p2 l0 hR3
    go_wp2
    refine retProf2 rfl rfl rfl (put3 hR) rfl rfl ⟨A4, n4, c4, ?_, ?_, below3 hb4 (by omega) _ _ _⟩
    · rw [hr.out]; rfl
    · rw [hr.out]; exact hr5
theorem prename_all (c k : Int) (A : Option Addr) (n cp : Nat) (l : List Row) (A' : Option Addr) (n' c' : Nat) (p : List Int) (w : World) (h : RRows w A n cp l) (h' : RInts w A' n' c' p) :
    Calls Tryz.prog 10 #[.agg #[.int .i64 c, .int .u8 k, .slice A n cp], .slice A' n' c'] w (PPostO w (renP c k l p)) := by
  by_cases hall : checkS c k l = 0 ∧ turnedS p = true ∧ (n' : Int) = c
  · obtain ⟨h1, h2, h3⟩ := hall
    have e : renP c k l p = ⟨0, c, k, eachS (fun ms => renS k ms p) l⟩ := by
      unfold renP
      rw [if_pos h1, if_pos ⟨h2, by rw [h'.len]; exact h3⟩]
    rw [e]
    exact prename_any c k A n cp l A' n' c' p w h h' h1 h2 h3
  · exact prename_err c k A n cp l A' n' c' p w h h' hall
end Go.Proofs.YtleniljhacnikaaGreat

namespace Go.Proofs.YtleniljhacnikaaGreat
open Go.RowKit Go.Proofs
attribute [local go_sem] cell?_more cell?_alloc_some cell?_setCell_far frozen?_alloc_some frozen?_more

set_option maxRecDepth 100000 in
set_option maxHeartbeats 4000000 in
theorem rmake_any (c k : Int) (A : Option Addr) (n cp : Nat) (bl : List Bal) (w : World) (h : RBals w A n cp bl) :
    Calls Tryz.prog 13 #[.int .i64 c, .int .u8 k, .slice A n cp] w (PPostO w (makeP c k bl)) := by
  have hle := h.le
  have hl := hide h.len
  have hb0 : Below w.heap.size w (w.alloc (.cells #[.int .i64 0, .int .u8 0, .slice none 0 0] 24)) := (Below.refl _ _).alloc (Nat.le_refl _) _
  have hR0 : Has (w.alloc (.cells #[.int .i64 0, .int .u8 0, .slice none 0 0] 24)) w.heap.size 24 #[.int .i64 0, .int .u8 0, .slice none 0 0] := Has.new _ _ _
  have hz0 : (w.alloc (.cells #[.int .i64 0, .int .u8 0, .slice none 0 0] 24)).heap.size = w.heap.size + 1 := by simp
  obtain ⟨r0, hr0⟩ : ∃ r0 : PR, r0 = if newErr c k = 0 then ⟨0, c, k, []⟩ else badP 2 := ⟨_, rfl⟩
  have hnv : newV c k = .agg #[.int .i64 r0.c, .int .u8 r0.k, .slice none 0 0] ∧ newErr c k = r0.err := by
    by_cases hn : newErr c k = 0
    · rw [if_pos hn] at hr0; subst hr0; unfold newV; rw [if_pos hn]; exact ⟨rfl, hn⟩
    · rw [if_neg hn] at hr0; subst hr0; unfold newV; rw [if_neg hn]
      refine ⟨rfl, ?_⟩
      unfold newErr at hn ⊢
      split
      · rfl
      · rename_i h2; rw [if_neg h2] at hn; exact absurd rfl hn
  have hl0 : r0.l = [] := by rw [hr0]; split <;> rfl
  have Hr0 : Hid (r0 = makeP c k (bl.take 0)) := by rw [hr0]; rfl
  have Hl0 := hide hl0
  have HN1 := hide hnv.1
  have HN2 := hide hnv.2
  clear hr0 hl0 hnv
  go_enter Tryz.func13, Tryz.ntmps13
  go_wp2_with fail
  refine (rnew_any c k _).mono ?_
  rintro e w1 ⟨rfl, hbw⟩
  rw [HN1.out, HN2.out]
  have hR1 := hR0.below hbw hR0.lt
  have hb1 := Below_trans' hb0 hb0.size hbw
  have hz1 : w.heap.size + 1 ≤ w1.heap.size := by have := hbw.size; omega
  clear hbw hR0 hb0 hz0
  go_upto_region 2 with fail
  have hu2 : Below w1.heap.size w1 (w1.alloc (.cells #[.int .i64 r0.c, .int .u8 r0.k, .slice none 0 0] 24)) := (Below.refl _ _).alloc (Nat.le_refl _) _
  have hV2 : Has (w1.alloc (.cells #[.int .i64 r0.c, .int .u8 r0.k, .slice none 0 0] 24)) w1.heap.size 24 #[.int .i64 r0.c, .int .u8 r0.k, .slice none 0 0] := Has.new _ _ _
  have hR2 := hR1.below hu2 hR1.lt
  have hb2 := Below_trans' hb1 hb1.size hu2
  have hz2 : w1.heap.size < (w1.alloc (.cells #[.int .i64 r0.c, .int .u8 r0.k, .slice none 0 0] 24)).heap.size := by simp
  generalize hW : World.alloc w1 _ = W2 at hV2 hR2 hb2 hz2
  try rw [hW]
  clear hW hu2 hR1 hb1
  generalize w1.heap.size = g1 at hV2 hz1 hz2 ⊢
  have hVV : PVar W2 (g1 + 1) g1 r0 := ⟨none, 0, 0, hV2, by rw [Hl0.out]; exact ORows.nil_ _ _⟩
  clear hV2
  go_wp2_with fail
  go_loopw [9, 10] (fun s9 i wr => ∃ (t : Nat) (r : PR), t ≤ n ∧ i = .int .i64 t ∧ s9 = .int .i64 r.err ∧ Hid (r = makeP c k (bl.take t)) ∧ PVar wr (g1 + 1) g1 r ∧ Has wr w.heap.size 24 #[.int .i64 0, .int .u8 0, .slice none 0 0] ∧ Below w.heap.size w wr ∧ g1 < wr.heap.size) (fun _ i _ => n - (intOf i).toNat)
  case atStart => exact ⟨0, r0, Nat.zero_le _, rfl, rfl, Hr0, hVV, hR2, hb2, hz2⟩
  case round =>
    clear hVV hR2 hb2 hz2
    obtain ⟨t, r, ht, rfl, rfl, hr, hV, hR, hb, hz⟩ := hrel
    by_cases hlt : t < n
    · have b1 : (0 : Int) ≤ (t : Int) := by omega
      have b2 : (t : Int) < (n : Int) := by omega
      by_cases he : r.err = 0
      · obtain ⟨b, off, Am, nm, cm, kb, ms, rfl, hc0, hc1, hm0, hat⟩ := h.step hlt
        obtain ⟨r', hr'⟩ : ∃ r', r' = addP r.c r.k r.l kb ms 1 := ⟨_, rfl⟩
        have hnext : Hid (r' = makeP c k (bl.take (t + 1))) := by unfold Hid; rw [makeP_take hat.out, ← hr.out]; unfold addS; rw [if_pos he]; exact hr'
        have he' : (r.err == 0) = true := by simp [he]
        have q0 := keep_cell hb hc0
        have q1 := keep_cell hb hc1
        obtain ⟨A9, n9, c9, hP9, hO9⟩ := hV
        have p0 : wr.cell? ⟨g1, 0, none⟩ = some (.int .i64 r.c) := hP9.cell 0
        have p1 : wr.cell? ⟨g1, 1, none⟩ = some (.int .u8 r.k) := hP9.cell 1
        have p2 : wr.cell? ⟨g1, 2, none⟩ = some (.slice A9 n9 c9) := hP9.cell 2
        have HA : Calls Tryz.prog 35 #[.agg #[.int .i64 r.c, .int .u8 r.k, .slice A9 n9 c9], .agg #[.int .u8 kb, .slice Am nm cm], .int .i64 1] wr.drew (PPostO wr.drew r') := by
          rw [hr']
          exact radd_any r.c r.k A9 n9 c9 r.l kb Am nm cm ms 1 wr.drew (hO9.rows.below (Below.refl _ _).drew) (hm0.below hb.drew)
        clear he hr' hat hc0 hc1 hr
        go_upto_region 5 with fail
        go_region_with (go_at_call 35; refine HA.mono ?_; rintro e w4 ⟨A4, n4, c4, rfl, hO4, hbw4⟩; have hbw := undrew hbw4; have hP4 := hP9.below hbw hP9.lt; have p04 : w4.cell? ⟨g1, 0, none⟩ = some (.int .i64 r.c) := hP4.cell 0; have p14 : w4.cell? ⟨g1, 1, none⟩ = some (.int .u8 r.k) := hP4.cell 1; have p24 : w4.cell? ⟨g1, 2, none⟩ = some (.slice A9 n9 c9) := hP4.cell 2; have f0 := hP4.free 0; have f1 := hP4.free 1; have f2 := hP4.free 2)
        all_goals
          have hR4 := hR.below hbw hR.lt
          have hb4 := Below_trans' hb hb.size hbw
          have hz4 := Nat.lt_of_lt_of_le hz hbw.size
          have hO4' : ORows w4 (g1 + 1) (.slice A4 n4 c4) r'.l := hO4.mono (show g1 + 1 ≤ wr.heap.size by omega)
          have hP5 := put3 (x' := .int .i64 r'.c) (y' := .int .u8 r'.k) (z' := .slice A4 n4 c4) hP4
          have k5 := frame3 w4 g1 (.int .i64 r'.c) (.int .u8 r'.k) (.slice A4 n4 c4)
          have hO5 := hO4'.frame k5 (fun b hb _ e => by have e : b = g1 := e; omega)
          have hR5 := k5.has hR4 (by show ¬ (w.heap.size = g1); omega)
          have hb5 := below3 hb4 (show w.heap.size ≤ g1 by omega) (.int .i64 r'.c) (.int .u8 r'.k) (.slice A4 n4 c4)
          have hz5 := Nat.lt_of_lt_of_le hz4 k5.size
          clear hR4 hb4 hz4 hO4 hO4' hP4 k5 hR hb hz hP9 hO9 HA hbw hbw4
          go_wp2
          go_roundw
          case rel => exact ⟨t + 1, r', by omega, by go_num, rfl, hnext, ⟨A4, n4, c4, hP5, hO5⟩, hR5, hb5, hz5⟩
          case measure => simp [intOf] <;> omega
      · have hfin : Hid (makeP c k bl = r) := by unfold Hid; rw [makeP_stuck (t := t) (by rw [← hr.out]; exact he), ← hr.out]
        have he' : (r.err == 0) = false := by simpa using he
        clear he hr
        obtain ⟨A9, n9, c9, hP9, hO9⟩ := hV
        have hGl := hP9.lt
        have z0 : wr.cell? ⟨w.heap.size, 0, none⟩ = some (.int .i64 0) := hR.cell 0
        have z1 : wr.cell? ⟨w.heap.size, 1, none⟩ = some (.int .u8 0) := hR.cell 1
        have z2 : wr.cell? ⟨w.heap.size, 2, none⟩ = some (.slice none 0 0) := hR.cell 2
        have y0 := hR.free 0
        have y1 := hR.free 1
        have y2 := hR.free 2
        have p0 : wr.cell? ⟨g1, 0, none⟩ = some (.int .i64 r.c) := hP9.cell 0
        have p1 : wr.cell? ⟨g1, 1, none⟩ = some (.int .u8 r.k) := hP9.cell 1
        have p2 : wr.cell? ⟨g1, 2, none⟩ = some (.slice A9 n9 c9) := hP9.cell 2
        clear hP9 hGl
        go_wp2
        refine retProf2 rfl rfl rfl (put3 hR) rfl rfl ⟨A9, n9, c9, ?_, ?_, below3 hb (by omega) _ _ _⟩
        · rw [hfin.out]; rfl
        · rw [hfin.out]
          exact (hO9.frame (frame3 wr w.heap.size _ _ _) (fun b hb _ e => by have e : b = w.heap.size := e; omega)).mono (by omega)
    · have hfin : Hid (makeP c k bl = r) := by unfold Hid; rw [hr.out, List.take_of_length_le (by have := hl.out; omega)]
      have b2 : ¬ (t : Int) < (n : Int) := by omega
      clear hlt ht hr
      obtain ⟨A9, n9, c9, hP9, hO9⟩ := hV
      have hGl := hP9.lt
      have z0 : wr.cell? ⟨w.heap.size, 0, none⟩ = some (.int .i64 0) := hR.cell 0
      have z1 : wr.cell? ⟨w.heap.size, 1, none⟩ = some (.int .u8 0) := hR.cell 1
      have z2 : wr.cell? ⟨w.heap.size, 2, none⟩ = some (.slice none 0 0) := hR.cell 2
      have y0 := hR.free 0
      have y1 := hR.free 1
      have y2 := hR.free 2
      have p0 : wr.cell? ⟨g1, 0, none⟩ = some (.int .i64 r.c) := hP9.cell 0
      have p1 : wr.cell? ⟨g1, 1, none⟩ = some (.int .u8 r.k) := hP9.cell 1
      have p2 : wr.cell? ⟨g1, 2, none⟩ = some (.slice A9 n9 c9) := hP9.cell 2
      clear hP9 hGl
      go_wp2
      refine retProf2 rfl rfl rfl (put3 hR) rfl rfl ⟨A9, n9, c9, ?_, ?_, below3 hb (by omega) _ _ _⟩
      · rw [hfin.out]; rfl
      · rw [hfin.out]
        exact (hO9.frame (frame3 wr w.heap.size _ _ _) (fun b hb _ e => by have e : b = w.heap.size := e; omega)).mono (by omega)
end Go.Proofs.YtleniljhacnikaaGreat
