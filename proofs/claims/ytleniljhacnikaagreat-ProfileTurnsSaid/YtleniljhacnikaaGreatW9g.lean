/-
  The program's Twin.
-/
import Derived.Test.YtleniljhacnikaaGreatW9f
import Derived.Deep.RegionHeld3
namespace Go.Proofs.YtleniljhacnikaaGreat
open Go.RowKit Go.Proofs
attribute [local go_sem] cell?_more cell?_alloc_some cell?_setCell_far frozen?_alloc_some frozen?_more

/-- What Twin leaves: a profile whose rows are its own. -/
def TwinPost (w : World) (c k : Int) (l : List Row) (e : Ending) (w' : World) : Prop :=
  ∃ v, e = .returned (.agg #[.int .i64 c, .int .u8 k, v]) ∧ ORows w' w.heap.size v l ∧ Below w.heap.size w w'

set_option maxRecDepth 100000 in
set_option maxHeartbeats 2000000 in
theorem twin_any (c k : Int) (A : Option Addr) (n cp : Nat) (l : List Row) (w : World) (h : RRows w A n cp l) (hn : n ≤ 1000000) (hm : ∀ r ∈ l, r.1.length ≤ 1000000) :
    Calls Tryz.prog 37 #[.agg #[.int .i64 c, .int .u8 k, .slice A n cp]] w (TwinPost w c k l) := by
  have hl := hide h.len
  have Hm := hide hm
  clear hm
  have hS0 := ((Hs.nil w).alloc 24 #[.int .i64 c, .int .u8 k, .slice A n cp]).alloc 24 #[.int .i64 0, .int .u8 0, .slice none 0 0]
  have hb0 : Below w.heap.size w ((w.alloc (.cells #[.int .i64 c, .int .u8 k, .slice A n cp] 24)).alloc (.cells #[.int .i64 0, .int .u8 0, .slice none 0 0] 24)) := ((Below.refl _ _).alloc (Nat.le_refl _) _).alloc (by simp) _
  go_enter Tryz.func37, Tryz.ntmps37
  go_wp2_with fail
  have hz0 : ((w.alloc (.cells #[.int .i64 c, .int .u8 k, .slice A n cp] 24)).alloc (.cells #[.int .i64 0, .int .u8 0, .slice none 0 0] 24)).heap.size = w.heap.size + 2 := by simp
  simp only [World.size_alloc] at hS0
  generalize hW : World.alloc (World.alloc _ _) _ = W0 at hS0 hb0 hz0
  try rw [hW]
  clear hW
  refine (cloneR_any A n cp l w W0 h hb0 hn).mono ?_
  rintro e w1 ⟨A1, c1, cs, rfl, hcs, hC, hbw⟩
  obtain ⟨hR, hP, -⟩ := hS0.below hbw
  have hb1 := Below_trans' hb0 hb0.size hbw
  have Hcs := hide hcs
  have hcl : Hid (cs.length = n) := by have := hl.out; rw [← hcs] at this; simpa [Hid] using this
  rw [hz0] at hC
  have hz1 : w.heap.size + 2 ≤ w1.heap.size := by have := hbw.size; omega
  clear hS0 hb0 hbw hz0 hcs
  have hfr := hP.free 2
  have hp2 : w1.cell? ⟨w.heap.size, 2, none⟩ = some (.slice A n cp) := hP.cell 2
  have hC2 := hC.frame (Frame'.setCell (p := ⟨w.heap.size, 2, none⟩) (Frame'.refl (fun b => b = w.heap.size) w1) (.inl rfl) (.slice A1 n c1)) (fun b hb _ e => by omega) (by omega)
  have hP2 := hP.put 2 (.slice A1 n c1)
  have hR2 := hR.far (p := ⟨w.heap.size, 2, none⟩) (by show w.heap.size + 1 ≠ w.heap.size; omega) (.slice A1 n c1)
  have hb2 := hb1.setCell (p := ⟨w.heap.size, 2, none⟩) (Nat.le_refl _) (.slice A1 n c1)
  go_wp2_with fail
  generalize hW : World.setCell _ _ _ = W2 at hC2 hP2 hR2 hb2
  try rw [hW]
  have hz2 : w.heap.size + 2 ≤ W2.heap.size := by rw [← hW]; simpa using hz1
  clear hW hC hP hR hb1 hz1 hfr hp2
  have hP2 : Has W2 w.heap.size 24 #[.int .i64 c, .int .u8 k, .slice A1 n c1] := hP2
  go_loopw [12] (fun i wr => ∃ (t : Nat) (cs : List (Value × Row)), t ≤ n ∧ i = .int .i64 t ∧ Hid (cs.map (·.2) = l) ∧ CRows wr w.heap.size (w.heap.size + 2) (.slice A1 n c1) cs t ∧ Has wr w.heap.size 24 #[.int .i64 c, .int .u8 k, .slice A1 n c1] ∧ Has wr (w.heap.size + 1) 24 #[.int .i64 0, .int .u8 0, .slice none 0 0] ∧ Below w.heap.size w wr) (fun i _ => n - (intOf i).toNat)
  case atStart => exact ⟨0, cs, Nat.zero_le _, rfl, Hcs, hC2, hP2, hR2, hb2⟩
  case round =>
    clear hC2 hP2 hR2 hb2 Hcs hcl hz2
    obtain ⟨t, cs, ht, rfl, Hcs, hC, hP, hR, hb⟩ := hrel
    have hcl : Hid (cs.length = n) := by have := hl.out; rw [← Hcs.out] at this; simpa [Hid] using this
    by_cases hlt : t < n
    · obtain ⟨x, hx⟩ : ∃ x, cs[t]? = some x := ⟨_, List.getElem?_eq_getElem (by rw [hcl.out]; exact hlt)⟩
      obtain ⟨hmx, hyx⟩ := hC.2 t x hx
      rw [if_neg (Nat.lt_irrefl t)] at hmx
      obtain ⟨Am, nm, cm, ex, hmk, hlo⟩ := hmx
      obtain ⟨g, rfl, hg⟩ : ∃ g, A1 = some ⟨g, 0, none⟩ ∧ w.heap.size + 2 ≤ g := by
        rcases hC.1.2 with ⟨_, e⟩ | ⟨g, cap, cur, e, hB, _⟩
        · rw [hcl.out] at e; omega
        · cases e; exact ⟨g, rfl, hB⟩
      have hown := hC.1
      rw [hcl.out] at hown
      have g2 := get_cell2 cs t
      rw [hx] at g2
      have hc0 := (hown.cellAt (t * 2) (by omega)).trans g2.1
      have hc1 := (hown.cellAt (t * 2 + 1) (by omega)).trans g2.2
      simp only [Option.map_some, ex] at hc0 hc1
      clear g2 hown
      have Hx := hide hx
      have Hex := hide ex
      have hgl := (hC.1.lt g rfl).2
      obtain ⟨u, ms, y⟩ := x
      simp only at hc0 hc1 hmk hlo hyx
      clear hx ex
      have hmsl : nm ≤ 1000000 := by
        have h1 := hmk.len
        have : (ms, y) ∈ l := by rw [← Hcs.out]; exact List.mem_map.2 ⟨_, List.mem_of_getElem? Hx.out, rfl⟩
        have := Hm.out _ this
        simp only at this; omega
      have b1 : (0 : Int) ≤ (t : Int) := by omega
      have b2 : (t : Int) < (n : Int) := by omega
      go_wp2_with fail
      have hbR : Below wr.heap.size wr (wr.alloc (.cells #[.slice Am nm cm, .int .i64 y] 47)) := (Below.refl _ _).alloc (Nat.le_refl _) _
      have hRow := Has.new wr 47 #[.slice Am nm cm, .int .i64 y]
      have hPl := hP.lt
      generalize hW : World.alloc _ _ = W3 at hbR hRow
      try rw [hW]
      clear hW
      have hP3 := hP.below hbR hPl
      have hR3 := hR.below hbR hR.lt
      have hC3 := hC.frame (Frame'.of_below (S := fun _ => False) hbR) (fun _ _ _ h => h) (by omega)
      have hb3 := Below_trans' hb hb.size hbR
      have hm3 := hmk.below hbR
      have hgl3 := Nat.lt_of_lt_of_le hgl hbR.size
      have q2 : W3.cell? ⟨w.heap.size, 2, none⟩ = some (.slice (some ⟨g, 0, none⟩) n c1) := hP3.cell 2
      have r0 : W3.cell? ⟨wr.heap.size, 0, none⟩ = some (.slice Am nm cm) := hRow.cell 0
      have g3 := get_cell2 cs t
      rw [Hx.out] at g3
      have hown3 := hC3.1
      rw [hcl.out] at hown3
      have sg := (hown3.cellAt (t * 2) (by omega)).trans g3.1
      simp only [Option.map_some, Hex.out] at sg
      have sf := hown3.frozenAt (t * 2)
      clear g3 hown3
      have hm3d : RInts W3.drew Am nm cm ms := hm3
      clear hbR hRow hC hP hR hb hc0 hc1 hmk
      go_region_held3 (fun w' => w'.cell? ⟨w.heap.size, 2, none⟩ = some (.slice (some ⟨g, 0, none⟩) n c1) ∧ w'.cell? ⟨wr.heap.size, 0, none⟩ = some (.slice Am nm cm))
        (first
          | go_keep
          | exact ⟨keep_cell hb4 q2, keep_cell hb4 r0⟩
          | exact ⟨(cell?_setCell_far (p := ⟨g, t * 2, none⟩) (by show w.heap.size ≠ g; omega)).trans (keep_cell hb4 q2), (cell?_setCell_far (p := ⟨g, t * 2, none⟩) (by show wr.heap.size ≠ g; omega)).trans (keep_cell hb4 r0)⟩)
        (first | (go_at_call 53; refine (cloneI_any Am nm cm ms _ hm3d hmsl).mono ?_; rintro e w4 ⟨A4, c4, rfl, hr4, hf4, hb4⟩; have sg4 := keep_cell hb4 sg; have sf4 := (hb4.frozen (p := ⟨g, t * 2, none⟩) hgl3).trans sf))
      have hb4' : Below W3.heap.size W3 w4 := undrew hb4
      have hC4 := hC3.frame (Frame'.of_below (S := fun _ => False) hb4') (fun _ _ _ h => h) (by have := hb3.size; omega)
      have hu : OMarks w4 (w.heap.size + 2) (some g) (.slice A4 nm c4) ms := ⟨A4, nm, c4, rfl, hr4, fun hh => by
        obtain ⟨b, e, hB, hz⟩ := hf4 hh
        have hB : W3.heap.size ≤ b := hB
        exact ⟨b, 0, e, by omega, fun e => by cases e; omega, hz⟩⟩
      have hC5 := hC4.store hcl.out Hx.out hu (by omega)
      have hP4 := hP3.below hb4' hP3.lt
      have hR4 := hR3.below hb4' hR3.lt
      have hP5 := hP4.far (p := ⟨g, t * 2, none⟩) (by show w.heap.size ≠ g; omega) (.slice A4 nm c4)
      have hR5 := hR4.far (p := ⟨g, t * 2, none⟩) (by show w.heap.size + 1 ≠ g; omega) (.slice A4 nm c4)
      have hb5 := (Below_trans' hb3 hb3.size hb4').setCell (p := ⟨g, t * 2, none⟩) (by show w.heap.size ≤ g; omega) (.slice A4 nm c4)
      have hcs5 : Hid ((cs.set t (.slice A4 nm c4, (ms, y))).map (·.2) = l) := by
        unfold Hid
        rw [List.map_set, ← Hcs.out]
        apply List.ext_getElem?
        intro i
        by_cases e : t = i
        · subst e
          rw [List.getElem?_set_self (by simp; exact (List.getElem?_eq_some_iff.1 Hx.out).1), List.getElem?_map, Hx.out]; rfl
        · rw [List.getElem?_set_ne e]
      clear hC4 hu hP4 hR4 hb3 hb4 hb4' hr4 hf4 hC3 hP3 hR3 hm3 q2 r0 hgl3
      go_wp2
      go_roundw
      case rel => exact ⟨t + 1, _, by omega, by go_num, hcs5, hC5, hP5, hR5, hb5⟩
      case measure => simp [intOf] <;> omega
    · have b2 : ¬ (t : Int) < n := by omega
      have hall : ORows wr (w.heap.size + 2) (.slice A1 n c1) l := by
        have e : t = cs.length := by rw [hcl.out]; omega
        rw [e] at hC
        have := hC.all
        rw [Hcs.out] at this
        exact this
      have p0 : wr.cell? ⟨w.heap.size, 0, none⟩ = some (.int .i64 c) := hP.cell 0
      have p1 : wr.cell? ⟨w.heap.size, 1, none⟩ = some (.int .u8 k) := hP.cell 1
      have p2 : wr.cell? ⟨w.heap.size, 2, none⟩ = some (.slice A1 n c1) := hP.cell 2
      have r0 : wr.cell? ⟨w.heap.size + 1, 0, none⟩ = some (.int .i64 0) := hR.cell 0
      have r1 : wr.cell? ⟨w.heap.size + 1, 1, none⟩ = some (.int .u8 0) := hR.cell 1
      have r2 : wr.cell? ⟨w.heap.size + 1, 2, none⟩ = some (.slice none 0 0) := hR.cell 2
      have f0 := hR.free 0
      have f1 := hR.free 1
      have f2 := hR.free 2
      clear hlt ht hC hP
      go_wp2
      refine retProf rfl rfl (put3 hR) rfl rfl ⟨_, rfl, ?_, below3 hb (by omega) _ _ _⟩
      exact (hall.frame (frame3 wr _ _ _ _) (fun b hB _ e => by omega)).mono (by omega)
end Go.Proofs.YtleniljhacnikaaGreat
