/-
  The program's Rename, of a profile, where nothing is wrong.
-/
import Derived.Test.YtolbceckbnifmaaGreatW8k
namespace Go.Proofs.YtolbceckbnifmaaGreat
open Go.RowKit Go.Proofs Go.Shelf
attribute [local go_sem] cell?_more cell?_alloc_some cell?_setCell_far frozen?_alloc_some frozen?_more
set_option maxRecDepth 100000 in
theorem prename1_any (k : Int) (A : Option Addr) (n c : Nat) (ms : List Int) (bl : Nat) (A' : Option Addr) (n' c' : Nat) (p : List Int) (w : World) (h : RInts w A n c ms) (hc : w.cell? ⟨bl, 0, none⟩ = some (.slice A' n' c')) (h' : RInts w A' n' c' p) (hp : turnedS p = true) (hf : fineS k ms n' = true) (hn : n ≤ 10) :
    Calls Tryz.prog 77 #[.agg #[.int .u8 k, .slice A n c], .pointer (some ⟨bl, 0, none⟩)] w (TurnPost w k (renS k ms p)) := by
  have hS0 := ((Hs.nil w).alloc 103 #[.int .u8 k, .slice A n c]).alloc 103 #[.int .u8 0, .slice none 0 0]
  have hb0 : Below w.heap.size w ((w.alloc (.cells #[.int .u8 k, .slice A n c] 103)).alloc (.cells #[.int .u8 0, .slice none 0 0] 103)) := ((Below.refl _ _).alloc (Nat.le_refl _) _).alloc (by simp) _
  simp only [World.size_alloc] at hS0
  go_enter Tryz.func77, Tryz.ntmps77
  go_wp2_with fail
  have hz0 : ((w.alloc (.cells #[.int .u8 k, .slice A n c] 103)).alloc (.cells #[.int .u8 0, .slice none 0 0] 103)).heap.size = w.heap.size + 2 := by simp
  generalize hW : World.alloc (World.alloc _ _) _ = W0 at hS0 hb0 hz0
  try rw [hW]
  clear hW
  refine (brename_any k A n c ms A' n' c' p W0 (h.below hb0) (h'.below hb0) hp hf hn).mono ?_
  rintro e w1 ⟨A1, n1, c1, rfl, hm1, hnew, hbw⟩
  obtain ⟨hR, -, -⟩ := hS0.below hbw
  have hb1 := Below_trans' hb0 hb0.size hbw
  have z0 : w1.cell? ⟨w.heap.size + 1, 0, none⟩ = some (.int .u8 0) := hR.cell 0
  have z1 : w1.cell? ⟨w.heap.size + 1, 1, none⟩ = some (.slice none 0 0) := hR.cell 1
  have y0 := hR.free 0
  have y1 := hR.free 1
  have hm2 : RInts (((w1.setCell ⟨w.heap.size + 1, 0, none⟩ (.int .u8 k))).setCell ⟨w.heap.size + 1, 1, none⟩ (.slice A1 n1 c1)) A1 n1 c1 (renS k ms p) :=
    hm1.frame (frame2 w1 (w.heap.size + 1) _ _) (fun hn => let ⟨b, off, e, hb⟩ := hnew hn; ⟨b, off, e, fun e' => absurd (show b = w.heap.size + 1 from e') (by omega)⟩)
  clear hS0 hb0 hbw hz0 hnew
  go_wp2
  refine retBal2 rfl rfl rfl (put2 hR) rfl rfl ⟨A1, n1, c1, rfl, hm2, below2 hb1 (by omega) _ _⟩

set_option maxRecDepth 100000 in
set_option maxHeartbeats 1000000 in
theorem prename_any (c k : Int) (A : Option Addr) (n cp : Nat) (l : List Row) (A' : Option Addr) (n' c' : Nat) (p : List Int) (w : World) (h : RRows w A n cp l) (h' : RInts w A' n' c' p) (hck : checkS c k l = 0) (hp : turnedS p = true) (hnc : (n' : Int) = c) :
    Calls Tryz.prog 40 #[.agg #[.int .i64 c, .int .u8 k, .slice A n cp], .slice A' n' c'] w (PPostO w ⟨0, c, k, eachS (fun ms => renS k ms p) l⟩) := by
  subst hnc
  have eg : ∀ args w, (callFunc 77 args).run Tryz.prog w = .ok (.enter 77 args) w := enters_of Tryz.func77 (by kernel_rfl) rfl
  have hS0 := ((((Hs.nil w).alloc 27 #[.int .i64 n', .int .u8 k, .slice A n cp]).alloc 28 #[.slice A' n' c']).alloc 27 #[.int .i64 0, .int .u8 0, .slice none 0 0]).alloc 103 #[.int .u8 1, .slice none 0 0]
  have hb0 : Below w.heap.size w ((((w.alloc (.cells #[.int .i64 n', .int .u8 k, .slice A n cp] 27)).alloc (.cells #[.slice A' n' c'] 28)).alloc (.cells #[.int .i64 0, .int .u8 0, .slice none 0 0] 27)).alloc (.cells #[.int .u8 1, .slice none 0 0] 103)) := ((((Below.refl _ _).alloc (Nat.le_refl _) _).alloc (by simp) _).alloc (by simp; omega) _).alloc (by simp; omega) _
  have hz0 : ((((w.alloc (.cells #[.int .i64 n', .int .u8 k, .slice A n cp] 27)).alloc (.cells #[.slice A' n' c'] 28)).alloc (.cells #[.int .i64 0, .int .u8 0, .slice none 0 0] 27)).alloc (.cells #[.int .u8 1, .slice none 0 0] 103)).heap.size = w.heap.size + 4 := by simp
  simp only [World.size_alloc] at hS0
  have Hck := hide hck
  have Hp := hide hp
  clear hck hp
  go_enter Tryz.func40, Tryz.ntmps40
  go_wp2_with fail
  generalize hW : World.alloc (World.alloc (World.alloc _ _) _) _ = W0 at hS0 hb0 hz0
  try rw [hW]
  clear hW
  refine (brename_any 1 none 0 0 [] A' n' c' p W0 (RInts.nil_ _) (h'.below hb0) Hp.out (by simp [fineS, nodupB]) (by omega)).mono ?_
  rintro e w1 ⟨A1, n1, c1, rfl, -, -, hbw⟩
  have hS1 := hS0.below hbw
  have hb1 := Below_trans' hb0 hb0.size hbw
  have hz1 : w.heap.size + 4 ≤ w1.heap.size := by have := hbw.size; omega
  clear hS0 hb0 hbw hz0
  go_upto_region 3 with fail
  have hu2 : Below w1.heap.size w1 (w1.alloc (.cells #[.int .u8 1, .slice A1 n1 c1] 103)) := (Below.refl _ _).alloc (Nat.le_refl _) _
  have hS2 := hS1.below hu2
  have hb2 := Below_trans' hb1 hb1.size hu2
  have hz2 := Nat.le_trans hz1 hu2.size
  clear hS1 hb1 hz1
  generalize hW : World.alloc _ _ = W2 at hS2 hb2 hz2 hu2
  try rw [hW]
  clear hW hu2
  generalize w1.heap.size = gx
  have p0 : W2.cell? ⟨w.heap.size, 0, none⟩ = some (.int .i64 n') := hS2.2.2.2.1.cell 0
  have p1 : W2.cell? ⟨w.heap.size, 1, none⟩ = some (.int .u8 k) := hS2.2.2.2.1.cell 1
  have p2 : W2.cell? ⟨w.heap.size, 2, none⟩ = some (.slice A n cp) := hS2.2.2.2.1.cell 2
  go_wp2_with fail
  refine (pcheck_any _ _ _ _ _ l _ (h.below hb2)).mono ?_
  rintro e w3 ⟨rfl, hbw⟩
  rw [Hck.out]
  have hS3 := hS2.below hbw
  have hb3 := Below_trans' hb2 hb2.size hbw
  have hz3 := Nat.le_trans hz2 hbw.size
  clear hS2 hb2 hz2 hbw p0 p1 p2
  have p0 : w3.cell? ⟨w.heap.size, 0, none⟩ = some (.int .i64 n') := hS3.2.2.2.1.cell 0
  have p1 : w3.cell? ⟨w.heap.size, 1, none⟩ = some (.int .u8 k) := hS3.2.2.2.1.cell 1
  have p2 : w3.cell? ⟨w.heap.size, 2, none⟩ = some (.slice A n cp) := hS3.2.2.2.1.cell 2
  have l0 : w3.cell? ⟨w.heap.size + 1, 0, none⟩ = some (.slice A' n' c') := hS3.2.2.1.cell 0
  go_wp2_with fail
  refine (turned_any 77 #[.pointer (some ⟨w.heap.size + 1, 0, none⟩)] eg (fun ms => renS k ms p) n' k A n cp l w3 (h.below hb3) (fun hck W hbW r hr Am nm cm hm => ?_) (fun hck r hr => ?_)).mono ?_
  · have hlen := hm.len
    have := (row_small hck hr).1
    refine prename1_any k Am nm cm r.1 (w.heap.size + 1) A' n' c' p W hm ((hS3.below hbW).2.2.1.cell 0) ((h'.below hb3).below hbW) Hp.out ?_ (by omega)
    have h9 := (check_iff.1 hck).2.2.2.2.2.2.2.2 r hr
    unfold bcheckS at h9
    split at h9
    · cases h9
    · split at h9
      · assumption
      · cases h9
  · have := (row_small hck hr).1
    have := length_renS k r.1 p
    omega
  rintro e w4 ⟨A4, n4, c4, rfl, hr4, hbw⟩
  obtain ⟨-, hR, -⟩ := hS3.below hbw
  replace hR : Has w4 (w.heap.size + 2) 27 #[.int .i64 0, .int .u8 0, .slice none 0 0] := hR
  have hb4 := Below_trans' hb3 hb3.size hbw
  have ht : turnP (fun ms => renS k ms p) n' k l = ⟨0, n', k, eachS (fun ms => renS k ms p) l⟩ := by unfold turnP; rw [if_pos Hck.out]
  rw [ht] at hr4 ⊢
  simp only at hr4 ⊢
  have k3 := frame3 w4 (w.heap.size + 2) (.int .i64 n') (.int .u8 k) (.slice A4 n4 c4)
  have hr5 := (hr4.frame k3 (fun b hb _ e => absurd (show b = w.heap.size + 2 from e) (by omega))).mono (show w.heap.size ≤ w3.heap.size by omega)
  have z0 : w4.cell? ⟨w.heap.size + 2, 0, none⟩ = some (.int .i64 0) := hR.cell 0
  have z1 : w4.cell? ⟨w.heap.size + 2, 1, none⟩ = some (.int .u8 0) := hR.cell 1
  have z2 : w4.cell? ⟨w.heap.size + 2, 2, none⟩ = some (.slice none 0 0) := hR.cell 2
  have y0 := hR.free 0
  have y1 := hR.free 1
  have y2 := hR.free 2
  clear hS3 hb3 hbw eg hz3 k3 hr4 ht p0 p1 p2 l0
  go_wp2
  exact retProf2 rfl rfl rfl (put3 hR) rfl rfl ⟨A4, n4, c4, rfl, hr5, below3 hb4 (by omega) _ _ _⟩
end Go.Proofs.YtolbceckbnifmaaGreat
