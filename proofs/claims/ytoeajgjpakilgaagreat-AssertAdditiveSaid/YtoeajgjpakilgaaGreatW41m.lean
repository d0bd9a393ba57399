/-
  Assertions that are equal; Same, All; ranks, marks of the law; the reference's Great.
-/
import Derived.Test.YtoeajgjpakilgaaGreatW41a
import Derived.Test.YtoeajgjpakilgaaGreatW41e
import Derived.Test.YtoeajgjpakilgaaGreatW8f
namespace Go.Proofs.YtoeajgjpakilgaaGreat
open Go.RowKit Go.Proofs Go.Shelf
attribute [local go_sem] cell?_more cell?_alloc_some cell?_setCell_far frozen?_alloc_some frozen?_more
/-- Are two assertions equal? -/
def sameA (k x y : Int) (L : List Int) (k' x' y' : Int) (L' : List Int) : Bool := decide (k = k' ∧ x = x' ∧ y = y' ∧ L = L')
theorem sameA_self (k x y : Int) (L : List Int) : sameA k x y L k x y L = true := by simp [sameA]
set_option maxRecDepth 100000 in
set_option maxHeartbeats 2000000 in
theorem same41_any (k x y : Int) (A : Option Addr) (n cp : Nat) (L : List Int) (k' x' y' : Int) (A' : Option Addr) (n' cp' : Nat) (L' : List Int) (w : World) (h : RInts w A n cp L) (h' : RInts w A' n' cp' L') :
    Calls Tryz.prog 18 #[.agg #[.int .u8 k, .int .i64 x, .int .i64 y, .slice A n cp], .agg #[.int .u8 k', .int .i64 x', .int .i64 y', .slice A' n' cp']] w fun e w' => e = .returned (.bool (sameA k x y L k' x' y' L')) ∧ Below w.heap.size w w' := by
  have hb0 : Below w.heap.size w (w.alloc (.cells #[.int .u8 k, .int .i64 x, .int .i64 y, .slice A n cp] 24)) := below_allocN
  have hP := Has.new w 24 #[.int .u8 k, .int .i64 x, .int .i64 y, .slice A n cp]
  have hb1 : Below (w.alloc (.cells #[.int .u8 k, .int .i64 x, .int .i64 y, .slice A n cp] 24)).heap.size (w.alloc (.cells #[.int .u8 k, .int .i64 x, .int .i64 y, .slice A n cp] 24)) ((w.alloc (.cells #[.int .u8 k, .int .i64 x, .int .i64 y, .slice A n cp] 24)).alloc (.cells #[.int .u8 k', .int .i64 x', .int .i64 y', .slice A' n' cp'] 24)) := below_allocN
  have hQ := Has.new (w.alloc (.cells #[.int .u8 k, .int .i64 x, .int .i64 y, .slice A n cp] 24)) 24 #[.int .u8 k', .int .i64 x', .int .i64 y', .slice A' n' cp']
  have hP1 := hP.below hb1 hP.lt
  have hb := Below_trans' hb0 hb0.size hb1
  clear hb0 hb1 hP
  rw [World.size_alloc] at hQ
  go_enter Tryz.func18, Tryz.ntmps18
  go_upto_region 1 with fail
  generalize World.alloc (World.alloc w _) _ = W0 at hb hP1 hQ ⊢
  have p0 := hP1.cell 0
  have p1 := hP1.cell 1
  have p2 := hP1.cell 2
  have p3 := hP1.cell 3
  have q0 := hQ.cell 0
  have q1 := hQ.cell 1
  have q2 := hQ.cell 2
  have q3 := hQ.cell 3
  by_cases ek : k = k'
  · have b1 : (k == k') = true := by simp [ek]
    by_cases ex : x = x'
    · have b2 : (x == x') = true := by simp [ex]
      by_cases ey : y = y'
      · have b3 : (y == y') = true := by simp [ey]
        have hv : Hid (sameA k x y L k' x' y' L' = (L == L')) := by unfold Hid sameA; rw [Bool.eq_iff_iff]; simp [ek, ex, ey]
        clear ek ex ey
        go_wp2_with fail
        refine (equalI_any _ _ _ _ _ _ L L' W0 (h.below hb) (h'.below hb)).mono ?_
        rintro e w1 ⟨rfl, hb1⟩
        go_wp2
        go_ret
        exact ⟨ret_b hv.out.symm, Below_trans' hb hb.size hb1⟩
      · have b3 : (y == y') = false := by simp [ey]
        have hv : Hid (sameA k x y L k' x' y' L' = false) := by unfold Hid sameA; simp [ey]
        clear ek ex ey
        go_wp2
        go_ret
        exact ⟨ret_b hv.out.symm, hb⟩
    · have b2 : (x == x') = false := by simp [ex]
      have hv : Hid (sameA k x y L k' x' y' L' = false) := by unfold Hid sameA; simp [ex]
      clear ek ex
      go_wp2
      go_ret
      exact ⟨ret_b hv.out.symm, hb⟩
  · have b1 : (k == k') = false := by simp [ek]
    have hv : Hid (sameA k x y L k' x' y' L' = false) := by unfold Hid sameA; simp [ek]
    clear ek
    go_wp2
    go_ret
    exact ⟨ret_b hv.out.symm, hb⟩
set_option maxRecDepth 100000 in
set_option maxHeartbeats 2000000 in
theorem rsame41_any (k x y : Int) (A : Option Addr) (n cp : Nat) (L : List Int) (k' x' y' : Int) (A' : Option Addr) (n' cp' : Nat) (L' : List Int) (w : World) (h : RInts w A n cp L) (h' : RInts w A' n' cp' L') :
    Calls Tryz.prog 33 #[.agg #[.int .u8 k, .int .i64 x, .int .i64 y, .slice A n cp], .agg #[.int .u8 k', .int .i64 x', .int .i64 y', .slice A' n' cp']] w fun e w' => e = .returned (.bool (sameA k x y L k' x' y' L')) ∧ Below w.heap.size w w' := by
  have hb0 : Below w.heap.size w (w.alloc (.cells #[.int .u8 k, .int .i64 x, .int .i64 y, .slice A n cp] 24)) := below_allocN
  have hP := Has.new w 24 #[.int .u8 k, .int .i64 x, .int .i64 y, .slice A n cp]
  have hb1 : Below (w.alloc (.cells #[.int .u8 k, .int .i64 x, .int .i64 y, .slice A n cp] 24)).heap.size (w.alloc (.cells #[.int .u8 k, .int .i64 x, .int .i64 y, .slice A n cp] 24)) ((w.alloc (.cells #[.int .u8 k, .int .i64 x, .int .i64 y, .slice A n cp] 24)).alloc (.cells #[.int .u8 k', .int .i64 x', .int .i64 y', .slice A' n' cp'] 24)) := below_allocN
  have hQ := Has.new (w.alloc (.cells #[.int .u8 k, .int .i64 x, .int .i64 y, .slice A n cp] 24)) 24 #[.int .u8 k', .int .i64 x', .int .i64 y', .slice A' n' cp']
  have hP1 := hP.below hb1 hP.lt
  have hb := Below_trans' hb0 hb0.size hb1
  clear hb0 hb1 hP
  rw [World.size_alloc] at hQ
  go_enter Tryz.func33, Tryz.ntmps33
  go_upto_region 1 with fail
  generalize World.alloc (World.alloc w _) _ = W0 at hb hP1 hQ ⊢
  have p0 := hP1.cell 0
  have p1 := hP1.cell 1
  have p2 := hP1.cell 2
  have p3 := hP1.cell 3
  have q0 := hQ.cell 0
  have q1 := hQ.cell 1
  have q2 := hQ.cell 2
  have q3 := hQ.cell 3
  by_cases ek : k = k'
  · have b1 : (k == k') = true := by simp [ek]
    by_cases ex : x = x'
    · have b2 : (x == x') = true := by simp [ex]
      by_cases ey : y = y'
      · have b3 : (y == y') = true := by simp [ey]
        have hv : Hid (sameA k x y L k' x' y' L' = (L == L')) := by unfold Hid sameA; rw [Bool.eq_iff_iff]; simp [ek, ex, ey]
        clear ek ex ey
        go_wp2_with fail
        refine (ints_any _ _ _ _ _ _ L L' W0 (h.below hb) (h'.below hb)).mono ?_
        rintro e w1 ⟨rfl, hb1⟩
        go_wp2
        go_ret
        exact ⟨ret_b hv.out.symm, Below_trans' hb hb.size hb1⟩
      · have b3 : (y == y') = false := by simp [ey]
        have hv : Hid (sameA k x y L k' x' y' L' = false) := by unfold Hid sameA; simp [ey]
        clear ek ex ey
        go_wp2
        go_ret
        exact ⟨ret_b hv.out.symm, hb⟩
    · have b2 : (x == x') = false := by simp [ex]
      have hv : Hid (sameA k x y L k' x' y' L' = false) := by unfold Hid sameA; simp [ex]
      clear ek ex
      go_wp2
      go_ret
      exact ⟨ret_b hv.out.symm, hb⟩
  · have b1 : (k == k') = false := by simp [ek]
    have hv : Hid (sameA k x y L k' x' y' L' = false) := by unfold Hid sameA; simp [ek]
    clear ek
    go_wp2
    go_ret
    exact ⟨ret_b hv.out.symm, hb⟩
theorem rsame41_eq (k x y : Int) (A : Option Addr) (n cp : Nat) (L : List Int) (A' : Option Addr) (n' cp' : Nat) (w : World) (h : RInts w A n cp L) (h' : RInts w A' n' cp' L) :
    Calls Tryz.prog 33 #[.agg #[.int .u8 k, .int .i64 x, .int .i64 y, .slice A n cp], .agg #[.int .u8 k, .int .i64 x, .int .i64 y, .slice A' n' cp']] w fun e w' => e = .returned (.bool true) ∧ Below w.heap.size w w' := by
  have := rsame41_any k x y A n cp L k x y A' n' cp' L w h h'
  rwa [sameA_self] at this

set_option maxRecDepth 100000 in
set_option maxHeartbeats 2000000 in
/-- Equal lists are told equal. -/
theorem all41_eq (A : Option Addr) (n c : Nat) (A' : Option Addr) (n' c' : Nat) (l : List Asn) (w : World) (h : RAgg EAsn 4 w A n c l) (h' : RAgg EAsn 4 w A' n' c' l) :
    Calls Tryz.prog 16 #[.slice A n c, .slice A' n' c'] w fun e w' => e = .returned (.bool true) ∧ Below w.heap.size w w' := by
  have hn := h.le
  obtain rfl : n = n' := h.len.symm.trans h'.len
  go_enter Tryz.func16, Tryz.ntmps16
  go_wp2
  go_loopw [5] (fun i wr => ∃ k : Nat, k ≤ n ∧ i = .int .i64 k ∧ Below w.heap.size w wr) (fun i _ => n - (intOf i).toNat)
  case atStart => exact ⟨0, Nat.zero_le _, rfl, Below.refl _ _⟩
  case round =>
    obtain ⟨k, hk, rfl, hb⟩ := hrel
    by_cases hlt : k < n
    · obtain ⟨b, off, vs, a, rfl, _, hc, ⟨A1, n1, c1, rfl, hL⟩, _, hat⟩ := (h.below below_asn hb).step hlt
      obtain ⟨b', off', vs', a', rfl, _, hc', ⟨A2, n2, c2, rfl, hL'⟩, _, hat'⟩ := (h'.below below_asn hb).step hlt
      obtain rfl : a = a' := Option.some.inj (hat.out.symm.trans hat'.out)
      obtain ⟨ka, xa, ya, La⟩ := a
      dsimp only at hc hc' hL hL'
      have p0 := hc 0 _ rfl
      have p1 := hc 1 _ rfl
      have p2 := hc 2 _ rfl
      have p3 := hc 3 _ rfl
      have q0 := hc' 0 _ rfl
      have q1 := hc' 1 _ rfl
      have q2 := hc' 2 _ rfl
      have q3 := hc' 3 _ rfl
      simp only [Nat.add_zero] at p0 q0
      clear hc hc'
      have hS : ∀ q, Calls Tryz.prog 33 #[.agg #[.int .u8 ka, .int .i64 xa, .int .i64 ya, .slice A1 n1 c1], .agg #[.int .u8 ka, .int .i64 xa, .int .i64 ya, .slice A2 n2 c2]] (More wr q) fun e w' => e = .returned (.bool true) ∧ Below (More wr q).heap.size (More wr q) w' := fun q => rsame41_eq ka xa ya A1 n1 c1 La A2 n2 c2 _ (hL.more q) (hL'.more q)
      go_wp2
      refine wp_region_more (by kernel_rfl) (by kernel_rfl) ?_
      repeat (go_big_quiet_step ((go_at_call 33; with_reducible exact more_of (hS _))))
      refine wpQuiet_nil ?_
      rintro w1 ⟨qw1, hww1⟩
      have hbw1 := below_of_eq hww1
      clear hww1 qw1
      go_wp2
      have hbb := Below_trans' hb hb.size hbw1
      go_roundw
      case rel => exact ⟨k + 1, by omega, by go_num, hbb⟩
      case measure => simp [intOf] <;> omega
    · go_wp2
      go_ret
      exact ⟨rfl, hb⟩

theorem ranks_any (A : Option Addr) (n c : Nat) (w : World) : Calls Tryz.prog 12 #[.slice A n c] w fun e w' => e = .returned (.agg #[.int .u8 1, .slice A n c]) ∧ Below w.heap.size w w' := by
  have hb : Below w.heap.size w (w.alloc (.cells #[.int .u8 0, .slice none 0 0] 29)) := below_allocN
  have hP := Has.new w 29 #[.int .u8 0, .slice none 0 0]
  go_enter Tryz.func12, Tryz.ntmps12
  go_upto_region 1 with fail
  obtain ⟨g, hg⟩ : ∃ g, g = w.heap.size := ⟨_, rfl⟩
  rw [← hg] at hP ⊢
  generalize World.alloc w _ = W0 at hb hP ⊢
  have p0 := hP.cell 0
  have p1 := hP.cell 1
  have f0 := hP.free 0
  have f1 := hP.free 1
  have Hg := hide hg
  clear hg
  go_wp2
  refine retBal rfl rfl (put2 hP) rfl rfl ⟨rfl, ?_⟩
  exact (hb.setCell (p := ⟨g, 0, none⟩) (by simp [Hg.out]) _).setCell (p := ⟨g, 1, none⟩) (by simp [Hg.out]) _
theorem marks_any (A : Option Addr) (n c : Nat) (w : World) : Calls Tryz.prog 13 #[.slice A n c] w fun e w' => e = .returned (.agg #[.int .u8 2, .slice A n c]) ∧ Below w.heap.size w w' := by
  have hb : Below w.heap.size w (w.alloc (.cells #[.int .u8 0, .slice none 0 0] 29)) := below_allocN
  have hP := Has.new w 29 #[.int .u8 0, .slice none 0 0]
  go_enter Tryz.func13, Tryz.ntmps13
  go_upto_region 1 with fail
  obtain ⟨g, hg⟩ : ∃ g, g = w.heap.size := ⟨_, rfl⟩
  rw [← hg] at hP ⊢
  generalize World.alloc w _ = W0 at hb hP ⊢
  have p0 := hP.cell 0
  have p1 := hP.cell 1
  have f0 := hP.free 0
  have f1 := hP.free 1
  have Hg := hide hg
  clear hg
  go_wp2
  refine retBal rfl rfl (put2 hP) rfl rfl ⟨rfl, ?_⟩
  exact (hb.setCell (p := ⟨g, 0, none⟩) (by simp [Hg.out]) _).setCell (p := ⟨g, 1, none⟩) (by simp [Hg.out]) _
end Go.Proofs.YtoeajgjpakilgaaGreat
