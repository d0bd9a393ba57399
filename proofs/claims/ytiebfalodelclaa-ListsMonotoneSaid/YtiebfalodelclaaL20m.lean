/-
  The law ListsMonotone.
-/
import Derived.Test.YtiebfalodelclaaW20e
namespace Go.Proofs.Ytiebfalodelclaa
open Go.RowKit Go.Proofs Go.Shelf
attribute [local go_sem] cell?_more cell?_alloc_some cell?_setCell_far frozen?_alloc_some frozen?_more
theorem RAgg.take20 {α : Type} {E : World → List Value → α → Prop} {size : Nat} {w : World} {A : Option Addr} {n c : Nat} {l : List α} (h : RAgg E size w A n c l) {k : Nat} (hk : k ≤ n) : RAgg E size w A k c (l.take k) := by
  obtain ⟨h1, h2, h3, h4⟩ := h
  refine ⟨by rw [List.length_take]; omega, by omega, h3, fun hn => ?_⟩
  obtain ⟨b, off, e, hc⟩ := h4 (by omega)
  refine ⟨b, off, e, fun i hi => ?_⟩
  obtain ⟨vs, x, g1, g2⟩ := hc i (by omega)
  exact ⟨vs, x, by rw [List.getElem?_take, if_pos hi]; exact g1, g2⟩
set_option maxRecDepth 100000 in
set_option maxHeartbeats 4000000 in
theorem mono_zero (c k : Int) (A : Option Addr) (n cp : Nat) (l : List Row) (nn : Int) (At : Option Addr) (nt ct : Nat) (lot : List Int) (w : World) (h : RRows w A n cp l) (h' : RInts w At nt ct lot) :
    Calls Try.prog 4 #[.bool false, .agg #[.int .i64 c, .int .u8 k, .slice A n cp], .int .i64 nn, .slice At nt ct] w fun e w' => e = .returned (.bool true) ∧ Below w.heap.size w w' := by
  have hb : Below w.heap.size w (w.alloc (.cells #[.int .i64 c, .int .u8 k, .slice A n cp] 24)) := below_allocN
  have hP := Has.new w 24 #[.int .i64 c, .int .u8 k, .slice A n cp]
  generalize hW : World.alloc w _ = W0 at hb hP
  have p0 := hP.cell 0
  have p1 := hP.cell 1
  have p2 := hP.cell 2
  go_enter Try.func4, Try.ntmps4
  go_wp2_with fail
  try simp only [hW]
  clear hW
  refine (valid20_any c k A n cp l nn At nt ct lot W0 (h.below hb) (h'.below hb)).mono ?_
  rintro e z0 ⟨rfl, hbz0⟩
  have hbw0 := Below_trans' hb hb.size hbz0
  replace hP := hP.below hbz0 hP.lt
  clear p0 p1 p2 hb hbz0
  by_cases hE : mayS c k l 2 nn 10 lot = 0
  · have hE' := hE
    have e1 : (mayS c k l 2 nn 10 lot == 0) = true := by simp [hE]
    obtain ⟨hc0, hk0, hs1, hs2, hs3, hlot⟩ := may_zero hE
    subst hk0
    have hmk := markOK_of hc0
    have hc1 := (check_iff.1 hc0).2.1
    obtain ⟨C, rfl⟩ : ∃ C : Nat, c = (C : Int) := ⟨c.toNat, by omega⟩
    obtain ⟨S, rfl⟩ : ∃ S : Nat, nn = (S : Int) := ⟨nn.toNat, by omega⟩
    rw [Int.toNat_natCast] at hmk
    have Hmk := hide hmk
    have hC10 := hmk.c10
    have hC1 := hmk.c1
    have hnt : nt = C := by have h1 := lot_len hlot; have h2 := h'.len; omega
    subst hnt
    have hvb := votV_bd hmk
    have Hvb := hide hvb
    have Hla := hide (LotAll.of hlot)
    have Hlot := hide hlot
    have hrun : Hid (∀ r, listR r nt 2 l S lot = listO r l nt lot S) := fun r => by rw [listR_ok hE, Int.toNat_natCast, Int.toNat_natCast]
    have hmay := hide hE
    have Hc0 := hide hc0
    clear hE hc0 hmk hvb hc1 hlot
    have p0 := hP.cell 0
    have p1 := hP.cell 1
    have p2 := hP.cell 2
    go_wp2_with fail
    refine (valid20_any nt 2 A n cp l ((S : Int) + 1) At nt ct lot z0 (h.below hbw0) (h'.below hbw0)).mono ?_
    rintro e z1 ⟨rfl, hbz1⟩
    have hbw1 := Below_trans' hbw0 hbw0.size hbz1
    replace hP := hP.below hbz1 hP.lt
    clear p0 p1 p2 hbz1 hE'
    by_cases hF : mayS nt 2 l 2 ((S : Int) + 1) 10 lot = 0
    · have e2 : (mayS nt 2 l 2 ((S : Int) + 1) 10 lot == 0) = true := by simp [hF]
      obtain ⟨_, _, _, hs4, hs5, _⟩ := may_zero hF
      have hrun2 : Hid (∀ r, listR r nt 2 l ((S : Int) + 1) lot = listO r l nt lot (S + 1)) := fun r => by rw [listR_ok hF, Int.toNat_natCast]; rfl
      have hmay2 := hide hF
      clear hF
      -- the count of S seats at the world z1 (hbw1 : Below w .. z1; hP : the profile's box); names end in a; region 7 behind it
      have p0 := hP.cell 0
      have p1 := hP.cell 1
      have p2 := hP.cell 2
      go_wp2_with fail
      refine (count20_any 0 nt 2 A n cp l S At nt ct lot z1 (h.below hbw1) (h'.below hbw1) (by omega)).mono ?_
      rintro e ua ⟨Aea, nea, cea, Ara, nra, cra, Ava, nva, cva, rfl, hOa, hb1⟩
      rw [hrun.out] at hOa
      rw [hmay.out]
      clear p0 p1 p2
      go_upto_region 7 with fail
      have hb2 : Below ua.heap.size ua (ua.alloc (.cells #[.slice Aea nea cea, .slice Ara nra cra, .slice Ava nva cva] 31)) := below_allocN
      have hXa := Has.new ua 31 #[.slice Aea nea cea, .slice Ara nra cra, .slice Ava nva cva]
      generalize World.alloc ua _ = ya at hb2 hXa ⊢
      replace hOa := hOa.below hb2
      have hga := Below_trans' hb1 hb1.size hb2
      have hbwa := Below_trans' hbw1 (hbw1).size hga
      have hPa := hP.below hga hP.lt
      clear hb1 hb2
      -- the count of ((S : Int) + 1) seats at the world ya (hbwa : Below w .. ya; hPa : the profile's box); names end in b; region 8 behind it
      have p0 := hPa.cell 0
      have p1 := hPa.cell 1
      have p2 := hPa.cell 2
      go_wp2_with fail
      refine (count20_any 0 nt 2 A n cp l ((S : Int) + 1) At nt ct lot ya (h.below hbwa) (h'.below hbwa) (by omega)).mono ?_
      rintro e ub ⟨Aeb, neb, ceb, Arb, nrb, crb, Avb, nvb, cvb, rfl, hOb, hb1⟩
      rw [hrun2.out] at hOb
      rw [hmay2.out]
      clear p0 p1 p2
      go_upto_region 8 with fail
      have hb2 : Below ub.heap.size ub (ub.alloc (.cells #[.slice Aeb neb ceb, .slice Arb nrb crb, .slice Avb nvb cvb] 31)) := below_allocN
      have hXb := Has.new ub 31 #[.slice Aeb neb ceb, .slice Arb nrb crb, .slice Avb nvb cvb]
      generalize World.alloc ub _ = yb at hb2 hXb ⊢
      replace hOb := hOb.below hb2
      have hgb := Below_trans' hb1 hb1.size hb2
      have hbwb := Below_trans' hbwa (hbwa).size hgb
      have hPb := hPa.below hgb hPa.lt
      clear hb1 hb2
      have hOa' := hOa.below hgb
      have hXa' := hXa.below hgb hXa.lt
      have hla : ((listO 0 l nt lot S).1.length = S ∧ (listO 0 l nt lot (S + 1)).1.length = S + 1) := ⟨length_divS .., length_divS ..⟩
      have htk : (listO 0 l nt lot (S + 1)).1.take S = (listO 0 l nt lot S).1 := divS_take ..
      have hts : (listO 0 l nt lot S).2.2.length ≤ (listO 0 l nt lot (S + 1)).2.2.length ∧ (listO 0 l nt lot (S + 1)).2.2.take (listO 0 l nt lot S).2.2.length = (listO 0 l nt lot S).2.2 := divS_ties ..
      obtain ⟨ha1, _, ha3⟩ := hOa'
      obtain ⟨hb1, _, hb3⟩ := hOb
      have n1 : nea = S := by have := ha1.len; omega
      have n2 : neb = S + 1 := by have := hb1.len; omega
      have n3 := ha3.len
      have n4 := hb3.len
      have n5 : nva ≤ nvb := by omega
      subst n1
      subst n2
      have k1 := hb1.take (k := nea) (by omega)
      have k3 := hb3.take20 n5
      rw [htk] at k1
      rw [← n3, hts.2, n3] at k3
      have q1 : ∀ q, Calls Try.prog 14 #[.slice Aeb nea ceb, .slice Aea nea cea] (More yb q) fun e w'' => e = .returned (.bool true) ∧ ∃ q', w'' = More yb q' := fun q => more_of (ints_eq _ _ _ _ _ _ _ _ (k1.more q) (ha1.more q))
      have q2 : ∀ q, Calls Try.prog 15 #[.slice Avb nva cvb, .slice Ava nva cva] (More yb q) fun e w'' => e = .returned (.bool true) ∧ ∃ q', w'' = More yb q' := fun q => more_of (ties_eq _ _ _ _ _ _ _ _ (k3.below below_tie (more_below yb q)) (ha3.below below_tie (more_below yb q)))
      have q3 : ∀ q, Calls Try.prog 9 #[] (More yb q) fun e w'' => e = .returned (.bool true) ∧ ∃ q', w'' = More yb q' := fun q => more_of (wakes20_any _)
      have x0 := hXa'.cell 0
      have x2 := hXa'.cell 2
      have t0 := hXb.cell 0
      have t2 := hXb.cell 2
      have c1 : nea ≤ ceb := k1.2.1
      have c2 : (nea : Int) ≤ (ceb : Int) := by omega
      have c3 : nva ≤ cvb := k3.2.1
      have c4 : (nva : Int) ≤ (cvb : Int) := by omega
      have f1 : ((nea : Int) == (nea : Int)) = true := by simp
      have f2 : (((nea + 1 : Nat) : Int) == (nea : Int) + 1) = true := by simp
      have d1 : decide ((nva : Int) ≤ (nvb : Int)) = true := by simp; omega
      clear ha1 ha3 hb1 hb3 k1 k3 hla htk hts n3 n4 hrun hrun2 hmay hmay2 hP hPa hPb hXa hXa' hXb hOa
      refine wp_region_more (by kernel_rfl) (by kernel_rfl) ?_
      repeat (go_big_quiet_step (first | (go_at_call 14; with_reducible exact q1 _) | (go_at_call 15; with_reducible exact q2 _) | (go_at_call 9; with_reducible exact q3 _)))
      refine wpQuiet_nil ?_
      rintro w5 ⟨q5, hw5⟩
      have hb5 := below_of_eq hw5
      clear hw5 q5 q1 q2 q3
      go_wp2
      go_ret
      exact ⟨rfl, Below_trans' hbwb hbwb.size hb5⟩
    · have e2 : (mayS nt 2 l 2 ((S : Int) + 1) 10 lot == 0) = false := by simp [hF]
      clear hF
      go_wp2_with fail
      refine (wakes20_any _).mono ?_
      rintro e w9 ⟨rfl, hb9⟩
      go_wp2
      go_ret
      exact ⟨rfl, Below_trans' hbw1 (hbw1).size hb9⟩
  · have e1 : (mayS c k l 2 nn 10 lot == 0) = false := by simp [hE]
    clear hE
    go_wp2_with fail
    refine (wakes20_any _).mono ?_
    rintro e w9 ⟨rfl, hb9⟩
    go_wp2
    go_ret
    exact ⟨rfl, Below_trans' hbw0 (hbw0).size hb9⟩
set_option maxRecDepth 100000 in
set_option maxHeartbeats 4000000 in
theorem mono_one (c k : Int) (A : Option Addr) (n cp : Nat) (l : List Row) (nn : Int) (At : Option Addr) (nt ct : Nat) (lot : List Int) (w : World) (h : RRows w A n cp l) (h' : RInts w At nt ct lot) :
    Calls Try.prog 4 #[.bool true, .agg #[.int .i64 c, .int .u8 k, .slice A n cp], .int .i64 nn, .slice At nt ct] w fun e w' => e = .returned (.bool true) ∧ Below w.heap.size w w' := by
  have hb : Below w.heap.size w (w.alloc (.cells #[.int .i64 c, .int .u8 k, .slice A n cp] 24)) := below_allocN
  have hP := Has.new w 24 #[.int .i64 c, .int .u8 k, .slice A n cp]
  generalize hW : World.alloc w _ = W0 at hb hP
  have p0 := hP.cell 0
  have p1 := hP.cell 1
  have p2 := hP.cell 2
  go_enter Try.func4, Try.ntmps4
  go_wp2_with fail
  try simp only [hW]
  clear hW
  refine (valid20_any c k A n cp l nn At nt ct lot W0 (h.below hb) (h'.below hb)).mono ?_
  rintro e z0 ⟨rfl, hbz0⟩
  have hbw0 := Below_trans' hb hb.size hbz0
  replace hP := hP.below hbz0 hP.lt
  clear p0 p1 p2 hb hbz0
  by_cases hE : mayS c k l 2 nn 10 lot = 0
  · have hE' := hE
    have e1 : (mayS c k l 2 nn 10 lot == 0) = true := by simp [hE]
    obtain ⟨hc0, hk0, hs1, hs2, hs3, hlot⟩ := may_zero hE
    subst hk0
    have hmk := markOK_of hc0
    have hc1 := (check_iff.1 hc0).2.1
    obtain ⟨C, rfl⟩ : ∃ C : Nat, c = (C : Int) := ⟨c.toNat, by omega⟩
    obtain ⟨S, rfl⟩ : ∃ S : Nat, nn = (S : Int) := ⟨nn.toNat, by omega⟩
    rw [Int.toNat_natCast] at hmk
    have Hmk := hide hmk
    have hC10 := hmk.c10
    have hC1 := hmk.c1
    have hnt : nt = C := by have h1 := lot_len hlot; have h2 := h'.len; omega
    subst hnt
    have hvb := votV_bd hmk
    have Hvb := hide hvb
    have Hla := hide (LotAll.of hlot)
    have Hlot := hide hlot
    have hrun : Hid (∀ r, listR r nt 2 l S lot = listO r l nt lot S) := fun r => by rw [listR_ok hE, Int.toNat_natCast, Int.toNat_natCast]
    have hmay := hide hE
    have Hc0 := hide hc0
    clear hE hc0 hmk hvb hc1 hlot
    have p0 := hP.cell 0
    have p1 := hP.cell 1
    have p2 := hP.cell 2
    go_wp2_with fail
    refine (valid20_any nt 2 A n cp l ((S : Int) + 1) At nt ct lot z0 (h.below hbw0) (h'.below hbw0)).mono ?_
    rintro e z1 ⟨rfl, hbz1⟩
    have hbw1 := Below_trans' hbw0 hbw0.size hbz1
    replace hP := hP.below hbz1 hP.lt
    clear p0 p1 p2 hbz1 hE'
    by_cases hF : mayS nt 2 l 2 ((S : Int) + 1) 10 lot = 0
    · have e2 : (mayS nt 2 l 2 ((S : Int) + 1) 10 lot == 0) = true := by simp [hF]
      obtain ⟨_, _, _, hs4, hs5, _⟩ := may_zero hF
      have hrun2 : Hid (∀ r, listR r nt 2 l ((S : Int) + 1) lot = listO r l nt lot (S + 1)) := fun r => by rw [listR_ok hF, Int.toNat_natCast]; rfl
      have hmay2 := hide hF
      clear hF
      -- the count of S seats at the world z1 (hbw1 : Below w .. z1; hP : the profile's box); names end in a; region 7 behind it
      have p0 := hP.cell 0
      have p1 := hP.cell 1
      have p2 := hP.cell 2
      go_wp2_with fail
      refine (count20_any 1 nt 2 A n cp l S At nt ct lot z1 (h.below hbw1) (h'.below hbw1) (by omega)).mono ?_
      rintro e ua ⟨Aea, nea, cea, Ara, nra, cra, Ava, nva, cva, rfl, hOa, hb1⟩
      rw [hrun.out] at hOa
      rw [hmay.out]
      clear p0 p1 p2
      go_upto_region 7 with fail
      have hb2 : Below ua.heap.size ua (ua.alloc (.cells #[.slice Aea nea cea, .slice Ara nra cra, .slice Ava nva cva] 31)) := below_allocN
      have hXa := Has.new ua 31 #[.slice Aea nea cea, .slice Ara nra cra, .slice Ava nva cva]
      generalize World.alloc ua _ = ya at hb2 hXa ⊢
      replace hOa := hOa.below hb2
      have hga := Below_trans' hb1 hb1.size hb2
      have hbwa := Below_trans' hbw1 (hbw1).size hga
      have hPa := hP.below hga hP.lt
      clear hb1 hb2
      -- the count of ((S : Int) + 1) seats at the world ya (hbwa : Below w .. ya; hPa : the profile's box); names end in b; region 8 behind it
      have p0 := hPa.cell 0
      have p1 := hPa.cell 1
      have p2 := hPa.cell 2
      go_wp2_with fail
      refine (count20_any 1 nt 2 A n cp l ((S : Int) + 1) At nt ct lot ya (h.below hbwa) (h'.below hbwa) (by omega)).mono ?_
      rintro e ub ⟨Aeb, neb, ceb, Arb, nrb, crb, Avb, nvb, cvb, rfl, hOb, hb1⟩
      rw [hrun2.out] at hOb
      rw [hmay2.out]
      clear p0 p1 p2
      go_upto_region 8 with fail
      have hb2 : Below ub.heap.size ub (ub.alloc (.cells #[.slice Aeb neb ceb, .slice Arb nrb crb, .slice Avb nvb cvb] 31)) := below_allocN
      have hXb := Has.new ub 31 #[.slice Aeb neb ceb, .slice Arb nrb crb, .slice Avb nvb cvb]
      generalize World.alloc ub _ = yb at hb2 hXb ⊢
      replace hOb := hOb.below hb2
      have hgb := Below_trans' hb1 hb1.size hb2
      have hbwb := Below_trans' hbwa (hbwa).size hgb
      have hPb := hPa.below hgb hPa.lt
      clear hb1 hb2
      have hOa' := hOa.below hgb
      have hXa' := hXa.below hgb hXa.lt
      have hla : ((listO 1 l nt lot S).1.length = S ∧ (listO 1 l nt lot (S + 1)).1.length = S + 1) := ⟨length_divS .., length_divS ..⟩
      have htk : (listO 1 l nt lot (S + 1)).1.take S = (listO 1 l nt lot S).1 := divS_take ..
      have hts : (listO 1 l nt lot S).2.2.length ≤ (listO 1 l nt lot (S + 1)).2.2.length ∧ (listO 1 l nt lot (S + 1)).2.2.take (listO 1 l nt lot S).2.2.length = (listO 1 l nt lot S).2.2 := divS_ties ..
      obtain ⟨ha1, _, ha3⟩ := hOa'
      obtain ⟨hb1, _, hb3⟩ := hOb
      have n1 : nea = S := by have := ha1.len; omega
      have n2 : neb = S + 1 := by have := hb1.len; omega
      have n3 := ha3.len
      have n4 := hb3.len
      have n5 : nva ≤ nvb := by omega
      subst n1
      subst n2
      have k1 := hb1.take (k := nea) (by omega)
      have k3 := hb3.take20 n5
      rw [htk] at k1
      rw [← n3, hts.2, n3] at k3
      have q1 : ∀ q, Calls Try.prog 14 #[.slice Aeb nea ceb, .slice Aea nea cea] (More yb q) fun e w'' => e = .returned (.bool true) ∧ ∃ q', w'' = More yb q' := fun q => more_of (ints_eq _ _ _ _ _ _ _ _ (k1.more q) (ha1.more q))
      have q2 : ∀ q, Calls Try.prog 15 #[.slice Avb nva cvb, .slice Ava nva cva] (More yb q) fun e w'' => e = .returned (.bool true) ∧ ∃ q', w'' = More yb q' := fun q => more_of (ties_eq _ _ _ _ _ _ _ _ (k3.below below_tie (more_below yb q)) (ha3.below below_tie (more_below yb q)))
      have q3 : ∀ q, Calls Try.prog 9 #[] (More yb q) fun e w'' => e = .returned (.bool true) ∧ ∃ q', w'' = More yb q' := fun q => more_of (wakes20_any _)
      have x0 := hXa'.cell 0
      have x2 := hXa'.cell 2
      have t0 := hXb.cell 0
      have t2 := hXb.cell 2
      have c1 : nea ≤ ceb := k1.2.1
      have c2 : (nea : Int) ≤ (ceb : Int) := by omega
      have c3 : nva ≤ cvb := k3.2.1
      have c4 : (nva : Int) ≤ (cvb : Int) := by omega
      have f1 : ((nea : Int) == (nea : Int)) = true := by simp
      have f2 : (((nea + 1 : Nat) : Int) == (nea : Int) + 1) = true := by simp
      have d1 : decide ((nva : Int) ≤ (nvb : Int)) = true := by simp; omega
      clear ha1 ha3 hb1 hb3 k1 k3 hla htk hts n3 n4 hrun hrun2 hmay hmay2 hP hPa hPb hXa hXa' hXb hOa
      refine wp_region_more (by kernel_rfl) (by kernel_rfl) ?_
      repeat (go_big_quiet_step (first | (go_at_call 14; with_reducible exact q1 _) | (go_at_call 15; with_reducible exact q2 _) | (go_at_call 9; with_reducible exact q3 _)))
      refine wpQuiet_nil ?_
      rintro w5 ⟨q5, hw5⟩
      have hb5 := below_of_eq hw5
      clear hw5 q5 q1 q2 q3
      go_wp2
      go_ret
      exact ⟨rfl, Below_trans' hbwb hbwb.size hb5⟩
    · have e2 : (mayS nt 2 l 2 ((S : Int) + 1) 10 lot == 0) = false := by simp [hF]
      clear hF
      go_wp2_with fail
      refine (wakes20_any _).mono ?_
      rintro e w9 ⟨rfl, hb9⟩
      go_wp2
      go_ret
      exact ⟨rfl, Below_trans' hbw1 (hbw1).size hb9⟩
  · have e1 : (mayS c k l 2 nn 10 lot == 0) = false := by simp [hE]
    clear hE
    go_wp2_with fail
    refine (wakes20_any _).mono ?_
    rintro e w9 ⟨rfl, hb9⟩
    go_wp2
    go_ret
    exact ⟨rfl, Below_trans' hbw0 (hbw0).size hb9⟩
theorem listsMono_any (b : Bool) (c k : Int) (A : Option Addr) (n cp : Nat) (l : List Row) (nn : Int) (At : Option Addr) (nt ct : Nat) (lot : List Int) (w : World) (h : RRows w A n cp l) (h' : RInts w At nt ct lot) :
    Calls Try.prog 4 #[.bool b, .agg #[.int .i64 c, .int .u8 k, .slice A n cp], .int .i64 nn, .slice At nt ct] w fun e w' => e = .returned (.bool true) ∧ Below w.heap.size w w' := by
  cases b
  · exact mono_zero c k A n cp l nn At nt ct lot w h h'
  · exact mono_one c k A n cp l nn At nt ct lot w h h'
end Go.Proofs.Ytiebfalodelclaa
