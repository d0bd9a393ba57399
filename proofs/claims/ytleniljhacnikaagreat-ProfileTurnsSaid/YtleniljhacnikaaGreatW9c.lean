/-
  The layer profile: Check; the reference: Sums, Check.
-/
import Derived.Test.YtleniljhacnikaaGreatW9b
namespace Go.Proofs.YtleniljhacnikaaGreat
open Go.RowKit Go.Proofs
attribute [local go_sem] cell?_more cell?_alloc_some cell?_setCell_far frozen?_alloc_some frozen?_more


theorem CInv.keep {w : World} {g : Nat} {c k : Int} {A : Option Addr} {n cp : Nat} {l : List Row} {i : Nat} {W W' : World} (hg : w.heap.size = g) (h : CInv w g c k A n cp l i W) (hb : Below W.heap.size W W') :
    CInv w g c k A n cp l i W' :=
  let ⟨h1, h2, h3, h4, h5⟩ := h
  ⟨by subst hg; exact Below_trans' h1 h1.size hb, h2.below hb h2.lt, h3.below hb h3.lt, h4.below hb h4.lt, h5⟩

theorem CInv.start (w : World) (c k : Int) (A : Option Addr) (n cp : Nat) (l : List Row) :
    CInv w w.heap.size c k A n cp l 0 (((w.alloc (.cells #[.int .i64 c, .int .u8 k, .slice A n cp] 24)).alloc (.cells #[.int .i64 0] 3)).alloc (.cells #[.bool true] 4)) := by
  refine ⟨(((Below.refl _ _).alloc (Nat.le_refl _) _).alloc (by simp) _).alloc (by simp; omega) _, ((Has.new _ _ _).alloc _).alloc _, ?_, ?_, fun j hj => absurd hj (by omega)⟩
  · simpa [capS, totS] using (Has.new2 w _ 3 #[.int .i64 0]).alloc _
  · simpa using Has.new2 (w.alloc (.cells #[.int .i64 c, .int .u8 k, .slice A n cp] 24)) (.cells #[.int .i64 0] 3) 4 #[.bool true]

theorem all_check1 (c k : Int) (A : Option Addr) (n cp : Nat) (l : List Row) (w : World) (h : RRows w A n cp l) :
    Calls Tryz.prog 46 #[.slice A n cp, .func (.func 47) #[] #[.pointer (some ⟨w.heap.size + 1 + 1, 0, none⟩), .pointer (some ⟨w.heap.size + 1, 0, none⟩), .pointer (some ⟨w.heap.size, 0, none⟩)]]
      (((w.alloc (.cells #[.int .i64 c, .int .u8 k, .slice A n cp] 24)).alloc (.cells #[.int .i64 0] 3)).alloc (.cells #[.bool true] 4))
      (AllPost n (rowOK c k l) (CInv w w.heap.size c k A n cp l) (CFin w w.heap.size c k A n cp)) :=
  all_check A n cp l _ (rowOK c k l) (CInv w w.heap.size c k A n cp l) (CFin w w.heap.size c k A n cp) _ w h (CInv.start w c k A n cp l)
    (fun _ _ hI => hI.1) (fun _ _ _ hI hb => hI.keep rfl hb)
    (fun i W Am nm cm Al nl cl ms ml y yl hi hI hl hm hy hr hr' => check1_any w c k A n cp l i W Am nm cm Al nl cl ms ml y yl h.len hi hI hl hm hy hr hr')

theorem new_ok (c k : Int) (w : World) (h : newErr c k = 0) :
    Calls Tryz.prog 16 #[.int .i64 c, .int .u8 k] w fun e w' => e = .returned (.tuple #[.agg #[.int .i64 c, .int .u8 k, .slice none 0 0], .int .i64 0]) ∧ Below w.heap.size w w' :=
  (new_any c k w).mono fun e w' ⟨he, hb⟩ => ⟨by rw [he, newV, if_pos h, h], hb⟩
theorem new_bad (c k : Int) (w : World) (h : newErr c k ≠ 0) :
    Calls Tryz.prog 16 #[.int .i64 c, .int .u8 k] w fun e w' => e = .returned (.tuple #[.agg #[.int .i64 0, .int .u8 0, .slice none 0 0], .int .i64 2]) ∧ Below w.heap.size w w' :=
  (new_any c k w).mono fun e w' ⟨he, hb⟩ => ⟨by rw [he, newV, if_neg h, newErr, if_pos (newErr_bad.1 h)], hb⟩

theorem rnew_ok (c k : Int) (w : World) (h : newErr c k = 0) :
    Calls Tryz.prog 34 #[.int .i64 c, .int .u8 k] w fun e w' => e = .returned (.tuple #[.agg #[.int .i64 c, .int .u8 k, .slice none 0 0], .int .i64 0]) ∧ Below w.heap.size w w' :=
  (rnew_any c k w).mono fun e w' ⟨he, hb⟩ => ⟨by rw [he, newV, if_pos h, h], hb⟩
theorem rnew_bad (c k : Int) (w : World) (h : newErr c k ≠ 0) :
    Calls Tryz.prog 34 #[.int .i64 c, .int .u8 k] w fun e w' => e = .returned (.tuple #[.agg #[.int .i64 0, .int .u8 0, .slice none 0 0], .int .i64 2]) ∧ Below w.heap.size w w' :=
  (rnew_any c k w).mono fun e w' ⟨he, hb⟩ => ⟨by rw [he, newV, if_neg h, newErr, if_pos (newErr_bad.1 h)], hb⟩

theorem capS_end {l : List Row} : 1000000 < capS l l.length ↔ 1000000 < totS l := by
  unfold capS
  rw [List.take_length]
  split <;> omega

set_option maxHeartbeats 1000000 in
theorem pcheck_any (c k : Int) (A : Option Addr) (n cp : Nat) (l : List Row) (w : World) (h : RRows w A n cp l) :
    Calls Tryz.prog 22 #[.agg #[.int .i64 c, .int .u8 k, .slice A n cp]] w fun e w' => e = .returned (.int .i64 (checkS c k l)) ∧ Below w.heap.size w w' := by
  have hn := h.le
  have hl := h.len
  have hbP : Below w.heap.size w (w.alloc (.cells #[.int .i64 c, .int .u8 k, .slice A n cp] 24)) := (Below.refl _ _).alloc (Nat.le_refl _) _
  by_cases h64 : 64 < n
  · go_enter Tryz.func22, Tryz.ntmps22
    go_wp2
    go_ret
    exact ⟨ret_i (by rw [checkS, if_pos (by omega)]), hbP⟩
  · have hcon := hide (all_check1 c k A n cp l w h)
    by_cases hall : allN n (rowOK c k l) = true
    · have Hall := hide hall
      clear hall
      by_cases herr : newErr c k = 0
      · have Herr := hide herr
        clear herr
        by_cases htot : 1000000 < totS l
        · go_enter Tryz.func22, Tryz.ntmps22
          go_wp2_with fail
          refine hcon.out.mono ?_
          rintro e w4 ⟨he, hI, _⟩
          rw [Hall.out] at he
          subst he
          obtain ⟨hb, hP, hS, _, _⟩ := hI Hall.out
          clear hI
          have hc := capS_end (l := l)
          rw [hl] at hc
          have hcap : 1000000 < capS l n := hc.2 htot
          clear hc
          have p0 : w4.cell? ⟨w.heap.size, 0, none⟩ = some (.int .i64 c) := hP.cell 0
          have p1 : w4.cell? ⟨w.heap.size, 1, none⟩ = some (.int .u8 k) := hP.cell 1
          go_wp2_with fail
          refine (new_ok _ _ _ Herr.out).mono ?_
          rintro e w5 ⟨rfl, hb5⟩
          have s1 : w5.cell? ⟨w.heap.size + 1, 0, none⟩ = some (.int .i64 (capS l n)) := (hS.below hb5 hS.lt).cell 0
          have hbE := Below_trans' hb hb.size (hb5.alloc hb5.size (.cells #[.int .i64 c, .int .u8 k, .slice none 0 0] 24))
          go_wp2
          go_ret
          exact ⟨ret_i (by rw [checkS, if_neg (by omega), hl, if_neg (by rw [Hall.out, Herr.out]; simp), if_pos htot]), hbE⟩
        · go_enter Tryz.func22, Tryz.ntmps22
          go_wp2_with fail
          refine hcon.out.mono ?_
          rintro e w4 ⟨he, hI, _⟩
          rw [Hall.out] at he
          subst he
          obtain ⟨hb, hP, hS, _, _⟩ := hI Hall.out
          clear hI
          have hc := capS_end (l := l)
          rw [hl] at hc
          have hcap : ¬ 1000000 < capS l n := fun hh => by have := hc.1 hh; omega
          clear hc
          have p0 : w4.cell? ⟨w.heap.size, 0, none⟩ = some (.int .i64 c) := hP.cell 0
          have p1 : w4.cell? ⟨w.heap.size, 1, none⟩ = some (.int .u8 k) := hP.cell 1
          go_wp2_with fail
          refine (new_ok _ _ _ Herr.out).mono ?_
          rintro e w5 ⟨rfl, hb5⟩
          have s1 : w5.cell? ⟨w.heap.size + 1, 0, none⟩ = some (.int .i64 (capS l n)) := (hS.below hb5 hS.lt).cell 0
          have hbE := Below_trans' hb hb.size (hb5.alloc hb5.size (.cells #[.int .i64 c, .int .u8 k, .slice none 0 0] 24))
          go_wp2
          go_ret
          exact ⟨ret_i (by rw [checkS, if_neg (by omega), hl, if_neg (by rw [Hall.out, Herr.out]; simp), if_neg (by omega)]), hbE⟩
      · have Herr := hide herr
        clear herr
        go_enter Tryz.func22, Tryz.ntmps22
        go_wp2_with fail
        refine hcon.out.mono ?_
        rintro e w4 ⟨he, hI, _⟩
        rw [Hall.out] at he
        subst he
        obtain ⟨hb, hP, hS, _, _⟩ := hI Hall.out
        clear hI
        have hc := capS_end (l := l)
        rw [hl] at hc
        clear hc
        have p0 : w4.cell? ⟨w.heap.size, 0, none⟩ = some (.int .i64 c) := hP.cell 0
        have p1 : w4.cell? ⟨w.heap.size, 1, none⟩ = some (.int .u8 k) := hP.cell 1
        go_wp2_with fail
        refine (new_bad _ _ _ Herr.out).mono ?_
        rintro e w5 ⟨rfl, hb5⟩
        have s1 : w5.cell? ⟨w.heap.size + 1, 0, none⟩ = some (.int .i64 (capS l n)) := (hS.below hb5 hS.lt).cell 0
        have hbE := Below_trans' hb hb.size (hb5.alloc hb5.size (.cells #[.int .i64 0, .int .u8 0, .slice none 0 0] 24))
        go_wp2
        go_ret
        exact ⟨ret_i (by rw [checkS, if_neg (by omega), hl, if_pos (.inr Herr.out)]), hbE⟩
    · have hall' : allN n (rowOK c k l) = false := by simpa using hall
      have Hall := hide hall'
      clear hall hall'
      go_enter Tryz.func22, Tryz.ntmps22
      go_wp2_with fail
      refine hcon.out.mono ?_
      rintro e w4 ⟨he, _, hI⟩
      rw [Hall.out] at he
      subst he
      obtain ⟨hb, hP⟩ := hI Hall.out
      clear hI
      have p0 : w4.cell? ⟨w.heap.size, 0, none⟩ = some (.int .i64 c) := hP.cell 0
      have p1 : w4.cell? ⟨w.heap.size, 1, none⟩ = some (.int .u8 k) := hP.cell 1
      by_cases herr : newErr c k = 0
      · have Herr := hide herr
        clear herr
        go_wp2_with fail
        refine (new_ok _ _ _ Herr.out).mono ?_
        rintro e w5 ⟨rfl, hb5⟩
        go_wp2
        go_ret
        exact ⟨ret_i (by rw [checkS, if_neg (by omega), hl, if_pos (.inl Hall.out)]), Below_trans' hb hb.size (hb5.alloc hb5.size _)⟩
      · have Herr := hide herr
        clear herr
        go_wp2_with fail
        refine (new_bad _ _ _ Herr.out).mono ?_
        rintro e w5 ⟨rfl, hb5⟩
        go_wp2
        go_ret
        exact ⟨ret_i (by rw [checkS, if_neg (by omega), hl, if_pos (.inl Hall.out)]), Below_trans' hb hb.size (hb5.alloc hb5.size _)⟩
end Go.Proofs.YtleniljhacnikaaGreat
