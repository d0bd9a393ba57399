/-
  The number of ballots, and of those with marks: the program's count, Many, Marked; the reference's Many, Marked.
-/
import Derived.Test.YtiebfalodelclaaGreatW9a
import Derived.Test.YtiebfalodelclaaGreatSpecA
namespace Go.Proofs.YtiebfalodelclaaGreat
open Go.RowKit Go.Proofs
attribute [local go_sem] cell?_more cell?_alloc_some cell?_setCell_far frozen?_alloc_some frozen?_more

/-- The counts of the rows that satisfy p. -/
def cntP (p : Row → Bool) (l : List Row) : Int := (l.map fun r => if p r then r.2 else 0).sum
def cntV (c k : Int) (l : List Row) (p : Row → Bool) : Int := if checkS c k l = 0 then cntP p l else 0
def anyRow (_ : Row) : Bool := true
def someRow (r : Row) : Bool := decide (0 < r.1.length)

theorem cntP_take_succ {p : Row → Bool} {l : List Row} {i : Nat} {r : Row} (h : l[i]? = some r) : cntP p (l.take (i + 1)) = cntP p (l.take i) + if p r then r.2 else 0 := by
  unfold cntP
  rw [List.take_add_one, h]
  simp
theorem cntP_bd {p : Row → Bool} {c k : Int} {l : List Row} (h : checkS c k l = 0) : ∀ i, i ≤ l.length → 0 ≤ cntP p (l.take i) ∧ cntP p (l.take i) ≤ totS (l.take i)
  | 0, _ => by simp [cntP, totS]
  | i + 1, hi => by
    obtain ⟨_, _, _, _, _, _, h7⟩ := check_ok h
    have hl : i < l.length := by omega
    have he := List.getElem?_eq_getElem hl
    have h1 := cntP_bd (p := p) h i (by omega)
    have h2 := rowOK_many (h7 i hl)
    rw [getD_of he] at h2
    rw [cntP_take_succ he, totS_take_succ he]
    split <;> omega
theorem cntP_any (l : List Row) : cntP anyRow l = totS l := by simp [cntP, anyRow, totS]
theorem cntP_room {p : Row → Bool} {c k : Int} {l : List Row} (h : checkS c k l = 0) {i : Nat} {ms : List Int} {y : Int} (hat : l[i]? = some (ms, y)) :
    0 < y ∧ 0 ≤ cntP p (l.take i) ∧ cntP p (l.take i) + y ≤ 1000000 := by
  obtain ⟨_, _, _, _, _, h6, h7⟩ := check_ok h
  have hl := (List.getElem?_eq_some_iff.1 hat).1
  have h1 := cntP_bd (p := p) h i (by omega)
  have h2 := rowOK_many (h7 i hl)
  have h3 := totS_mono (l := l) (fun i hi => rowOK_many (h7 i hi)) (a := i + 1) (b := l.length) (by omega) (Nat.le_refl _)
  rw [getD_of hat] at h2
  rw [totS_take_succ hat, List.take_length] at h3
  simp only at h2 h3
  omega

theorem ret_ii {a b a' b' : Int} (h1 : a = a') (h2 : b = b') : Ending.returned (.tuple #[.int .i64 a, .int .i64 b]) = .returned (.tuple #[.int .i64 a', .int .i64 b']) := by rw [h1, h2]

theorem many1_any (Am : Option Addr) (nm cm : Nat) (ms : List Int) (y : Int) (w : World) (_h : RInts w Am nm cm ms) :
    Calls Tryz.prog 38 #[.agg #[.slice Am nm cm, .int .i64 y]] w fun e w' => e = .returned (.bool (anyRow (ms, y))) ∧ Below w.heap.size w w' := by
  go_enter Tryz.func38, Tryz.ntmps38
  go_wp2
  go_ret
  exact ⟨rfl, (Below.refl _ _).alloc (Nat.le_refl _) _⟩
set_option maxHeartbeats 1000000 in
theorem countMany_any (c k : Int) (A : Option Addr) (n cp : Nat) (l : List Row) (w : World) (h : RRows w A n cp l) :
    Calls Tryz.prog 37 #[.agg #[.int .i64 c, .int .u8 k, .slice A n cp], .func (.func 38) #[] #[]] w fun e w' => e = .returned (.tuple #[.int .i64 (cntV c k l anyRow), .int .i64 (checkS c k l)]) ∧ Below w.heap.size w w' := by
  have hn := h.le
  have hl := h.len
  have hP0 := Has.new w 24 #[.int .i64 c, .int .u8 k, .slice A n cp]
  have hb0 : Below w.heap.size w (w.alloc (.cells #[.int .i64 c, .int .u8 k, .slice A n cp] 24)) := (Below.refl _ _).alloc (Nat.le_refl _) _
  go_enter Tryz.func37, Tryz.ntmps37
  go_wp2_with fail
  refine (pcheck_any _ _ _ _ _ l _ (h.below hb0)).mono ?_
  rintro e w1 ⟨rfl, hbw1⟩
  have hP1 := hP0.below hbw1 hP0.lt
  have hb1 := Below_trans' hb0 hb0.size hbw1
  clear hbw1 hP0 hb0
  by_cases herr : checkS c k l = 0
  · have hr : Hid (cntV c k l anyRow = cntP anyRow l) := by unfold Hid cntV; rw [if_pos herr]
    have H0 := hide herr
    clear herr
    rw [H0.out]
    have p2 : w1.cell? ⟨w.heap.size, 2, none⟩ = some (.slice A n cp) := hP1.cell 2
    go_wp2_with fail
    go_loopw [4, 16] (fun s i wr => ∃ (t : Nat) (S : Int), t ≤ n ∧ i = .int .i64 t ∧ s = .int .i64 S ∧ Hid (S = cntP anyRow (l.take t)) ∧ Below w.heap.size w wr) (fun _ i _ => n - (intOf i).toNat)
    case atStart => exact ⟨0, 0, Nat.zero_le _, rfl, rfl, by simp [Hid, cntP], hb1⟩
    case round =>
      obtain ⟨t, S, ht, rfl, rfl, hS, hb⟩ := hrel
      by_cases hlt : t < n
      · obtain ⟨b, off, Am, nm, cm, ms, y, rfl, hc0, hm0, hc1, hd, hat, hy⟩ := (h.below hb).step hlt
        have hroom := cntP_room (p := anyRow) H0.out hat.out
        rw [← hS.out] at hroom
        obtain ⟨y0, s0, s1⟩ := hroom
        have hsum := hide (cntP_take_succ (p := anyRow) hat.out)
        go_wp2_with fail
        have hR := Has.new wr 68 #[.slice Am nm cm, .int .i64 y]
        have hbR : Below wr.heap.size wr (wr.alloc (.cells #[.slice Am nm cm, .int .i64 y] 68)) := (Below.refl _ _).alloc (Nat.le_refl _) _
        refine (many1_any Am nm cm ms y _ (hm0.below hbR)).mono ?_
        rintro e w2 ⟨rfl, hbw2⟩
        have hR2 := hR.below hbw2 hR.lt
        have hb2 := Below_trans' (Below_trans' hb hb.size hbR) (Below_trans' hb hb.size hbR).size hbw2
        have r1 : w2.cell? ⟨wr.heap.size, 1, none⟩ = some (.int .i64 y) := hR2.cell 1
        clear hR hbR hbw2 hR2
        cases hp : anyRow (ms, y) with
        | true =>
          rw [hp, if_pos rfl] at hsum
          go_wp2
          go_roundw
          case rel => exact ⟨t + 1, S + y, by omega, by go_num, rfl, by unfold Hid; rw [hsum.out, hS.out], hb2⟩
          case measure => simp [intOf] <;> omega
        | false =>
          rw [hp, if_neg (by simp)] at hsum
          go_wp2
          go_roundw
          case rel => exact ⟨t + 1, S, by omega, by go_num, rfl, by unfold Hid; rw [hsum.out, hS.out]; omega, hb2⟩
          case measure => simp [intOf] <;> omega
      · have htn : Hid (S = cntP anyRow l) := by unfold Hid; rw [hS.out, List.take_of_length_le (by omega)]
        have b2 : ¬ (t : Int) < n := by omega
        clear hlt ht
        go_wp2
        go_ret2
        exact ⟨ret_ii (by rw [hr.out, htn.out]) H0.out.symm, hb⟩
  · have hr : Hid (cntV c k l anyRow = 0) := by unfold Hid cntV; rw [if_neg herr]
    have hne : (checkS c k l != 0) = true := by rw [bne_iff_ne]; exact herr
    clear herr
    go_wp2
    go_ret2
    exact ⟨ret_ii hr.out.symm rfl, hb1⟩


theorem many_any (c k : Int) (A : Option Addr) (n cp : Nat) (l : List Row) (w : World) (h : RRows w A n cp l) :
    Calls Tryz.prog 15 #[.agg #[.int .i64 c, .int .u8 k, .slice A n cp]] w fun e w' => e = .returned (.tuple #[.int .i64 (cntV c k l anyRow), .int .i64 (checkS c k l)]) ∧ Below w.heap.size w w' := by
  have hb0 : Below w.heap.size w (w.alloc (.cells #[.int .i64 c, .int .u8 k, .slice A n cp] 24)) := (Below.refl _ _).alloc (Nat.le_refl _) _
  go_enter Tryz.func15, Tryz.ntmps15
  go_wp2_with fail
  refine (countMany_any _ _ _ _ _ l _ (h.below hb0)).mono ?_
  rintro e w1 ⟨rfl, hbw1⟩
  go_wp2
  go_ret2
  exact ⟨rfl, Below_trans' hb0 hb0.size hbw1⟩


theorem cap_tot {c k : Int} {l : List Row} (h : checkS c k l = 0) : capS l l.length = totS l := by
  obtain ⟨_, _, _, _, _, h6, _⟩ := check_ok h
  unfold capS
  rw [List.take_length, if_neg (by omega)]

end Go.Proofs.YtiebfalodelclaaGreat
