/-
  A round of the program's runoff: the state of a count; the round up to its test.
-/
import Derived.Test.YthkkadmgcicedaaGreatW15a
import Derived.Test.YthkkadmgcicedaaGreatApp2
namespace Go.Proofs.YthkkadmgcicedaaGreat
open Go.RowKit Go.Proofs Go.Shelf
attribute [local go_sem] cell?_more cell?_alloc_some cell?_setCell_far frozen?_alloc_some frozen?_more
/-- The state of a count: h the count, g what it makes, q the block of who is left. -/
structure PSt (B S0 h g q C : Nat) (A : Option Addr) (n cp : Nat) (At : Option Addr) (nt ct : Nat) (lot : List Int) (w0 w : World) (el rn vt : Value) (Al : Option Addr) (nl cl : Nat) (left : List Int) (rs : List Rnd) (ts : List Row) (fr ft : Nat → Prop) : Prop where
  hb : Below B w0 w
  bS : S0 ≤ w.heap.size
  hP : Has w h 71 #[.pointer (some ⟨g, 0, none⟩), .int .i64 C, .int .u8 1, .slice A n cp, .slice Al nl cl]
  hG : Has w g 73 #[el, rn, vt, .slice At nt ct]
  hL : Own w B (.slice Al nl cl) left
  hq : (Value.slice Al nl cl).ownBlock = some q
  hlot : RInts w At nt ct lot
  lotb : ∀ b, fpS At nt b → b ≠ h ∧ b ≠ g ∧ b ≠ q ∧ b < S0
  hR : OAgg ERnd 41 6 fr w S0 rn rs
  hT : OAgg ETie 65 2 ft w S0 vt ts
  frS : ∀ b, fr b → S0 ≤ b
  ftS : ∀ b, ft b → S0 ≤ b
  dis : B ≤ h ∧ B ≤ g ∧ B ≤ q ∧ h < S0 ∧ g < S0 ∧ q < S0 ∧ h ≠ g ∧ h ≠ q ∧ g ≠ q
  x1 : ∀ b, rn.ownBlock = some b → ¬ ft b
  x2 : ∀ b, vt.ownBlock = some b → ¬ fr b
  x3 : ∀ b, rn.ownBlock = some b → vt.ownBlock ≠ some b

theorem getI_had {φ : Int → Bool} {l : List Row} {C : Nat} {x : Int} (h : 0 ≤ x ∧ x < C) : getI (hadL φ l C) x = hadS φ l x := by
  obtain ⟨X, rfl⟩ : ∃ X : Nat, x = X := ⟨x.toNat, by omega⟩
  exact getI_of (get_hadL φ l (by omega))
theorem RankOK.had {l : List Row} {C : Nat} (h : RankOK l C) (φ : Int → Bool) (x : Int) : 0 ≤ hadS φ l x ∧ hadS φ l x ≤ 1000000 := by
  have h1 := hadS_bd (φ := φ) h.pos x
  have h2 := h.tot
  omega
theorem RankOK.lost {l : List Row} {C : Nat} (h : RankOK l C) (φ : Int → Bool) : 0 ≤ lostS φ l ∧ lostS φ l ≤ 1000000 := by
  have h1 := lostS_bd (φ := φ) h.pos
  have h2 := h.tot
  omega
theorem RankOK.hads {l : List Row} {C : Nat} (h : RankOK l C) (φ : Int → Bool) : ∀ x ∈ hadL φ l C, 0 ≤ x ∧ x ≤ 1000000 := by
  intro x hx
  obtain ⟨i, _, rfl⟩ := List.mem_map.1 hx
  exact h.had φ _
theorem sum_take_bd {xs : List Int} (h : ∀ x ∈ xs, 0 ≤ x) (k : Nat) : 0 ≤ (xs.take k).sum ∧ (xs.take k).sum ≤ xs.sum := by
  induction xs generalizing k with
  | nil => simp
  | cons a r ih =>
    have ha := h a (List.mem_cons_self ..)
    have h2 := fun k => ih (fun x hx => h x (List.mem_cons_of_mem _ hx)) k
    cases k with
    | zero => have := h2 r.length; rw [List.take_length] at this; simp; omega
    | succ k => have := h2 k; simp; omega
theorem RankOK.sum {l : List Row} {C : Nat} (h : RankOK l C) (φ : Int → Bool) : (hadL φ l C).sum ≤ 1000000 := by
  have h1 := had_all (φ := φ) h.marks
  have h2 := h.lost φ
  have h3 := h.tot
  omega
theorem getI_bd {φ : Int → Bool} {l : List Row} {C : Nat} (h : RankOK l C) (x : Int) : 0 ≤ getI (hadL φ l C) x ∧ getI (hadL φ l C) x ≤ 1000000 := by
  unfold getI
  by_cases hx : x.toNat < (hadL φ l C).length
  · have := h.hads φ ((hadL φ l C).getD x.toNat 0) (by simp [List.getD, hx])
    exact this
  · simp [List.getD, List.getElem?_eq_none (Nat.le_of_not_lt hx)]

/-- The closures of a round. -/
theorem round1_any (x : Int) (p h g : Nat) (y1 y2 y3 : Value) (Al : Option Addr) (nl cl : Nat) (left : List Int) (w : World) (hp : w.cell? ⟨p, 0, none⟩ = some (.pointer (some ⟨h, 0, none⟩))) (hP : Has w h 71 #[.pointer (some ⟨g, 0, none⟩), y1, y2, y3, .slice Al nl cl])
    (hL : RInts w Al nl cl left) : Calls Tryz.prog 51 #[.int .i64 x, .pointer (some ⟨p, 0, none⟩)] w fun e w' => e = .returned (.bool (inL left x)) ∧ w = w' := by
  have q4 := hP.cell 4
  have hc := contains_any Al nl cl left x w hL
  go_enter Tryz.func51, Tryz.ntmps51
  go_wp2_with fail
  refine hc.mono ?_
  rintro e w' ⟨rfl, rfl⟩
  go_wp2
  go_ret
  exact ⟨rfl, rfl⟩
theorem round2_any (X p : Nat) (Ah : Option Addr) (nh ch : Nat) (had : List Int) (w : World) (hp : w.cell? ⟨p, 0, none⟩ = some (.slice Ah nh ch)) (hH : RInts w Ah nh ch had) (hX : X < nh) :
    Calls Tryz.prog 54 #[.int .i64 X, .pointer (some ⟨p, 0, none⟩)] w fun e w' => e = .returned (.int .i64 (getI had X)) ∧ w = w' := by
  obtain ⟨b, off, v, rfl, hc, _, hat, _⟩ := hH.step hX
  have e := hide (getI_of hat.out)
  clear hat
  go_enter Tryz.func54, Tryz.ntmps54
  go_wp2
  go_ret
  exact ⟨ret_i e.out.symm, rfl⟩
theorem round3_any (X p : Nat) (Ah : Option Addr) (nh ch : Nat) (had : List Int) (w : World) (hp : w.cell? ⟨p, 0, none⟩ = some (.slice Ah nh ch)) (hH : RInts w Ah nh ch had) (hX : X < nh) :
    Calls Tryz.prog 59 #[.int .i64 X, .pointer (some ⟨p, 0, none⟩)] w fun e w' => e = .returned (.int .i64 (getI had X)) ∧ w = w' := by
  obtain ⟨b, off, v, rfl, hc, _, hat, _⟩ := hH.step hX
  have e := hide (getI_of hat.out)
  clear hat
  go_enter Tryz.func59, Tryz.ntmps59
  go_wp2
  go_ret
  exact ⟨ret_i e.out.symm, rfl⟩
theorem round4_any (_y p : Nat) (z x : Int) (w : World) (hp : w.cell? ⟨p, 0, none⟩ = some (.int .i64 x)) : Calls Tryz.prog 61 #[.int .i64 z, .pointer (some ⟨p, 0, none⟩)] w fun e w' => e = .returned (.bool (decide (z = x))) ∧ w = w' := by
  go_enter Tryz.func61, Tryz.ntmps61
  by_cases hv : z = x
  · have hz : (z == x) = true := by simp [hv]
    have hd := hide (decide_eq_true hv)
    clear hv
    go_wp2
    go_ret
    exact ⟨ret_b hd.out.symm, rfl⟩
  · have hz : (z == x) = false := by simp [hv]
    have hd := hide (decide_eq_false hv)
    clear hv
    go_wp2
    go_ret
    exact ⟨ret_b hd.out.symm, rfl⟩
end Go.Proofs.YthkkadmgcicedaaGreat
