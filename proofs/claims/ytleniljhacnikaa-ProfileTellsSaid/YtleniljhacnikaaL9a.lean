/-
  Slices of profiles; right, great, and the reference's Great of a ballot.
-/
import Derived.Test.YtleniljhacnikaaW9z
namespace Go.Proofs.Ytleniljhacnikaa
open Go.RowKit Go.Proofs
attribute [local go_sem] cell?_more cell?_alloc_some cell?_setCell_far frozen?_alloc_some frozen?_more

/-- A profile: its candidates, its kind, its rows. -/
abbrev Prof := Int × Int × List Row
/-- The slice value (A, n, c) reads as the profiles L in the world w (an element takes three cells). -/
def RProfs (w : World) (A : Option Addr) (n c : Nat) (L : List Prof) : Prop :=
  L.length = n ∧ n ≤ c ∧ c ≤ 9223372036854775807 ∧
    (0 < n → ∃ b off, A = some ⟨b, off, none⟩ ∧ ∀ i, i < n → ∃ Ap np cp, w.cell? ⟨b, off + i * 3, none⟩ = some (.int .i64 (L.getD i (0, 0, [])).1) ∧
      w.cell? ⟨b, off + i * 3 + 1, none⟩ = some (.int .u8 (L.getD i (0, 0, [])).2.1) ∧ w.cell? ⟨b, off + i * 3 + 2, none⟩ = some (.slice Ap np cp) ∧ RRows w Ap np cp (L.getD i (0, 0, [])).2.2)
namespace RProfs
variable {w w' : World} {A : Option Addr} {n c k : Nat} {L : List Prof}
theorem len (h : RProfs w A n c L) : L.length = n := h.1
theorem le (h : RProfs w A n c L) : n ≤ 9223372036854775807 := Nat.le_trans h.2.1 h.2.2.1
theorem step (h : RProfs w A n c L) (hk : k < n) : ∃ b off Ap np cp c1 k1 l1, A = some ⟨b, off, none⟩ ∧ w.cell? ⟨b, off + k * 3, none⟩ = some (.int .i64 c1) ∧ w.cell? ⟨b, off + k * 3 + 1, none⟩ = some (.int .u8 k1) ∧ w.cell? ⟨b, off + k * 3 + 2, none⟩ = some (.slice Ap np cp) ∧ RRows w Ap np cp l1 ∧
    Hid (L[k]? = some (c1, k1, l1)) ∧ Hid (L.drop k = (c1, k1, l1) :: L.drop (k + 1)) := by
  have hl : k < L.length := by have := h.1; omega
  obtain ⟨b, off, e, hc⟩ := h.2.2.2 (by omega)
  obtain ⟨Ap, np, cp, h1, h2, h3, h4⟩ := hc k hk
  have hg : L.getD k (0, 0, []) = L[k] := by simp [List.getD, hl]
  refine ⟨b, off, Ap, np, cp, (L.getD k (0, 0, [])).1, (L.getD k (0, 0, [])).2.1, (L.getD k (0, 0, [])).2.2, e, h1, h2, h3, h4, ?_, ?_⟩
  · rw [hg]; exact List.getElem?_eq_getElem hl
  · exact drop_step hl (0, 0, [])
theorem below (h : RProfs w A n c L) (hb : Below w.heap.size w w') : RProfs w' A n c L :=
  ⟨h.1, h.2.1, h.2.2.1, fun hn => let ⟨b, off, e, hc⟩ := h.2.2.2 hn; ⟨b, off, e, fun i hi => let ⟨Am, nm, cm, h1, h2, h3, h4⟩ := hc i hi; ⟨Am, nm, cm, keep_cell hb h1, keep_cell hb h2, keep_cell hb h3, h4.below hb⟩⟩⟩
end RProfs
/-- Two profiles side by side. -/
theorem profs2 {w : World} {g : Nat} {c1 k1 : Int} {A1 : Option Addr} {n1 p1 : Nat} {l1 : List Row} {c2 k2 : Int} {A2 : Option Addr} {n2 p2 : Nat} {l2 : List Row}
    (hg : Has w g 24 #[.int .i64 c1, .int .u8 k1, .slice A1 n1 p1, .int .i64 c2, .int .u8 k2, .slice A2 n2 p2]) (h1 : RRows w A1 n1 p1 l1) (h2 : RRows w A2 n2 p2 l2) : RProfs w (some ⟨g, 0, none⟩) 2 2 [(c1, k1, l1), (c2, k2, l2)] := by
  refine ⟨rfl, Nat.le_refl _, by omega, fun _ => ⟨g, 0, rfl, fun i hi => ?_⟩⟩
  have : i = 0 ∨ i = 1 := by omega
  rcases this with rfl | rfl
  · exact ⟨_, _, _, hg.cell 0, hg.cell 1, hg.cell 2, h1⟩
  · exact ⟨_, _, _, hg.cell 3, hg.cell 4, hg.cell 5, h2⟩

def bgreatS (ms : List Int) : Bool := decide (60 < ms.length)
theorem bgreat_any (k : Int) (A : Option Addr) (n c : Nat) (ms : List Int) (w : World) (h : RInts w A n c ms) :
    Calls Try.prog 50 #[.agg #[.int .u8 k, .slice A n c]] w fun e w' => e = .returned (.bool (bgreatS ms)) ∧ Below w.heap.size w w' := by
  have hl := hide h.len
  have hle := h.le
  have hb0 : Below w.heap.size w (w.alloc (.cells #[.int .u8 k, .slice A n c] 63)) := (Below.refl _ _).alloc (Nat.le_refl _) _
  go_enter Try.func50, Try.ntmps50
  go_wp2
  go_ret
  exact ⟨ret_b (by unfold bgreatS; rw [hl.out]; exact decide_eq_decide.2 (by omega)), hb0⟩

theorem rcheck_val {E : Int} (c k : Int) (A : Option Addr) (n cp : Nat) (l : List Row) (w : World) (h : RRows w A n cp l) (hE : checkS c k l = E) :
    Calls Try.prog 32 #[.agg #[.int .i64 c, .int .u8 k, .slice A n cp]] w fun e w' => e = .returned (.int .i64 E) ∧ Below w.heap.size w w' := hE ▸ rcheck_any c k A n cp l w h

/-- All are valid, and of the first one's kind. -/
def rightB (c k : Int) (l : List Row) (L : List Prof) : Bool := decide (checkS c k l = 0) && L.all fun q => decide (checkS q.1 q.2.1 q.2.2 = 0 ∧ q.1 = c ∧ q.2.1 = k)

set_option maxRecDepth 100000 in
set_option maxHeartbeats 2000000 in
theorem right9_any (c k : Int) (A : Option Addr) (n cp : Nat) (l : List Row) (A' : Option Addr) (n' c' : Nat) (L : List Prof) (w : World) (h : RRows w A n cp l) (h' : RProfs w A' n' c' L) :
    Calls Try.prog 58 #[.agg #[.int .i64 c, .int .u8 k, .slice A n cp], .slice A' n' c'] w fun e w' => e = .returned (.bool (rightB c k l L)) ∧ Below w.heap.size w w' := by
  have hn := h'.le
  have hP0 : Has (w.alloc (.cells #[.int .i64 c, .int .u8 k, .slice A n cp] 24)) w.heap.size 24 #[.int .i64 c, .int .u8 k, .slice A n cp] := Has.new _ _ _
  have hb0 : Below w.heap.size w (w.alloc (.cells #[.int .i64 c, .int .u8 k, .slice A n cp] 24)) := (Below.refl _ _).alloc (Nat.le_refl _) _
  go_enter Try.func58, Try.ntmps58
  go_wp2_with fail
  refine (rcheck_any _ _ A n cp l _ (h.below hb0)).mono ?_
  rintro e w1 ⟨rfl, hbw⟩
  have hP1 := hP0.below hbw hP0.lt
  have hb1 := Below_trans' hb0 hb0.size hbw
  clear hP0 hb0 hbw
  by_cases herr : checkS c k l = 0
  · have Hv : Hid (rightB c k l L = L.all fun q => decide (checkS q.1 q.2.1 q.2.2 = 0 ∧ q.1 = c ∧ q.2.1 = k)) := by unfold Hid rightB; simp [herr]
    rw [herr]
    clear herr
    go_wp2_with fail
    go_loopw [5] (fun i wr => ∃ t : Nat, t ≤ n' ∧ i = .int .i64 t ∧ Hid ((L.all fun q => decide (checkS q.1 q.2.1 q.2.2 = 0 ∧ q.1 = c ∧ q.2.1 = k)) = (L.drop t).all fun q => decide (checkS q.1 q.2.1 q.2.2 = 0 ∧ q.1 = c ∧ q.2.1 = k)) ∧ Below w1.heap.size w1 wr) (fun i _ => n' - (intOf i).toNat)
    case atStart => exact ⟨0, Nat.zero_le _, rfl, by simp [Hid], Below.refl _ _⟩
    case round =>
      obtain ⟨t, ht, rfl, hp, hbr⟩ := hrel
      have hb := Below_trans' hb1 hb1.size hbr
      have hP := hP1.below hbr hP1.lt
      have p0 : wr.cell? ⟨w.heap.size, 0, none⟩ = some (.int .i64 c) := hP.cell 0
      have p1 : wr.cell? ⟨w.heap.size, 1, none⟩ = some (.int .u8 k) := hP.cell 1
      by_cases hlt : t < n'
      · obtain ⟨b, off, Ap, np, cp1, c1, k1, l1, rfl, hc0, hc1, hc2, hr1, hat, hd⟩ := (h'.below hb).step hlt
        have b1 : (0 : Int) ≤ (t : Int) := by omega
        have b2 : (t : Int) < (n' : Int) := by omega
        by_cases he : checkS c1 k1 l1 = 0
        · have heb : (checkS c1 k1 l1 != 0) = false := by simp [he]
          by_cases hcc : c1 = c
          · have hcb : (c1 != c) = false := by simp [hcc]
            by_cases hkk : k1 = k
            · have hkb : (k1 != k) = false := by simp [hkk]
              have Hs : Hid (((L.drop t).all fun q => decide (checkS q.1 q.2.1 q.2.2 = 0 ∧ q.1 = c ∧ q.2.1 = k)) = (L.drop (t + 1)).all fun q => decide (checkS q.1 q.2.1 q.2.2 = 0 ∧ q.1 = c ∧ q.2.1 = k)) := by
                unfold Hid
                rw [hd.out, List.all_cons, decide_eq_true (show checkS c1 k1 l1 = 0 ∧ c1 = c ∧ k1 = k from ⟨he, hcc, hkk⟩), Bool.true_and]
              have He := hide he
              clear he hcc hkk heb
              go_upto_region 6 with fail
              refine wp_region_more (by kernel_rfl) (by kernel_rfl) ?_
              repeat (go_big_quiet_step ((with_reducible exact more_of (rcheck_val c1 k1 Ap np cp1 l1 _ (hr1.more _) He.out))))
              refine wpQuiet_nil ?_
              rintro w2 ⟨qw2, hww2⟩
              have hbw2 := below_of_eq hww2
              clear hww2 qw2
              go_wp2
              go_roundw
              case rel => exact ⟨t + 1, by omega, by go_num, by unfold Hid; rw [hp.out, Hs.out], Below_trans' hbr hbr.size hbw2⟩
              case measure => simp [intOf] <;> omega
            · have hkb : (k1 != k) = true := by simp [hkk]
              have He := hide he
              have Hk := hide hkk
              clear he hcc hkk heb
              go_upto_region 6 with fail
              refine wp_region_more (by kernel_rfl) (by kernel_rfl) ?_
              repeat (go_big_quiet_step ((with_reducible exact more_of (rcheck_val c1 k1 Ap np cp1 l1 _ (hr1.more _) He.out))))
              refine wpQuiet_nil ?_
              rintro w2 ⟨qw2, hww2⟩
              have hbw2 := below_of_eq hww2
              clear hww2 qw2
              go_wp2
              go_ret
              exact ⟨ret_b (by rw [Hv.out, hp.out, hd.out, List.all_cons]; simp [Hk.out]), Below_trans' hb hb.size hbw2⟩
          · have hcb : (c1 != c) = true := by simp [hcc]
            have He := hide he
            have Hc := hide hcc
            clear he hcc heb
            go_upto_region 6 with fail
            refine wp_region_more (by kernel_rfl) (by kernel_rfl) ?_
            repeat (go_big_quiet_step ((with_reducible exact more_of (rcheck_val c1 k1 Ap np cp1 l1 _ (hr1.more _) He.out))))
            refine wpQuiet_nil ?_
            rintro w2 ⟨qw2, hww2⟩
            have hbw2 := below_of_eq hww2
            clear hww2 qw2
            go_wp2
            go_ret
            exact ⟨ret_b (by rw [Hv.out, hp.out, hd.out, List.all_cons]; simp [Hc.out]), Below_trans' hb hb.size hbw2⟩
        · have He := hide he
          obtain ⟨E, hE⟩ : ∃ E, checkS c1 k1 l1 = E := ⟨_, rfl⟩
          have heb : (E != 0) = true := by rw [← hE]; simp [he]
          have HE := hide hE
          clear he hE
          go_upto_region 6 with fail
          refine wp_region_more (by kernel_rfl) (by kernel_rfl) ?_
          repeat (go_big_quiet_step ((with_reducible exact more_of (rcheck_val c1 k1 Ap np cp1 l1 _ (hr1.more _) HE.out))))
          refine wpQuiet_nil ?_
          rintro w2 ⟨qw2, hww2⟩
          have hbw2 := below_of_eq hww2
          clear hww2 qw2
          go_wp2
          go_ret
          exact ⟨ret_b (by rw [Hv.out, hp.out, hd.out, List.all_cons]; simp [He.out]), Below_trans' hb hb.size hbw2⟩
      · have hd : Hid (L.drop t = []) := List.drop_eq_nil_of_le (by have := h'.len; omega)
        have b2 : ¬ (t : Int) < (n' : Int) := by omega
        clear hlt ht
        go_wp2
        go_ret
        exact ⟨ret_b (by rw [Hv.out, hp.out, hd.out]; rfl), hb⟩
  · have hne : (checkS c k l != 0) = true := by rw [bne_iff_ne]; exact herr
    have Hv : Hid (rightB c k l L = false) := by unfold Hid rightB; simp [herr]
    clear herr
    go_wp2
    go_ret
    exact ⟨ret_b Hv.out.symm, hb1⟩
end Go.Proofs.Ytleniljhacnikaa
