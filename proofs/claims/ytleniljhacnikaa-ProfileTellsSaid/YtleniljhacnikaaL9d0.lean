/-
  law09.great: one of the profiles is too great.
-/
import Derived.Test.YtleniljhacnikaaL9a
import Derived.Test.YtleniljhacnikaaGrt
namespace Go.Proofs.Ytleniljhacnikaa
open Go.RowKit Go.Proofs
attribute [local go_sem] cell?_more cell?_alloc_some cell?_setCell_far frozen?_alloc_some frozen?_more

def great9 (L : List Prof) : Bool := L.any fun q => greatS q.2.2
set_option maxRecDepth 100000 in
set_option maxHeartbeats 2000000 in
theorem great9_any (A' : Option Addr) (n' c' : Nat) (L : List Prof) (w : World) (h' : RProfs w A' n' c' L) :
    Calls Try.prog 39 #[.slice A' n' c'] w fun e w' => e = .returned (.bool (great9 L)) ∧ Below w.heap.size w w' := by
  have hn := h'.le
  have hlen := h'.len
  go_enter Try.func39, Try.ntmps39
  go_wp2_with fail
  go_loopw [3] (fun i wr => ∃ t : Nat, t ≤ n' ∧ i = .int .i64 t ∧ Hid (great9 L = great9 (L.drop t)) ∧ Below w.heap.size w wr) (fun i _ => n' - (intOf i).toNat)
  case atStart => exact ⟨0, Nat.zero_le _, rfl, rfl, Below.refl _ _⟩
  case round =>
    obtain ⟨t, ht, rfl, hp, hb⟩ := hrel
    by_cases hlt : t < n'
    · obtain ⟨b, off, Ap, np, cp1, c1, k1, l1, rfl, hc0, hc1, hc2, hr1, hat, hd⟩ := (h'.below hb).step hlt
      have b1 : (0 : Int) ≤ (t : Int) := by omega
      have b2 : (t : Int) < (n' : Int) := by omega
      go_wp2_with fail
      refine (great_any c1 k1 Ap np cp1 l1 _ hr1).mono ?_
      rintro e w2 ⟨rfl, hbw⟩
      have hb2 := Below_trans' hb hb.size hbw
      clear hb hbw hc0 hc1 hc2
      cases hg : greatS l1 with
      | true =>
        have HV : Hid (great9 L = true) := by unfold Hid; rw [hp.out, hd.out]; unfold great9; rw [List.any_cons, show greatS (c1, k1, l1).2.2 = true from hg, Bool.true_or]
        clear hg
        go_wp2
        go_ret
        exact ⟨ret_b (by rw [HV.out]), hb2⟩
      | false =>
        have HV : Hid (great9 (L.drop t) = great9 (L.drop (t + 1))) := by unfold Hid; rw [hd.out]; unfold great9; rw [List.any_cons, show greatS (c1, k1, l1).2.2 = false from hg, Bool.false_or]
        clear hg
        go_wp2
        go_roundw
        case rel => exact ⟨t + 1, by omega, by go_num, by unfold Hid; rw [hp.out, HV.out], hb2⟩
        case measure => simp [intOf] <;> omega
    · have hd : Hid (L.drop t = []) := List.drop_eq_nil_of_le (by omega)
      have HV : Hid (great9 L = false) := by unfold Hid; rw [hp.out, hd.out]; rfl
      have b2 : ¬ (t : Int) < (n' : Int) := by omega
      clear hlt ht hlen
      go_wp2
      go_ret
      exact ⟨ret_b (by rw [HV.out]), hb⟩
end Go.Proofs.Ytleniljhacnikaa
