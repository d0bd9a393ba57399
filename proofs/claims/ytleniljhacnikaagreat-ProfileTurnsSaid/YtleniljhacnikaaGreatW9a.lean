/-
  The layer profile: all (a predicate over the rows), of, New, Check.
-/
import Derived.Test.YtleniljhacnikaaGreatW8e
import Derived.Test.YtleniljhacnikaaGreatSpecA
import Derived.StillTailTactics
namespace Go.Proofs.YtleniljhacnikaaGreat
open Go.RowKit Go.Proofs
attribute [local go_sem] cell?_more cell?_alloc_some

/-- What 'all' leaves: its answer; if it is yes, the invariant at the end; if it is no, what the predicate left. -/
def AllPost (n : Nat) (p : Nat → Bool) (Inv : Nat → World → Prop) (Fin : World → Prop) (e : Ending) (w' : World) : Prop :=
  e = .returned (.bool (allN n p)) ∧ (allN n p = true → Inv n w') ∧ (allN n p = false → Fin w')

/-- What the predicate number i leaves. -/
def OnePost (i : Nat) (p : Nat → Bool) (Inv : Nat → World → Prop) (Fin : World → Prop) (e : Ending) (w' : World) : Prop :=
  e = .returned (.bool (p i)) ∧ (p i = true → Inv (i + 1) w') ∧ (p i = false → Fin w')

set_option maxRecDepth 100000 in
set_option maxHeartbeats 1000000 in
theorem all_check (A : Option Addr) (n c : Nat) (l : List Row) (cb : Array Value) (p : Nat → Bool) (Inv : Nat → World → Prop) (Fin : World → Prop) (w w0 : World)
    (hr : RRows w0 A n c l) (h0 : Inv 0 w) (hrows : ∀ i W, Inv i W → Below w0.heap.size w0 W) (hkeep : ∀ i W W', Inv i W → Below W.heap.size W W' → Inv i W')
    (hone : ∀ i W Am nm cm Al nl cl ms ml y yl, i < n → Inv i W → l[i - 1]? = some (ml, yl) → l[i]? = some (ms, y) → (-9223372036854775808 ≤ y ∧ y ≤ 9223372036854775807) → RInts w0 Al nl cl ml → RInts w0 Am nm cm ms →
      Calls Tryz.prog 47 (#[.agg #[.slice Al nl cl, .int .i64 yl], .agg #[.slice Am nm cm, .int .i64 y]] ++ cb) W (OnePost i p Inv Fin)) :
    Calls Tryz.prog 46 #[.slice A n c, .func (.func 47) #[] cb] w (AllPost n p Inv Fin) := by
  have hn := hr.le
  have H0 := hide h0
  have HR := hide hrows
  have HK := hide hkeep
  have HO := hide hone
  clear h0 hrows hkeep hone
  go_enter Tryz.func46, Tryz.ntmps46
  go_wp2
  go_loopw [9] (fun i wr => ∃ k : Nat, k ≤ n ∧ i = .int .i64 k ∧ Hid (∀ j, j < k → p j = true) ∧ Hid (Inv k wr)) (fun i _ => n - (intOf i).toNat)
  case atStart => exact ⟨0, Nat.zero_le _, rfl, fun j hj => absurd hj (by omega), H0.out⟩
  case round =>
    obtain ⟨k, hk, rfl, hp, hI⟩ := hrel
    by_cases hlt : k < n
    · have hB := HR.out k wr hI.out
      obtain ⟨b, off, Am, nm, cm, ms, y, e0, hc0, hm0, hc1, hd, hat, hy⟩ := hr.step hlt
      obtain ⟨b', off', Al, nl, cl, ml, yl, e1, hc0', hm0', hc1', hd', hat', hy'⟩ := hr.step (k := k - 1) (by omega)
      subst e0
      cases e1
      have hc0 := keep_cell hB hc0
      have hc1 := keep_cell hB hc1
      have hc0' := keep_cell hB hc0'
      have hc1' := keep_cell hB hc1'
      have b1 : (0 : Int) ≤ (k : Int) := by omega
      have b2 : (k : Int) < (n : Int) := by omega
      by_cases hk0 : k = 0
      · have b5 : ((k : Int) - 1 < 0) = True := eq_true (by omega)
        have e1 : IntKind.i64.wrap ((k : Int) - 1) = (k : Int) - 1 := IntWalk.i64_in _ (by omega)
        have hn0 : 0 < n := by omega
        have Hk0 := hide hk0
        clear hk0
        go_wp2
        obtain ⟨W, hW⟩ : ∃ W, W = wr.alloc (.cells #[.slice Am nm cm, .int .i64 y] 47) := ⟨_, rfl⟩
        rw [← hW]
        have hbW : Below wr.heap.size wr W := by rw [hW]; exact (Below.refl _ _).alloc (Nat.le_refl _) _
        have hwW : Has W wr.heap.size 47 #[.slice Am nm cm, .int .i64 y] := by rw [hW]; exact Has.new _ _ _
        clear hW
        have k0 := keep_cell hbW hc0
        have k1 := keep_cell hbW hc1
        have k2 := keep_cell hbW hc0'
        have k3 := keep_cell hbW hc1'
        have k4 : W.cell? ⟨wr.heap.size, 0, none⟩ = some (.slice Am nm cm) := hwW.cell 0
        have k5 : W.cell? ⟨wr.heap.size, 1, none⟩ = some (.int .i64 y) := hwW.cell 1
        rw [show k - 1 = 0 by have := Hk0.out; omega] at k2 k3; simp only [Nat.zero_mul, Nat.add_zero] at k2 k3
        refine wp_region_still_tail 8 (by kernel_rfl) (by kernel_rfl) ?_
        simp only [List.take_succ_cons, List.take_zero, List.drop_succ_cons, List.drop_zero]
        change wpStill _ _ W.drew _ _ _
        still_step
        still_step
        still_step
        still_step
        still_step
        still_step
        still_step
        still_step
        refine wpStill_nil ?_
        have hIW := hide (HK.out k wr W.drew hI.out hbW.drew)
        have hbD : Below wr.heap.size wr W.drew := hbW.drew
        have hcon := hide (HO.out k W.drew Am nm cm Al nl cl ms ml y yl hlt hIW.out hat'.out hat.out hy hm0' hm0)
        by_cases hpk : p k = true
        · have Hpk := hide hpk
          clear hpk
          go_wp2_with fail
          refine (hcon.out).mono ?_
          rintro e w2 ⟨he, h1, h2⟩
          rw [Hpk.out] at he
          subst he
          have H1 := hide (h1 Hpk.out)
          clear h1 h2
          go_wp2
          go_roundw
          case rel => exact ⟨k + 1, by omega, by go_num, fun j hj => by
            by_cases ej : j = k
            · rw [ej]; exact Hpk.out
            · exact hp.out j (by omega), H1.out⟩
          case measure => simp [intOf] <;> omega
        · have Hpk := hide (Bool.eq_false_iff.2 hpk)
          clear hpk
          go_wp2_with fail
          refine (hcon.out).mono ?_
          rintro e w2 ⟨he, h1, h2⟩
          rw [Hpk.out] at he
          subst he
          have H2 := hide (h2 Hpk.out)
          clear h1 h2
          go_wp2
          go_ret
          exact ⟨ret_b (allN_false hlt Hpk.out).symm, (fun h => by rw [allN_false hlt Hpk.out] at h; cases h), fun _ => H2.out⟩
      · have b5 : ((k : Int) - 1 < 0) = False := eq_false (by omega)
        have b3 : (1 : Int) ≤ (k : Int) := by omega
        have b4 : (k : Int) - 1 < (n : Int) := by omega
        have e1 : IntKind.i64.wrap ((k : Int) - 1) = (k : Int) - 1 := IntWalk.i64_in _ (by omega)
        have e2 : ((k : Int) - 1).toNat = k - 1 := by omega
        go_wp2
        obtain ⟨W, hW⟩ : ∃ W, W = wr.alloc (.cells #[.slice Am nm cm, .int .i64 y] 47) := ⟨_, rfl⟩
        rw [← hW]
        have hbW : Below wr.heap.size wr W := by rw [hW]; exact (Below.refl _ _).alloc (Nat.le_refl _) _
        have hwW : Has W wr.heap.size 47 #[.slice Am nm cm, .int .i64 y] := by rw [hW]; exact Has.new _ _ _
        clear hW
        have k0 := keep_cell hbW hc0
        have k1 := keep_cell hbW hc1
        have k2 := keep_cell hbW hc0'
        have k3 := keep_cell hbW hc1'
        have k4 : W.cell? ⟨wr.heap.size, 0, none⟩ = some (.slice Am nm cm) := hwW.cell 0
        have k5 : W.cell? ⟨wr.heap.size, 1, none⟩ = some (.int .i64 y) := hwW.cell 1
        skip
        refine wp_region_still_tail 8 (by kernel_rfl) (by kernel_rfl) ?_
        simp only [List.take_succ_cons, List.take_zero, List.drop_succ_cons, List.drop_zero]
        change wpStill _ _ W.drew _ _ _
        still_step
        still_step
        still_step
        still_step
        still_step
        still_step
        still_step
        still_step
        refine wpStill_nil ?_
        have hIW := hide (HK.out k wr W.drew hI.out hbW.drew)
        have hbD : Below wr.heap.size wr W.drew := hbW.drew
        have hcon := hide (HO.out k W.drew Am nm cm Al nl cl ms ml y yl hlt hIW.out hat'.out hat.out hy hm0' hm0)
        by_cases hpk : p k = true
        · have Hpk := hide hpk
          clear hpk
          go_wp2_with fail
          refine (hcon.out).mono ?_
          rintro e w2 ⟨he, h1, h2⟩
          rw [Hpk.out] at he
          subst he
          have H1 := hide (h1 Hpk.out)
          clear h1 h2
          go_wp2
          go_roundw
          case rel => exact ⟨k + 1, by omega, by go_num, fun j hj => by
            by_cases ej : j = k
            · rw [ej]; exact Hpk.out
            · exact hp.out j (by omega), H1.out⟩
          case measure => simp [intOf] <;> omega
        · have Hpk := hide (Bool.eq_false_iff.2 hpk)
          clear hpk
          go_wp2_with fail
          refine (hcon.out).mono ?_
          rintro e w2 ⟨he, h1, h2⟩
          rw [Hpk.out] at he
          subst he
          have H2 := hide (h2 Hpk.out)
          clear h1 h2
          go_wp2
          go_ret
          exact ⟨ret_b (allN_false hlt Hpk.out).symm, (fun h => by rw [allN_false hlt Hpk.out] at h; cases h), fun _ => H2.out⟩
    · obtain rfl : k = n := by omega
      have hat : allN k p = true := allN_true.2 hp.out
      have Hat := hide hat
      clear hat
      go_wp2
      go_ret
      exact ⟨ret_b Hat.out.symm, fun _ => hI.out, fun h => by rw [Hat.out] at h; cases h⟩
end Go.Proofs.YtleniljhacnikaaGreat
