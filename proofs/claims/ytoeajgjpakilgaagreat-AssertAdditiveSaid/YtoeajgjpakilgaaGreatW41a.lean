/-
  Maps keyed by a byte that the call makes: a new entry, a look-up, at the operation. No program is named here.
  The layer assert: assertions, the value of a ballot.
  The layer assert: the values of a ballot, by kind.
  The layer assert: the functions of values; Value.
  The layer assert: Value.
-/
import Derived.Test.YtoeajgjpakilgaaGreatMem
import Derived.Test.YtoeajgjpakilgaaGreatSpecAs
import Derived.Test.YtoeajgjpakilgaaGreatW11d
import Derived.Test.YtoeajgjpakilgaaGreatW9u
import Derived.Test.YtoeajgjpakilgaaGreatFlow2
import Derived.Test.YtoeajgjpakilgaaGreatW11g
import Derived.Test.YtoeajgjpakilgaaGreatW9e
import Derived.Maps.OwnOps
namespace Go.Proofs.YtoeajgjpakilgaaGreat
open Go Go.RowKit

theorem insU8 {P : Program} {w w0 : World} {ops : Array Oper} {rest : List Oper} {o : Oper} {a : Act} {Q : Exit → Act → World → Prop}
    (hg : o.guard = none) (m x v : Operand) (t : TypeId) (hop : o.op = Op.insert t m x v) (k e : TypeId) (ht : P.underlying t = some (.map k e)) (hk : P.underlying k = some (.int .u8))
    (b clock : Nat) (es : Array MapEntry) (K : Int) (val : Value) (hm : a.eval m = .map (some b)) (hx : a.eval x = .int .u8 K) (hv : a.eval v = val) (hb : w.heap[b]? = some (.map es clock))
    (hf : Instr.findNow (.int .u8) (.int .u8 K) es.toList 0 = some none) (B : Nat) (hB : Below B w0 w) (hBb : B ≤ b)
    (hK : ∀ w', w'.heap[b]? = some (.map (es.push { key := .int .u8 K, val := val, born := clock }) (clock + 1)) → Below B w0 w' → wpList P ops Q rest (a.put o.dst undef) w') :
    wpList P ops Q (o :: rest) a w := by
  refine wpList_plain hg fun K' hK' => ?_
  have hc : (Instr.checkKey false 10000 k (.int .u8 K)).run P w = .ok () w := MapKept.run_checkKey (k := .int .u8 K) hk (by simp [MapKept.IsKey]) false 9999
  have hrun : (Instr.mapUpdate t (.map (some b)) (.int .u8 K) val).run P w = .ok () { w with heap := w.heap.setIfInBounds b (.map (es.push { key := .int .u8 K, val := val, born := clock }) (clock + 1)) } := by
    simp [Instr.mapUpdate, run_underlying ht, MapKept.run_getObj_map hb, hc, MapKept.run_findKey hk hf, MapKept.run_setObj_map _ hb, Result.andThen]
  unfold Oper.wp
  simp [execOp, hop, hm, hx, hv, hrun, Result.andThen]
  have hlt : b < w.heap.size := (Array.getElem?_eq_some_iff.1 hb).1
  refine hK' _ _ (hK _ ?_ (hB.trans ⟨rfl, rfl, rfl, by simp, fun j hj => ?_⟩))
  · simp [hlt]
  · simp [show b ≠ j by omega]

theorem lookU8 {P : Program} {w : World} {ops : Array Oper} {rest : List Oper} {o : Oper} {a : Act} {Q : Exit → Act → World → Prop}
    (hg : o.guard = none) (m x : Operand) (t : TypeId) (hop : o.op = Op.lookup t m x false) (k e : TypeId) (ht : P.underlying t = some (.map k e)) (hk : P.underlying k = some (.int .u8))
    (b clock : Nat) (es : Array MapEntry) (K : Int) (i : Nat) (val : Value) (hm : a.eval m = .map (some b)) (hx : a.eval x = .int .u8 K) (hb : w.heap[b]? = some (.map es clock))
    (hf : Instr.findNow (.int .u8) (.int .u8 K) es.toList 0 = some (some (i, val))) (hK : wpList P ops Q rest (a.put o.dst val) w) : wpList P ops Q (o :: rest) a w := by
  refine wpList_plain hg fun K' hK' => ?_
  have hc : (Instr.checkKey es.isEmpty 10000 k (.int .u8 K)).run P w = .ok () w := MapKept.run_checkKey (k := .int .u8 K) hk (by simp [MapKept.IsKey]) _ 9999
  have hrun : (Instr.lookup t (.map (some b)) (.int .u8 K) false).run P w = .ok val w := by
    simp [Instr.lookup, run_underlying ht, MapKept.run_getObj_map hb, hc, MapKept.run_findKey hk hf]
  unfold Oper.wp
  simp [execOp, hop, hm, hx, hrun, Result.andThen]
  exact hK' _ _ hK

theorem lookU8ok {P : Program} {w : World} {ops : Array Oper} {rest : List Oper} {o : Oper} {a : Act} {Q : Exit → Act → World → Prop}
    (hg : o.guard = none) (m x : Operand) (t : TypeId) (hop : o.op = Op.lookup t m x true) (k e : TypeId) (ht : P.underlying t = some (.map k e)) (hk : P.underlying k = some (.int .u8))
    (b clock : Nat) (es : Array MapEntry) (K : Int) (i : Nat) (val : Value) (hm : a.eval m = .map (some b)) (hx : a.eval x = .int .u8 K) (hb : w.heap[b]? = some (.map es clock))
    (hf : Instr.findNow (.int .u8) (.int .u8 K) es.toList 0 = some (some (i, val))) (hK : wpList P ops Q rest (a.put o.dst (.tuple #[val, .bool true])) w) : wpList P ops Q (o :: rest) a w := by
  refine wpList_plain hg fun K' hK' => ?_
  have hc : (Instr.checkKey es.isEmpty 10000 k (.int .u8 K)).run P w = .ok () w := MapKept.run_checkKey (k := .int .u8 K) hk (by simp [MapKept.IsKey]) _ 9999
  have hrun : (Instr.lookup t (.map (some b)) (.int .u8 K) true).run P w = .ok (.tuple #[val, .bool true]) w := by
    simp [Instr.lookup, run_underlying ht, MapKept.run_getObj_map hb, hc, MapKept.run_findKey hk hf]
  unfold Oper.wp
  simp [execOp, hop, hm, hx, hrun, Result.andThen]
  exact hK' _ _ hK
theorem lookU8no {P : Program} {w : World} {ops : Array Oper} {rest : List Oper} {o : Oper} {a : Act} {Q : Exit → Act → World → Prop}
    (hg : o.guard = none) (m x : Operand) (t : TypeId) (hop : o.op = Op.lookup t m x true) (k e : TypeId) (ht : P.underlying t = some (.map k e)) (hk : P.underlying k = some (.int .u8)) {z : Value} (hz : (zeroValue e).run P w = .ok z w)
    (b clock : Nat) (es : Array MapEntry) (K : Int) (hm : a.eval m = .map (some b)) (hx : a.eval x = .int .u8 K) (hb : w.heap[b]? = some (.map es clock))
    (hf : Instr.findNow (.int .u8) (.int .u8 K) es.toList 0 = some none) (hK : wpList P ops Q rest (a.put o.dst (.tuple #[z, .bool false])) w) : wpList P ops Q (o :: rest) a w := by
  refine wpList_plain hg fun K' hK' => ?_
  have hc : (Instr.checkKey es.isEmpty 10000 k (.int .u8 K)).run P w = .ok () w := MapKept.run_checkKey (k := .int .u8 K) hk (by simp [MapKept.IsKey]) _ 9999
  have hrun : (Instr.lookup t (.map (some b)) (.int .u8 K) true).run P w = .ok (.tuple #[z, .bool false]) w := by
    simp [Instr.lookup, run_underlying ht, MapKept.run_getObj_map hb, hc, MapKept.run_findKey hk hf, hz]
  unfold Oper.wp
  simp [execOp, hop, hm, hx, hrun, Result.andThen]
  exact hK' _ _ hK
end Go.Proofs.YtoeajgjpakilgaaGreat

namespace Go.Proofs.YtoeajgjpakilgaaGreat
open Go.RowKit Go.Proofs Go.Shelf
attribute [local go_sem] cell?_more cell?_alloc_some cell?_setCell_far frozen?_alloc_some frozen?_more
theorem is_any (n c : Int) (w : World) : Calls Tryz.prog 62 #[.int .i64 n, .int .i64 c] w fun e w' => e = .returned (.bool (inR 0 c n)) ∧ w = w' := by
  by_cases h0 : 0 ≤ n
  · have b0 : decide (0 ≤ n) = true := by simpa using h0
    have hr : Hid (inR 0 c n = decide (n < c)) := by unfold Hid inR; rw [b0]; rfl
    go_enter Tryz.func62, Tryz.ntmps62
    go_wp2
    go_ret
    exact ⟨ret_b hr.out.symm, rfl⟩
  · have b0 : decide (0 ≤ n) = false := by simpa using h0
    have hr : Hid (inR 0 c n = false) := by unfold Hid inR; rw [b0]; rfl
    go_enter Tryz.func62, Tryz.ntmps62
    go_wp2
    go_ret
    exact ⟨ret_b hr.out.symm, rfl⟩

theorem riseAt_zero {c : Int} {l : List Int} {v : Int} (h : l[0]? = some v) : riseAt c l 0 = inR 0 c v := by unfold riseAt; simp [List.getD, h]
theorem riseAt_succ {c : Int} {l : List Int} {k : Nat} {u v : Int} (hu : l[k]? = some u) (hv : l[k + 1]? = some v) : riseAt c l (k + 1) = (inR 0 c v && decide (u < v)) := by unfold riseAt; simp [List.getD, hu, hv]

set_option maxRecDepth 100000 in
theorem rising_any (A : Option Addr) (n c : Nat) (xs : List Int) (cands : Int) (w : World) (h : RInts w A n c xs) :
    Calls Tryz.prog 30 #[.slice A n c, .int .i64 cands] w fun e w' => e = .returned (.bool (riseB cands xs)) ∧ w = w' := by
  have hn := h.le
  have hl := hide h.len
  go_enter Tryz.func30, Tryz.ntmps30
  go_wp2
  go_loopw [9] (fun i wr => ∃ k : Nat, k ≤ n ∧ i = .int .i64 k ∧ Hid (allN k (riseAt cands xs) = true) ∧ w = wr) (fun i _ => n - (intOf i).toNat)
  case atStart => exact ⟨0, Nat.zero_le _, rfl, allN_zero _, rfl⟩
  case round =>
    obtain ⟨k, hk, rfl, hp, rfl⟩ := hrel
    by_cases hlt : k < n
    · obtain ⟨b, off, v, rfl, hc, _, hat, _⟩ := h.step hlt
      have hbad : Hid (riseAt cands xs k = false → riseB cands xs = false) := fun hf => allN_false (by rw [hl.out]; exact hlt) hf
      have hgood : Hid (riseAt cands xs k = true → allN (k + 1) (riseAt cands xs) = true) := fun ht => allN_succ hp.out ht
      cases hin : inR 0 cands v with
      | false =>
        have hf : Hid (riseB cands xs = false) := hbad.out (by unfold riseAt; simp [List.getD, hat.out, hin])
        have Hin := hide hin
        clear hin
        go_wp2_with (go_at_call 62; refine (is_any _ _ _).mono ?_; rintro e w' ⟨rfl, rfl⟩; rw [Hin.out])
        go_ret
        exact ⟨ret_b hf.out.symm, rfl⟩
      | true =>
        have Hin := hide hin
        clear hin
        rcases Nat.eq_zero_or_pos k with h0 | h0
        · have ht := hide (hgood.out (by subst h0; rw [riseAt_zero hat.out]; exact Hin.out))
          have b0 : ¬ (0 : Int) < (k : Int) := by omega
          clear h0
          go_wp2_with (go_at_call 62; refine (is_any _ _ _).mono ?_; rintro e w' ⟨rfl, rfl⟩; rw [Hin.out])
          go_roundw
          case rel => exact ⟨k + 1, by omega, by go_num, ht, by trivial⟩
          case measure => simp [intOf] <;> omega
        · obtain ⟨j, rfl⟩ : ∃ j, k = j + 1 := ⟨k - 1, by omega⟩
          obtain ⟨b', off', u, e1, hc1, _, hat1, _⟩ := h.step (k := j) (by omega)
          cases e1
          have b1 : ((j + 1 : Nat) : Int) - 1 = (j : Int) := by omega
          have b0 : (0 : Int) < ((j + 1 : Nat) : Int) := by omega
          by_cases huv : u < v
          · have d1 : decide (v ≤ u) = false := by simpa using huv
            have ht := hide (hgood.out (by rw [riseAt_succ hat1.out hat.out, Hin.out]; simpa using huv))
            clear huv
            go_wp2_with (go_at_call 62; refine (is_any _ _ _).mono ?_; rintro e w' ⟨rfl, rfl⟩; rw [Hin.out])
            go_roundw
            case rel => exact ⟨j + 2, by omega, by go_num, ht, by trivial⟩
            case measure => simp [intOf] <;> omega
          · have d1 : decide (v ≤ u) = true := by simp; omega
            have hf : Hid (riseB cands xs = false) := hbad.out (by rw [riseAt_succ hat1.out hat.out, Hin.out]; simpa using huv)
            clear huv
            go_wp2_with (go_at_call 62; refine (is_any _ _ _).mono ?_; rintro e w' ⟨rfl, rfl⟩; rw [Hin.out])
            go_ret
            exact ⟨ret_b hf.out.symm, rfl⟩
    · have hkn : k = n := by omega
      have hv : Hid (riseB cands xs = true) := by unfold Hid riseB; rw [hl.out, ← hkn]; exact hp.out
      go_wp2
      go_ret
      exact ⟨ret_b hv.out.symm, rfl⟩

theorem is_val {E : Bool} (n c : Int) (w : World) (hE : inR 0 c n = E) : Calls Tryz.prog 62 #[.int .i64 n, .int .i64 c] w fun e w' => e = .returned (.bool E) ∧ w = w' := hE ▸ is_any n c w
theorem rising_val {E : Bool} (A : Option Addr) (n c : Nat) (xs : List Int) (cands : Int) (w : World) (h : RInts w A n c xs) (hE : riseB cands xs = E) : Calls Tryz.prog 30 #[.slice A n c, .int .i64 cands] w fun e w' => e = .returned (.bool E) ∧ w = w' := hE ▸ rising_any A n c xs cands w h
theorem contains_val {E : Bool} (A : Option Addr) (n c : Nat) (xs : List Int) (x : Int) (w : World) (h : RInts w A n c xs) (hE : inL xs x = E) : Calls Tryz.prog 44 #[.slice A n c, .int .i64 x] w fun e w' => e = .returned (.bool E) ∧ w = w' := hE ▸ contains_any A n c xs x w h

set_option maxRecDepth 100000 in
set_option maxHeartbeats 4000000 in
theorem fine41_any (k x y : Int) (A : Option Addr) (n cp : Nat) (L : List Int) (c : Int) (w : World) (h : RInts w A n cp L) :
    Calls Tryz.prog 34 #[.agg #[.int .u8 k, .int .i64 x, .int .i64 y, .slice A n cp], .int .i64 c] w fun e w' => e = .returned (.bool (fineA k x y L c)) ∧ Below w.heap.size w w' := by
  have hl := hide h.len
  have hb : Below w.heap.size w (w.alloc (.cells #[.int .u8 k, .int .i64 x, .int .i64 y, .slice A n cp] 24)) := below_allocN
  have hP := Has.new w 24 #[.int .u8 k, .int .i64 x, .int .i64 y, .slice A n cp]
  go_enter Tryz.func34, Tryz.ntmps34
  go_upto_region 1 with fail
  generalize World.alloc w _ = W0 at hb hP ⊢
  have p0 := hP.cell 0
  have p1 := hP.cell 1
  have p2 := hP.cell 2
  have p3 := hP.cell 3
  have hL := h.below hb
  cases hx : inR 0 c x with
  | false =>
    have hv : Hid (fineA k x y L c = false) := by unfold Hid fineA; rw [hx]; rfl
    have Hx := hide hx
    clear hx
    go_wp2_with (go_at_call 62; with_reducible refine (is_val _ _ _ Hx.out).mono ?_; rintro e w' ⟨rfl, rfl⟩)
    go_ret
    exact ⟨ret_b hv.out.symm, hb⟩
  | true =>
    have Hx := hide hx
    clear hx
    cases hy : inR 0 c y with
    | false =>
      have hv : Hid (fineA k x y L c = false) := by unfold Hid fineA; rw [Hx.out, hy]; rfl
      have Hy := hide hy
      clear hy
      go_wp2_with (go_at_call 62; first | (with_reducible refine (is_val _ _ _ Hx.out).mono ?_; rintro e w' ⟨rfl, rfl⟩) | (with_reducible refine (is_val _ _ _ Hy.out).mono ?_; rintro e w' ⟨rfl, rfl⟩))
      go_ret
      exact ⟨ret_b hv.out.symm, hb⟩
    | true =>
      have Hy := hide hy
      clear hy
      cases hr : riseB c L with
      | false =>
        have hv : Hid (fineA k x y L c = false) := by unfold Hid fineA; rw [Hx.out, Hy.out, hr]; rfl
        have Hr := hide hr
        clear hr
        go_wp2_with (first | (go_at_call 62; first | (with_reducible refine (is_val _ _ _ Hx.out).mono ?_; rintro e w' ⟨rfl, rfl⟩) | (with_reducible refine (is_val _ _ _ Hy.out).mono ?_; rintro e w' ⟨rfl, rfl⟩)) | (go_at_call 30; refine (rising_val _ _ _ _ _ _ hL Hr.out).mono ?_; rintro e w' ⟨rfl, rfl⟩))
        go_ret
        exact ⟨ret_b hv.out.symm, hb⟩
      | true =>
        have hv : Hid (fineA k x y L c = tailA k x y L) := by unfold Hid fineA; rw [Hx.out, Hy.out, hr]; rfl
        have Hr := hide hr
        clear hr
        go_upto_region 3 with (first | (go_at_call 62; first | (with_reducible refine (is_val _ _ _ Hx.out).mono ?_; rintro e w' ⟨rfl, rfl⟩) | (with_reducible refine (is_val _ _ _ Hy.out).mono ?_; rintro e w' ⟨rfl, rfl⟩)) | (go_at_call 30; refine (rising_val _ _ _ _ _ _ hL Hr.out).mono ?_; rintro e w' ⟨rfl, rfl⟩))
        by_cases h123 : k = 1 ∨ k = 2 ∨ k = 3
        · have ht : Hid (tailA k x y L = (decide (x ≠ y) && decide (L.length = 0))) := by unfold Hid tailA; rw [if_pos h123]
          by_cases hxy : x = y
          · have b1 : (x != y) = false := by simp [hxy]
            have ht' : Hid (tailA k x y L = false) := by unfold Hid; rw [ht.out]; simp [hxy]
            clear hxy
            rcases h123 with rfl | rfl | rfl
            · go_wp2
              go_ret
              exact ⟨ret_b (by rw [hv.out, ht'.out]), hb⟩
            · go_wp2
              go_ret
              exact ⟨ret_b (by rw [hv.out, ht'.out]), hb⟩
            · go_wp2
              go_ret
              exact ⟨ret_b (by rw [hv.out, ht'.out]), hb⟩
          · have b1 : (x != y) = true := by simp [hxy]
            have ht' : Hid (tailA k x y L = ((n : Int) == 0)) := by unfold Hid; rw [ht.out, hl.out, decide_eq_true hxy, Bool.true_and, Bool.eq_iff_iff]; simp
            clear hxy
            rcases h123 with rfl | rfl | rfl
            · go_wp2
              go_ret
              exact ⟨ret_b (by rw [hv.out, ht'.out]), hb⟩
            · go_wp2
              go_ret
              exact ⟨ret_b (by rw [hv.out, ht'.out]), hb⟩
            · go_wp2
              go_ret
              exact ⟨ret_b (by rw [hv.out, ht'.out]), hb⟩
        · by_cases h4 : k = 4
          · subst h4
            have ht : Hid (tailA 4 x y L = (decide (x ≠ y) && inL L x && inL L y)) := rfl
            clear h123
            by_cases hxy : x = y
            · have b1 : (x != y) = false := by simp [hxy]
              have ht' : Hid (tailA 4 x y L = false) := by unfold Hid; rw [ht.out]; simp [hxy]
              clear hxy
              go_wp2
              go_ret
              exact ⟨ret_b (by rw [hv.out, ht'.out]), hb⟩
            · have b1 : (x != y) = true := by simp [hxy]
              cases h1 : inL L x with
              | false =>
                have ht' : Hid (tailA 4 x y L = false) := by unfold Hid; rw [ht.out, h1]; simp
                have H1 := hide h1
                clear hxy h1
                go_wp2_with (go_at_call 44; with_reducible refine (contains_val _ _ _ _ _ _ hL H1.out).mono ?_; rintro e w' ⟨rfl, rfl⟩)
                go_ret
                exact ⟨ret_b (by rw [hv.out, ht'.out]), hb⟩
              | true =>
                have ht' : Hid (tailA 4 x y L = inL L y) := by unfold Hid; rw [ht.out, h1]; simp [hxy]
                have H1 := hide h1
                have H2 : Hid (inL L y = inL L y) := rfl
                clear hxy h1
                go_wp2_with (go_at_call 44; first | (with_reducible refine (contains_val _ _ _ _ _ _ hL H1.out).mono ?_; rintro e w' ⟨rfl, rfl⟩) | (refine (contains_any _ _ _ _ _ _ hL).mono ?_; rintro e w' ⟨rfl, rfl⟩))
                go_ret
                exact ⟨ret_b (by rw [hv.out, ht'.out]), hb⟩
          · by_cases h5 : k = 5
            · subst h5
              have ht : Hid (tailA 5 x y L = (decide (y = 0) && inL L x && decide (1 < L.length))) := rfl
              clear h123 h4
              by_cases hy0 : y = 0
              · have b1 : (y == 0) = true := by simp [hy0]
                have D1 := hide hy0
                clear hy0
                cases h1 : inL L x with
                | false =>
                  have ht' : Hid (tailA 5 x y L = false) := by unfold Hid; rw [ht.out, h1]; simp
                  have H1 := hide h1
                  clear h1
                  go_wp2_with (go_at_call 44; with_reducible refine (contains_val _ _ _ _ _ _ hL H1.out).mono ?_; rintro e w' ⟨rfl, rfl⟩)
                  go_ret
                  exact ⟨ret_b (by rw [hv.out, ht'.out]), hb⟩
                | true =>
                  have ht' : Hid (tailA 5 x y L = decide (1 < (n : Int))) := by unfold Hid; rw [ht.out, h1, hl.out, decide_eq_true D1.out, Bool.true_and, Bool.true_and, decide_eq_decide]; omega
                  have H1 := hide h1
                  clear h1
                  go_wp2_with (go_at_call 44; with_reducible refine (contains_val _ _ _ _ _ _ hL H1.out).mono ?_; rintro e w' ⟨rfl, rfl⟩)
                  go_ret
                  exact ⟨ret_b (by rw [hv.out, ht'.out]), hb⟩
              · have b1 : (y == 0) = false := by simp [hy0]
                have ht' : Hid (tailA 5 x y L = false) := by unfold Hid; rw [ht.out]; simp [hy0]
                clear hy0
                go_wp2
                go_ret
                exact ⟨ret_b (by rw [hv.out, ht'.out]), hb⟩
            · have ht' : Hid (tailA k x y L = false) := by unfold Hid tailA; rw [if_neg h123, if_neg h4, if_neg h5]
              have e1 : (k == 1) = false := by simp; omega
              have e2 : (k == 2) = false := by simp; omega
              have e3 : (k == 3) = false := by simp; omega
              have e4 : (k == 4) = false := by simp; omega
              have e5 : (k == 5) = false := by simp; omega
              clear h123 h4 h5
              go_wp2
              go_ret
              exact ⟨ret_b (by rw [hv.out, ht'.out]), hb⟩

theorem check41_any (k x y : Int) (A : Option Addr) (n cp : Nat) (L : List Int) (c : Int) (w : World) (h : RInts w A n cp L) :
    Calls Tryz.prog 17 #[.agg #[.int .u8 k, .int .i64 x, .int .i64 y, .slice A n cp], .int .i64 c] w fun e w' => e = .returned (.int .i64 (checkA k x y L c)) ∧ Below w.heap.size w w' := by
  have hb : Below w.heap.size w (w.alloc (.cells #[.int .u8 k, .int .i64 x, .int .i64 y, .slice A n cp] 24)) := below_allocN
  have hP := Has.new w 24 #[.int .u8 k, .int .i64 x, .int .i64 y, .slice A n cp]
  go_enter Tryz.func17, Tryz.ntmps17
  go_upto_region 1 with fail
  generalize World.alloc w _ = W0 at hb hP ⊢
  have p0 := hP.cell 0
  have p1 := hP.cell 1
  have p2 := hP.cell 2
  have p3 := hP.cell 3
  have hL := h.below hb
  by_cases hc : c < 1 ∨ 10 < c
  · have hv : Hid (checkA k x y L c = 2) := by unfold Hid checkA; rw [if_pos hc]
    rcases hc with hc | hc
    · go_wp2
      go_ret
      exact ⟨ret_i hv.out.symm, hb⟩
    · have h1 : ¬ c < 1 := by omega
      go_wp2
      go_ret
      exact ⟨ret_i hv.out.symm, hb⟩
  · have h1 : ¬ c < 1 := by omega
    have h2 : ¬ 10 < c := by omega
    have hv : Hid (checkA k x y L c = if fineA k x y L c = true then 0 else 8) := by unfold Hid checkA; rw [if_neg hc]
    clear hc
    have hf := fine41_any k x y A n cp L c W0 hL
    cases hf0 : fineA k x y L c with
    | true =>
      rw [hf0] at hf hv
      go_wp2_with fail
      refine hf.mono ?_
      rintro e w' ⟨rfl, hb'⟩
      go_wp2
      go_ret
      exact ⟨ret_i hv.out.symm, Below_trans' hb hb.size hb'⟩
    | false =>
      rw [hf0] at hf hv
      go_wp2_with fail
      refine hf.mono ?_
      rintro e w' ⟨rfl, hb'⟩
      go_wp2
      go_ret
      exact ⟨ret_i hv.out.symm, Below_trans' hb hb.size hb'⟩
end Go.Proofs.YtoeajgjpakilgaaGreat

namespace Go.Proofs.YtoeajgjpakilgaaGreat
open Go.RowKit Go.Proofs Go.Shelf
attribute [local go_sem] cell?_more cell?_alloc_some cell?_setCell_far frozen?_alloc_some frozen?_more
theorem side_any (a b : Bool) (w : World) : Calls Tryz.prog 42 #[.bool a, .bool b] w fun e w' => e = .returned (.int .i64 (sideS a b)) ∧ w = w' := by
  cases a
  · cases b
    · go_enter Tryz.func42, Tryz.ntmps42
      go_wp2
      go_ret
      exact ⟨rfl, rfl⟩
    · go_enter Tryz.func42, Tryz.ntmps42
      go_wp2
      go_ret
      exact ⟨rfl, rfl⟩
  · cases b
    · go_enter Tryz.func42, Tryz.ntmps42
      go_wp2
      go_ret
      exact ⟨rfl, rfl⟩
    · go_enter Tryz.func42, Tryz.ntmps42
      go_wp2
      go_ret
      exact ⟨rfl, rfl⟩
theorem kind_any (k x y : Int) (A : Option Addr) (n cp : Nat) (w : World) :
    Calls Tryz.prog 20 #[.agg #[.int .u8 k, .int .i64 x, .int .i64 y, .slice A n cp]] w fun e w' => e = .returned (.int .u8 (kindA k)) ∧ Below w.heap.size w w' := by
  have hb : Below w.heap.size w (w.alloc (.cells #[.int .u8 k, .int .i64 x, .int .i64 y, .slice A n cp] 24)) := below_allocN
  have hP := Has.new w 24 #[.int .u8 k, .int .i64 x, .int .i64 y, .slice A n cp]
  go_enter Tryz.func20, Tryz.ntmps20
  go_upto_region 1 with fail
  generalize World.alloc w _ = W0 at hb hP ⊢
  have p0 := hP.cell 0
  by_cases h : k = 1 ∨ k = 2
  · have hv : Hid (kindA k = 2) := by unfold Hid kindA; rw [if_pos h]
    rcases h with rfl | rfl
    · go_wp2
      go_ret
      exact ⟨ret_i hv.out.symm, hb⟩
    · go_wp2
      go_ret
      exact ⟨ret_i hv.out.symm, hb⟩
  · have hv : Hid (kindA k = 1) := by unfold Hid kindA; rw [if_neg h]
    have e1 : (k == 1) = false := by simp; omega
    have e2 : (k == 2) = false := by simp; omega
    clear h
    go_wp2
    go_ret
    exact ⟨ret_i hv.out.symm, hb⟩

theorem firstL_cons_t {v : Int} {r L : List Int} (h : inL L v = true) : firstL (v :: r) L = some v := by unfold firstL; rw [List.find?_cons, h]
theorem firstL_cons_f {v : Int} {r L : List Int} (h : inL L v = false) : firstL (v :: r) L = firstL r L := by unfold firstL; rw [List.find?_cons, h]
theorem ret_fst {a : Int} {b : Bool} {f : Option Int} (h : f = if b = true then some a else none) (h0 : b = false → a = 0) : Ending.returned (.tuple #[.int .i64 a, .bool b]) = .returned (.tuple #[.int .i64 (f.getD 0), .bool f.isSome]) := by
  cases b with
  | false => rw [h, h0 rfl]; rfl
  | true => rw [h]; rfl

set_option maxRecDepth 100000 in
theorem first_any (A : Option Addr) (n c : Nat) (ms : List Int) (A' : Option Addr) (n' c' : Nat) (L : List Int) (w : World) (h : RInts w A n c ms) (h' : RInts w A' n' c' L) :
    Calls Tryz.prog 48 #[.slice A n c, .slice A' n' c'] w fun e w' => e = .returned (.tuple #[.int .i64 ((firstL ms L).getD 0), .bool (firstL ms L).isSome]) ∧ w = w' := by
  have hn := h.le
  go_enter Tryz.func48, Tryz.ntmps48
  go_wp2
  go_loopw [10] (fun i wr => ∃ k : Nat, k ≤ n ∧ i = .int .i64 k ∧ Hid (firstL ms L = firstL (ms.drop k) L) ∧ w = wr) (fun i _ => n - (intOf i).toNat)
  case atStart => exact ⟨0, Nat.zero_le _, rfl, rfl, rfl⟩
  case round =>
    obtain ⟨k, hk, rfl, hp, rfl⟩ := hrel
    by_cases hlt : k < n
    · obtain ⟨b, off, v, rfl, hc, hd, hat, _⟩ := h.step hlt
      cases hin : inL L v with
      | true =>
        have hv : Hid (firstL ms L = if true = true then some v else none) := by unfold Hid; rw [hp.out, hd.out, firstL_cons_t hin]; rfl
        have Hin := hide hin
        clear hin
        go_wp2_with (go_at_call 44; with_reducible refine (contains_val _ _ _ _ _ _ h' Hin.out).mono ?_; rintro e w' ⟨rfl, rfl⟩)
        go_ret2
        exact ⟨ret_fst hv.out (fun h => by cases h), by trivial⟩
      | false =>
        have hv : Hid (firstL ms L = firstL (ms.drop (k + 1)) L) := by unfold Hid; rw [hp.out, hd.out, firstL_cons_f hin]
        have Hin := hide hin
        clear hin
        go_wp2_with (go_at_call 44; with_reducible refine (contains_val _ _ _ _ _ _ h' Hin.out).mono ?_; rintro e w' ⟨rfl, rfl⟩)
        go_roundw
        case rel => exact ⟨k + 1, by omega, by go_num, hv, by trivial⟩
        case measure => simp [intOf] <;> omega
    · have hv : Hid (firstL ms L = if false = true then some 0 else none) := by unfold Hid; rw [hp.out, h.done hlt]; rfl
      go_wp2
      go_ret2
      exact ⟨ret_fst hv.out (fun _ => rfl), rfl⟩

theorem idxFrom_place (xs : List Int) (x : Int) : ∀ k : Nat, Lib.idxFrom xs x k = placeS xs x k := by
  induction xs with
  | nil => intro k; rfl
  | cons y r ih =>
    intro k
    unfold Lib.idxFrom placeS
    split
    · rfl
    · have := ih (k + 1); simpa using this
theorem idxOf_place (xs : List Int) (x : Int) : Lib.idxOf xs x = placeS xs x 0 := by unfold Lib.idxOf; simpa using idxFrom_place xs x 0
theorem index_place (A : Option Addr) (n c : Nat) (xs : List Int) (x : Int) (w : World) (h : RInts w A n c xs) :
    Calls Tryz.prog 66 #[.slice A n c, .int .i64 x] w fun e w' => e = .returned (.int .i64 (placeS xs x 0)) ∧ w = w' := idxOf_place xs x ▸ indexL_any A n c xs x w h

set_option maxRecDepth 100000 in
set_option maxHeartbeats 2000000 in
/-- Prefers, of a ranking. -/
theorem prefers1_any (A : Option Addr) (n c : Nat) (ms : List Int) (x y : Int) (w : World) (h : RInts w A n c ms) :
    Calls Tryz.prog 46 #[.agg #[.int .u8 1, .slice A n c], .int .i64 x, .int .i64 y] w fun e w' => e = .returned (.bool (prefersS 1 ms x y)) ∧ Below w.heap.size w w' := by
  have hb : Below w.heap.size w (w.alloc (.cells #[.int .u8 1, .slice A n c] 29)) := below_allocN
  have hP := Has.new w 29 #[.int .u8 1, .slice A n c]
  go_enter Tryz.func46, Tryz.ntmps46
  go_upto_region 1 with fail
  generalize World.alloc w _ = W0 at hb hP ⊢
  have p0 := hP.cell 0
  have p1 := hP.cell 1
  have hL := h.below hb
  by_cases hx : x < 0
  · have hv : Hid (prefersS 1 ms x y = false) := by unfold Hid prefersS; rw [if_pos (.inl hx)]
    go_wp2
    go_ret
    exact ⟨ret_b hv.out.symm, hb⟩
  · by_cases hy : y < 0
    · have hv : Hid (prefersS 1 ms x y = false) := by unfold Hid prefersS; rw [if_pos (.inr hy)]
      go_wp2
      go_ret
      exact ⟨ret_b hv.out.symm, hb⟩
    · have hv : Hid (prefersS 1 ms x y = (decide (0 ≤ placeS ms x 0) && (decide (placeS ms y 0 < 0) || decide (placeS ms x 0 < placeS ms y 0)))) := by
        unfold Hid; conv => lhs; unfold prefersS
        rw [if_neg (by omega), if_pos rfl]
      have hI : ∀ q, Calls Tryz.prog 66 #[.slice A n c, .int .i64 x] (More W0 q) fun e w' => e = .returned (.int .i64 (placeS ms x 0)) ∧ More W0 q = w' := fun q => index_place A n c ms x _ (hL.more q)
      have hJ : ∀ q, Calls Tryz.prog 66 #[.slice A n c, .int .i64 y] (More W0 q) fun e w' => e = .returned (.int .i64 (placeS ms y 0)) ∧ More W0 q = w' := fun q => index_place A n c ms y _ (hL.more q)
      go_upto_region 3 with fail
      refine wp_region_more (by kernel_rfl) (by kernel_rfl) ?_
      repeat (go_big_quiet_step ((go_at_call 66; first | with_reducible exact more_same (hI _) | with_reducible exact more_same (hJ _))))
      refine wpQuiet_nil ?_
      rintro w2 ⟨qw2, hww2⟩
      have hbw2 := below_of_eq hww2
      clear hww2 qw2
      have hbb := Below_trans' hb hb.size hbw2
      have p0' := keep_cell hbw2 p0
      clear hI hJ p0 p1
      generalize placeS ms x 0 = i at *
      generalize placeS ms y 0 = j at *
      by_cases hi : 0 ≤ i
      · by_cases hj : j < 0
        · have hv' : Hid (prefersS 1 ms x y = true) := by unfold Hid; rw [hv.out]; simp [hi, hj]
          go_wp2
          go_ret
          exact ⟨ret_b hv'.out.symm, hbb⟩
        · have hv' : Hid (prefersS 1 ms x y = decide (i < j)) := by unfold Hid; rw [hv.out]; simp [hi, hj]
          go_wp2
          go_ret
          exact ⟨ret_b hv'.out.symm, hbb⟩
      · have hv' : Hid (prefersS 1 ms x y = false) := by unfold Hid; rw [hv.out]; simp [hi]
        go_wp2
        go_ret
        exact ⟨ret_b hv'.out.symm, hbb⟩
end Go.Proofs.YtoeajgjpakilgaaGreat

namespace Go.Proofs.YtoeajgjpakilgaaGreat
open Go.RowKit Go.Proofs Go.Shelf
attribute [local go_sem] cell?_more cell?_alloc_some cell?_setCell_far frozen?_alloc_some frozen?_more
/-- The variable of an assertion. -/
def AsnAt (w : World) (g : Nat) (k x y : Int) (A : Option Addr) (n cp : Nat) : Prop := Has w g 24 #[.int .u8 k, .int .i64 x, .int .i64 y, .slice A n cp]
theorem only_of {ms : List Int} {v : Int} (h : ms[0]? = some v) (hl : ms.length = 1) (x : Int) : onlyB ms x = (v == x) := by
  unfold onlyB
  rw [hl]; simp [List.getD, h]
  rw [Bool.eq_iff_iff]; simp
theorem only_no {ms : List Int} (hl : ms.length ≠ 1) (x : Int) : onlyB ms x = false := by unfold onlyB; simp [hl]
theorem worth1 (x y : Int) (L ms : List Int) : worthA 1 x y L ms = sideS (onlyB ms x) (onlyB ms y) := rfl
theorem worth2 (x y : Int) (L ms : List Int) : worthA 2 x y L ms = sideS (inL ms x) (inL ms y) := rfl
theorem worth3 (x y : Int) (L ms : List Int) : worthA 3 x y L ms = sideS (prefersS 1 ms x y) (prefersS 1 ms y x) := rfl
theorem worth4 (x y : Int) (L ms : List Int) : worthA 4 x y L ms = sideS (decide (firstL ms L = some x)) (decide (firstL ms L = some y)) := rfl
theorem worth5 (x y : Int) (L ms : List Int) : worthA 5 x y L ms = sideS (decide (firstL ms L = some x)) ((firstL ms L).isSome && decide (firstL ms L ≠ some x)) := rfl

set_option maxRecDepth 100000 in
set_option maxHeartbeats 2000000 in
theorem val1_any (g : Nat) (k x y : Int) (A : Option Addr) (n cp : Nat) (L : List Int) (bk : Int) (Am : Option Addr) (nm cm : Nat) (ms : List Int) (w : World) (hG : AsnAt w g k x y A n cp) (hm : RInts w Am nm cm ms) :
    Calls Tryz.prog 41 #[.agg #[.int .u8 bk, .slice Am nm cm], .pointer (some ⟨g, 0, none⟩)] w fun e w' => e = .returned (.int .i64 (worthA 1 x y L ms)) ∧ Below w.heap.size w w' := by
  have hl := hide hm.len
  have hb : Below w.heap.size w (w.alloc (.cells #[.int .u8 bk, .slice Am nm cm] 29)) := below_allocN
  have hP := Has.new w 29 #[.int .u8 bk, .slice Am nm cm]
  have hG0 := hide (show Has w g 24 #[.int .u8 k, .int .i64 x, .int .i64 y, .slice A n cp] from hG)
  clear hG
  go_enter Tryz.func41, Tryz.ntmps41
  go_upto_region 1 with fail
  generalize World.alloc w _ = W0 at hb hP ⊢
  have p0 := hP.cell 0
  have p1 := hP.cell 1
  have hg := hG0.out.below hb hG0.out.lt
  have g1 := hg.cell 1
  have g2 := hg.cell 2
  have g3 := hg.cell 3
  have hM := hm.below hb
  by_cases hn1 : nm = 1
  · subst hn1
    obtain ⟨b, off, v, rfl, hc, _, hat, _⟩ := hM.step (k := 0) (by omega)
    simp only [Nat.add_zero] at hc
    have hv : Hid (worthA 1 x y L ms = sideS (v == x) (v == y)) := by unfold Hid; rw [worth1, only_of hat.out hl.out, only_of hat.out hl.out]
    have hS : ∀ q, Calls Tryz.prog 42 #[.bool (v == x), .bool (v == y)] (More W0 q) fun e w' => e = .returned (.int .i64 (sideS (v == x) (v == y))) ∧ More W0 q = w' := fun q => side_any _ _ _
    go_upto_region 2 with fail
    refine wp_region_more (by kernel_rfl) (by kernel_rfl) ?_
    repeat (go_big_quiet_step ((go_at_call 42; with_reducible exact more_same (hS _))))
    refine wpQuiet_nil ?_
    rintro w2 ⟨qw2, hww2⟩
    have hbw2 := below_of_eq hww2
    clear hww2 qw2
    go_wp2
    go_ret
    exact ⟨ret_i hv.out.symm, Below_trans' hb hb.size hbw2⟩
  · have e1 : ((nm : Int) == 1) = false := by simp; omega
    have hv : Hid (worthA 1 x y L ms = 1) := by unfold Hid; rw [worth1, only_no (by rw [hl.out]; exact hn1), only_no (by rw [hl.out]; exact hn1)]; rfl
    have hS : ∀ q, Calls Tryz.prog 42 #[.bool false, .bool false] (More W0 q) fun e w' => e = .returned (.int .i64 1) ∧ More W0 q = w' := fun q => side_any _ _ _
    clear hn1
    go_upto_region 2 with fail
    refine wp_region_more (by kernel_rfl) (by kernel_rfl) ?_
    repeat (go_big_quiet_step ((go_at_call 42; with_reducible exact more_same (hS _))))
    refine wpQuiet_nil ?_
    rintro w2 ⟨qw2, hww2⟩
    have hbw2 := below_of_eq hww2
    clear hww2 qw2
    go_wp2
    go_ret
    exact ⟨ret_i hv.out.symm, Below_trans' hb hb.size hbw2⟩

set_option maxRecDepth 100000 in
set_option maxHeartbeats 2000000 in
theorem val2_any (g : Nat) (k x y : Int) (A : Option Addr) (n cp : Nat) (L : List Int) (bk : Int) (Am : Option Addr) (nm cm : Nat) (ms : List Int) (w : World) (hG : AsnAt w g k x y A n cp) (hm : RInts w Am nm cm ms) :
    Calls Tryz.prog 43 #[.agg #[.int .u8 bk, .slice Am nm cm], .pointer (some ⟨g, 0, none⟩)] w fun e w' => e = .returned (.int .i64 (worthA 2 x y L ms)) ∧ Below w.heap.size w w' := by
  have hb : Below w.heap.size w (w.alloc (.cells #[.int .u8 bk, .slice Am nm cm] 29)) := below_allocN
  have hP := Has.new w 29 #[.int .u8 bk, .slice Am nm cm]
  have hG0 := hide (show Has w g 24 #[.int .u8 k, .int .i64 x, .int .i64 y, .slice A n cp] from hG)
  clear hG
  go_enter Tryz.func43, Tryz.ntmps43
  go_upto_region 1 with fail
  generalize World.alloc w _ = W0 at hb hP ⊢
  have p0 := hP.cell 0
  have p1 := hP.cell 1
  have hg := hG0.out.below hb hG0.out.lt
  have g1 := hg.cell 1
  have g2 := hg.cell 2
  have g3 := hg.cell 3
  have hM := hm.below hb
  have hI : ∀ q, Calls Tryz.prog 44 #[.slice Am nm cm, .int .i64 x] (More W0 q) fun e w' => e = .returned (.bool (inL ms x)) ∧ More W0 q = w' := fun q => contains_any Am nm cm ms x _ (hM.more q)
  have hJ : ∀ q, Calls Tryz.prog 44 #[.slice Am nm cm, .int .i64 y] (More W0 q) fun e w' => e = .returned (.bool (inL ms y)) ∧ More W0 q = w' := fun q => contains_any Am nm cm ms y _ (hM.more q)
  have hS : ∀ q, Calls Tryz.prog 42 #[.bool (inL ms x), .bool (inL ms y)] (More W0 q) fun e w' => e = .returned (.int .i64 (sideS (inL ms x) (inL ms y))) ∧ More W0 q = w' := fun q => side_any _ _ _
  have hv := hide (worth2 x y L ms)
  generalize inL ms x = bx at *
  generalize inL ms y = by_ at *
  refine wp_region_more (by kernel_rfl) (by kernel_rfl) ?_
  repeat (go_big_quiet_step ((first | (go_at_call 44; first | with_reducible exact more_same (hI _) | with_reducible exact more_same (hJ _)) | (go_at_call 42; with_reducible exact more_same (hS _)))))
  refine wpQuiet_nil ?_
  rintro w2 ⟨qw2, hww2⟩
  have hbw2 := below_of_eq hww2
  clear hww2 qw2
  go_wp2
  go_ret
  exact ⟨ret_i hv.out.symm, Below_trans' hb hb.size hbw2⟩

set_option maxRecDepth 100000 in
set_option maxHeartbeats 2000000 in
theorem val3_any (g : Nat) (k x y : Int) (A : Option Addr) (n cp : Nat) (L : List Int) (Am : Option Addr) (nm cm : Nat) (ms : List Int) (w : World) (hG : AsnAt w g k x y A n cp) (hm : RInts w Am nm cm ms) :
    Calls Tryz.prog 45 #[.agg #[.int .u8 1, .slice Am nm cm], .pointer (some ⟨g, 0, none⟩)] w fun e w' => e = .returned (.int .i64 (worthA 3 x y L ms)) ∧ Below w.heap.size w w' := by
  have hb : Below w.heap.size w (w.alloc (.cells #[.int .u8 1, .slice Am nm cm] 29)) := below_allocN
  have hP := Has.new w 29 #[.int .u8 1, .slice Am nm cm]
  have hG0 := hide (show Has w g 24 #[.int .u8 k, .int .i64 x, .int .i64 y, .slice A n cp] from hG)
  clear hG
  go_enter Tryz.func45, Tryz.ntmps45
  go_upto_region 1 with fail
  generalize World.alloc w _ = W0 at hb hP ⊢
  have p0 := hP.cell 0
  have p1 := hP.cell 1
  have hg := hG0.out.below hb hG0.out.lt
  have g1 := hg.cell 1
  have g2 := hg.cell 2
  have g3 := hg.cell 3
  have hM := hm.below hb
  have hI : ∀ q, Calls Tryz.prog 46 #[.agg #[.int .u8 1, .slice Am nm cm], .int .i64 x, .int .i64 y] (More W0 q) fun e w' => e = .returned (.bool (prefersS 1 ms x y)) ∧ Below (More W0 q).heap.size (More W0 q) w' := fun q => prefers1_any Am nm cm ms x y _ (hM.more q)
  have hJ : ∀ q, Calls Tryz.prog 46 #[.agg #[.int .u8 1, .slice Am nm cm], .int .i64 y, .int .i64 x] (More W0 q) fun e w' => e = .returned (.bool (prefersS 1 ms y x)) ∧ Below (More W0 q).heap.size (More W0 q) w' := fun q => prefers1_any Am nm cm ms y x _ (hM.more q)
  have hS : ∀ q, Calls Tryz.prog 42 #[.bool (prefersS 1 ms x y), .bool (prefersS 1 ms y x)] (More W0 q) fun e w' => e = .returned (.int .i64 (sideS (prefersS 1 ms x y) (prefersS 1 ms y x))) ∧ More W0 q = w' := fun q => side_any _ _ _
  have hv := hide (worth3 x y L ms)
  generalize prefersS 1 ms x y = bx at *
  generalize prefersS 1 ms y x = by_ at *
  refine wp_region_more (by kernel_rfl) (by kernel_rfl) ?_
  repeat (go_big_quiet_step ((first | (go_at_call 46; first | with_reducible exact more_of (hI _) | with_reducible exact more_of (hJ _)) | (go_at_call 42; with_reducible exact more_same (hS _)))))
  refine wpQuiet_nil ?_
  rintro w2 ⟨qw2, hww2⟩
  have hbw2 := below_of_eq hww2
  clear hww2 qw2
  go_wp2
  go_ret
  exact ⟨ret_i hv.out.symm, Below_trans' hb hb.size hbw2⟩

theorem some_beq (f : Option Int) (x : Int) : decide (f = some x) = (f.isSome && (f.getD 0 == x)) := by cases f with | none => simp | some v => simp; rw [Bool.eq_iff_iff]; simp
set_option maxRecDepth 100000 in
set_option maxHeartbeats 2000000 in
theorem val4_any (g : Nat) (k x y : Int) (A : Option Addr) (n cp : Nat) (L : List Int) (bk : Int) (Am : Option Addr) (nm cm : Nat) (ms : List Int) (w : World) (hG : AsnAt w g k x y A n cp) (hL : RInts w A n cp L) (hm : RInts w Am nm cm ms) :
    Calls Tryz.prog 47 #[.agg #[.int .u8 bk, .slice Am nm cm], .pointer (some ⟨g, 0, none⟩)] w fun e w' => e = .returned (.int .i64 (worthA 4 x y L ms)) ∧ Below w.heap.size w w' := by
  have hb : Below w.heap.size w (w.alloc (.cells #[.int .u8 bk, .slice Am nm cm] 29)) := below_allocN
  have hP := Has.new w 29 #[.int .u8 bk, .slice Am nm cm]
  have hG0 := hide (show Has w g 24 #[.int .u8 k, .int .i64 x, .int .i64 y, .slice A n cp] from hG)
  clear hG
  go_enter Tryz.func47, Tryz.ntmps47
  go_upto_region 1 with fail
  generalize World.alloc w _ = W0 at hb hP ⊢
  have p0 := hP.cell 0
  have p1 := hP.cell 1
  have hg := hG0.out.below hb hG0.out.lt
  have g1 := hg.cell 1
  have g2 := hg.cell 2
  have g3 := hg.cell 3
  have hM := hm.below hb
  have hL0 := hL.below hb
  have hF := first_any Am nm cm ms A n cp L W0 hM hL0
  cases hf : firstL ms L with
  | none =>
    have hv : Hid (worthA 4 x y L ms = 1) := by unfold Hid; rw [worth4, hf]; rfl
    rw [hf] at hF
    simp only [Option.getD_none, Option.isSome_none] at hF
    clear hf
    go_wp2_with (first | (go_at_call 48; refine hF.mono ?_; rintro e w' ⟨rfl, rfl⟩) | (go_at_call 42; refine (side_any _ _ _).mono ?_; rintro e w' ⟨rfl, rfl⟩))
    go_ret
    exact ⟨ret_i hv.out.symm, hb⟩
  | some v =>
    have hv : Hid (worthA 4 x y L ms = sideS (v == x) (v == y)) := by unfold Hid; rw [worth4, hf, some_beq, some_beq]; rfl
    rw [hf] at hF
    simp only [Option.getD_some, Option.isSome_some] at hF
    clear hf
    go_wp2_with (first | (go_at_call 48; refine hF.mono ?_; rintro e w' ⟨rfl, rfl⟩) | (go_at_call 42; refine (side_any _ _ _).mono ?_; rintro e w' ⟨rfl, rfl⟩))
    go_ret
    exact ⟨ret_i hv.out.symm, hb⟩
set_option maxRecDepth 100000 in
set_option maxHeartbeats 2000000 in
theorem val5_any (g : Nat) (k x y : Int) (A : Option Addr) (n cp : Nat) (L : List Int) (bk : Int) (Am : Option Addr) (nm cm : Nat) (ms : List Int) (w : World) (hG : AsnAt w g k x y A n cp) (hL : RInts w A n cp L) (hm : RInts w Am nm cm ms) :
    Calls Tryz.prog 49 #[.agg #[.int .u8 bk, .slice Am nm cm], .pointer (some ⟨g, 0, none⟩)] w fun e w' => e = .returned (.int .i64 (worthA 5 x y L ms)) ∧ Below w.heap.size w w' := by
  have hb : Below w.heap.size w (w.alloc (.cells #[.int .u8 bk, .slice Am nm cm] 29)) := below_allocN
  have hP := Has.new w 29 #[.int .u8 bk, .slice Am nm cm]
  have hG0 := hide (show Has w g 24 #[.int .u8 k, .int .i64 x, .int .i64 y, .slice A n cp] from hG)
  clear hG
  go_enter Tryz.func49, Tryz.ntmps49
  go_upto_region 1 with fail
  generalize World.alloc w _ = W0 at hb hP ⊢
  have p0 := hP.cell 0
  have p1 := hP.cell 1
  have hg := hG0.out.below hb hG0.out.lt
  have g1 := hg.cell 1
  have g2 := hg.cell 2
  have g3 := hg.cell 3
  have hM := hm.below hb
  have hL0 := hL.below hb
  have hF := first_any Am nm cm ms A n cp L W0 hM hL0
  cases hf : firstL ms L with
  | none =>
    have hv : Hid (worthA 5 x y L ms = 1) := by unfold Hid; rw [worth5, hf]; rfl
    rw [hf] at hF
    simp only [Option.getD_none, Option.isSome_none] at hF
    clear hf
    go_wp2_with (first | (go_at_call 48; refine hF.mono ?_; rintro e w' ⟨rfl, rfl⟩) | (go_at_call 42; refine (side_any _ _ _).mono ?_; rintro e w' ⟨rfl, rfl⟩))
    go_ret
    exact ⟨ret_i hv.out.symm, hb⟩
  | some v =>
    have hv : Hid (worthA 5 x y L ms = sideS (v == x) (v != x)) := by
      unfold Hid; rw [worth5, hf, some_beq]
      have : ((some v : Option Int).isSome && decide ((some v : Option Int) ≠ some x)) = (v != x) := by rw [Bool.eq_iff_iff]; simp
      rw [this]; rfl
    rw [hf] at hF
    simp only [Option.getD_some, Option.isSome_some] at hF
    clear hf
    go_wp2_with (first | (go_at_call 48; refine hF.mono ?_; rintro e w' ⟨rfl, rfl⟩) | (go_at_call 42; refine (side_any _ _ _).mono ?_; rintro e w' ⟨rfl, rfl⟩))
    go_ret
    exact ⟨ret_i hv.out.symm, hb⟩
end Go.Proofs.YtoeajgjpakilgaaGreat

namespace Go.Proofs.YtoeajgjpakilgaaGreat
open Go.RowKit Go.Proofs Go.Shelf
attribute [local go_sem] cell?_more cell?_alloc_some cell?_setCell_far frozen?_alloc_some frozen?_more
/-- The functions of values, by kind. -/
def valsM (g : Nat) : Array MapEntry := #[{ key := .int .u8 1, val := .func (.func 41) #[] #[.pointer (some ⟨g, 0, none⟩)], born := 0 }, { key := .int .u8 2, val := .func (.func 43) #[] #[.pointer (some ⟨g, 0, none⟩)], born := 1 },
  { key := .int .u8 3, val := .func (.func 45) #[] #[.pointer (some ⟨g, 0, none⟩)], born := 2 }, { key := .int .u8 4, val := .func (.func 47) #[] #[.pointer (some ⟨g, 0, none⟩)], born := 3 }, { key := .int .u8 5, val := .func (.func 49) #[] #[.pointer (some ⟨g, 0, none⟩)], born := 4 }]

set_option maxRecDepth 100000 in
set_option maxHeartbeats 2000000 in
theorem values41_any (k x y : Int) (A : Option Addr) (n cp : Nat) (w : World) :
    Calls Tryz.prog 21 #[.agg #[.int .u8 k, .int .i64 x, .int .i64 y, .slice A n cp]] w fun e w' => ∃ g r, e = .returned (.map (some r)) ∧ AsnAt w' g k x y A n cp ∧ w'.heap[r]? = some (.map (valsM g) 5) ∧ Below w.heap.size w w' := by
  have hb : Below w.heap.size w (w.alloc (.cells #[.int .u8 k, .int .i64 x, .int .i64 y, .slice A n cp] 24)) := below_allocN
  have hP := Has.new w 24 #[.int .u8 k, .int .i64 x, .int .i64 y, .slice A n cp]
  have hmm := @run_makeMap Tryz.prog
  have hT : Tryz.prog.underlying 71 = some (.map 5 70) := by kernel_rfl
  have hK : Tryz.prog.underlying 5 = some (.int .u8) := by kernel_rfl
  have HT := hide hT
  have HK := hide hK
  clear hT hK
  go_enter Tryz.func21, Tryz.ntmps21
  go_upto_region 1 with fail
  obtain ⟨g, hg⟩ : ∃ g, g = w.heap.size := ⟨_, rfl⟩
  rw [← hg] at hP ⊢
  generalize World.alloc w _ = W0 at hb hP ⊢
  have hr : (W0.alloc (.map #[] 0)).heap[W0.heap.size]? = some (.map #[] 0) := World.alloc_heap_new W0 _
  have hB : Below W0.heap.size W0 (W0.alloc (.map #[] 0)) := below_allocN
  generalize hW1 : W0.alloc (.map #[] 0) = W1 at hr hB ⊢
  have Hg := hide hg
  clear hg
  go_wp2_with (first
    | (refine insU8 rfl _ _ _ 71 rfl 5 70 HT.out HK.out W0.heap.size _ _ _ _ rfl rfl rfl (by assumption) (by rfl) W0.heap.size (by assumption) (Nat.le_refl _) ?_; clear hr hB; intro w' hr hB))
  go_ret
  exact ⟨g, _, rfl, hP.below hB hP.lt, hr, Below_trans' hb hb.size hB⟩

set_option maxRecDepth 100000 in
set_option maxHeartbeats 4000000 in
theorem value_any (k x y : Int) (A : Option Addr) (n cp : Nat) (L : List Int) (bk : Int) (Am : Option Addr) (nm cm : Nat) (ms : List Int) (c : Int) (w : World) (h : RInts w A n cp L) (hm : RInts w Am nm cm ms) :
    Calls Tryz.prog 10 #[.agg #[.int .u8 k, .int .i64 x, .int .i64 y, .slice A n cp], .agg #[.int .u8 bk, .slice Am nm cm], .int .i64 c] w fun e w' => e = .returned (.tuple #[.int .i64 (valueA k x y L bk ms c), .int .i64 (valErr k x y L bk ms c)]) ∧ Below w.heap.size w w' := by
  have HT := hide (show Tryz.prog.underlying 71 = some (.map 5 70) by kernel_rfl)
  have HK := hide (show Tryz.prog.underlying 5 = some (.int .u8) by kernel_rfl)
  have eg1 : ∀ args w, (callFunc 41 args).run Tryz.prog w = .ok (.enter 41 args) w := enters_of Tryz.func41 (by kernel_rfl) rfl
  have eg2 : ∀ args w, (callFunc 43 args).run Tryz.prog w = .ok (.enter 43 args) w := enters_of Tryz.func43 (by kernel_rfl) rfl
  have eg3 : ∀ args w, (callFunc 45 args).run Tryz.prog w = .ok (.enter 45 args) w := enters_of Tryz.func45 (by kernel_rfl) rfl
  have eg4 : ∀ args w, (callFunc 47 args).run Tryz.prog w = .ok (.enter 47 args) w := enters_of Tryz.func47 (by kernel_rfl) rfl
  have eg5 : ∀ args w, (callFunc 49 args).run Tryz.prog w = .ok (.enter 49 args) w := enters_of Tryz.func49 (by kernel_rfl) rfl
  have hb0 : Below w.heap.size w (w.alloc (.cells #[.int .u8 k, .int .i64 x, .int .i64 y, .slice A n cp] 24)) := below_allocN
  have hP := Has.new w 24 #[.int .u8 k, .int .i64 x, .int .i64 y, .slice A n cp]
  have hb1 : Below (w.alloc (.cells #[.int .u8 k, .int .i64 x, .int .i64 y, .slice A n cp] 24)).heap.size (w.alloc (.cells #[.int .u8 k, .int .i64 x, .int .i64 y, .slice A n cp] 24)) ((w.alloc (.cells #[.int .u8 k, .int .i64 x, .int .i64 y, .slice A n cp] 24)).alloc (.cells #[.int .u8 bk, .slice Am nm cm] 29)) := below_allocN
  have hQ := Has.new (w.alloc (.cells #[.int .u8 k, .int .i64 x, .int .i64 y, .slice A n cp] 24)) 29 #[.int .u8 bk, .slice Am nm cm]
  have hP1 := hP.below hb1 hP.lt
  have hb := Below_trans' hb0 hb0.size hb1
  clear hb0 hb1 hP
  rw [World.size_alloc] at hQ
  go_enter Tryz.func10, Tryz.ntmps10
  go_upto_region 1 with fail
  generalize World.alloc (World.alloc w _) _ = W0 at hb hP1 hQ ⊢
  have p0 := hP1.cell 0
  have p1 := hP1.cell 1
  have p2 := hP1.cell 2
  have p3 := hP1.cell 3
  have hC := check41_any k x y A n cp L c W0 (h.below hb)
  by_cases hc0 : checkA k x y L c = 0
  · have b1 : (checkA k x y L c != 0) = false := by simp [hc0]
    have Hc := hide hc0
    rw [hc0] at hC
    clear hc0 b1
    go_upto_region 4 with (go_at_call 17; refine hC.mono ?_; rintro e w1 ⟨rfl, hbC⟩)
    have hP2 := hP1.below hbC hP1.lt
    have hQ2 := hQ.below hbC hQ.lt
    have hbz := Below_trans' hb hb.size hbC
    clear hC p0 p1 p2 p3
    have p0 := hP2.cell 0
    have p1 := hP2.cell 1
    have p2 := hP2.cell 2
    have p3 := hP2.cell 3
    have q0 := hQ2.cell 0
    have q1 := hQ2.cell 1
    have hB : ∀ q, Calls Tryz.prog 26 #[.agg #[.int .u8 bk, .slice Am nm cm], .int .i64 c] (More w1 q) fun e w' => e = .returned (.int .i64 (bcheckS bk ms c)) ∧ Below (More w1 q).heap.size (More w1 q) w' := fun q => bcheck_any bk Am nm cm ms c _ ((hm.below hbz).more q)
    have hKd : ∀ q, Calls Tryz.prog 20 #[.agg #[.int .u8 k, .int .i64 x, .int .i64 y, .slice A n cp]] (More w1 q) fun e w' => e = .returned (.int .u8 (kindA k)) ∧ Below (More w1 q).heap.size (More w1 q) w' := fun q => kind_any k x y A n cp _
    by_cases hbk : bcheckS bk ms c ≠ 0 ∨ bk ≠ kindA k
    · have he : Hid (valErr k x y L bk ms c = 8) := by unfold Hid valErr; rw [if_neg (by simp [Hc.out]), if_pos hbk]
      have hv : Hid (valueA k x y L bk ms c = 0) := by unfold Hid valueA; rw [he.out]; rfl
      by_cases hbc : bcheckS bk ms c = 0
      · have b2 : (bk != kindA k) = true := by simp; omega
        rw [hbc] at hB
        generalize kindA k = kk at *
        clear hbc hbk
        refine wp_region_more (by kernel_rfl) (by kernel_rfl) ?_
        repeat (go_big_quiet_step ((first | (go_at_call 26; with_reducible exact more_of (hB _)) | (go_at_call 20; with_reducible exact more_of (hKd _)))))
        refine wpQuiet_nil ?_
        rintro w2 ⟨qw2, hww2⟩
        have hbw2 := below_of_eq hww2
        clear hww2 qw2
        go_wp2
        go_ret2
        exact ⟨ret_ii hv.out.symm he.out.symm, Below_trans' hbz hbz.size hbw2⟩
      · have b2 : (bcheckS bk ms c != 0) = true := by simp [hbc]
        generalize bcheckS bk ms c = bb at *
        clear hbc hbk
        refine wp_region_more (by kernel_rfl) (by kernel_rfl) ?_
        repeat (go_big_quiet_step ((first | (go_at_call 26; with_reducible exact more_of (hB _)) | (go_at_call 20; with_reducible exact more_of (hKd _)))))
        refine wpQuiet_nil ?_
        rintro w2 ⟨qw2, hww2⟩
        have hbw2 := below_of_eq hww2
        clear hww2 qw2
        go_wp2
        go_ret2
        exact ⟨ret_ii hv.out.symm he.out.symm, Below_trans' hbz hbz.size hbw2⟩
    · have he : Hid (valErr k x y L bk ms c = 0) := by unfold Hid valErr; rw [if_neg (by simp [Hc.out]), if_neg hbk]
      have hv : Hid (valueA k x y L bk ms c = worthA k x y L ms) := by unfold Hid valueA; rw [he.out, if_pos rfl]
      have hbc : bcheckS bk ms c = 0 := by omega
      have hkk : bk = kindA k := by omega
      have b2 : (bk != kindA k) = false := by simp [hkk]
      have hF := hide (fine_of (check_zero Hc.out).2)
      rw [hbc] at hB
      have H3 : Hid (k = 3 → bk = 1) := fun e => by rw [hkk, e]; rfl
      generalize kindA k = kk at *
      clear hbc hbk hkk
      refine wp_region_more (by kernel_rfl) (by kernel_rfl) ?_
      repeat (go_big_quiet_step ((first | (go_at_call 26; with_reducible exact more_of (hB _)) | (go_at_call 20; with_reducible exact more_of (hKd _)))))
      refine wpQuiet_nil ?_
      rintro w2 ⟨qw2, hww2⟩
      have hbw2 := below_of_eq hww2
      clear hww2 qw2
      have hbz2 := Below_trans' hbz hbz.size hbw2
      have hP3 := hP2.below hbw2 hP2.lt
      have hQ3 := hQ2.below hbw2 hQ2.lt
      clear hB hKd p0 p1 p2 p3 q0 q1
      have p0 := hP3.cell 0
      have p1 := hP3.cell 1
      have p2 := hP3.cell 2
      have p3 := hP3.cell 3
      have q0 := hQ3.cell 0
      have q1 := hQ3.cell 1
      go_upto_region 6 with fail
      refine wp_region_flowz [0, 2, 3, 5] [0, 2, 3, 5] (fun w' => ∃ q, w' = More w2 q) (by kernel_rfl) (by kernel_rfl) (below_more ((Below.refl w2.heap.size w2).drew)) ?_
      simp only [pickOps, List.getElem?_cons_zero, List.getElem?_cons_succ]
      repeat (go_big_quiet_step (fail))
      refine wpQuiet_nil ?_
      have hdr : Below w2.heap.size w2 w2.drew := (Below.refl _ _).drew
      refine flow_one 1 (by kernel_rfl) rfl ?_
      go_wp2_with fail
      refine (values41_any k x y A n cp w2.drew).mono ?_
      rintro e w3 ⟨g, r, rfl, hA, hM, hb3⟩
      have hbv : Below w2.heap.size w2 w3 := Below_trans' hdr (Nat.le_refl _) hb3
      clear p0 p1 p2 p3 q0 q1 hdr hb3
      go_wp2
      refine FlowPost.mk ⟨below_more hbv, ?_⟩
      refine flow_one 4 (by kernel_rfl) rfl ?_
      have hm3 := (hm.below hbz2).below hbv
      have hL3 := (h.below hbz2).below hbv
      rcases hF.out.k5 with rfl | rfl | rfl | rfl | rfl
      · refine lookU8 rfl _ _ 71 rfl 5 70 HT.out HK.out r _ _ _ 0 _ rfl rfl hM (by rfl) ?_
        go_wp2
        refine FlowPost.mk ⟨below_more hbv, ?_⟩
        refine flow_one 6 (by kernel_rfl) rfl ?_
        go_wp2_with (go_at_fn 41; refine (val1_any g 1 x y A n cp L bk Am nm cm ms w3 hA hm3).mono ?_; rintro e w5 ⟨rfl, hb5⟩)
        refine FlowPost.mk ⟨below_more (Below_trans' hbv hbv.size hb5), ?_⟩
        refine flow_rest [7, 8] (by kernel_rfl) ?_
        simp only [pickOps]
        go_wp2
        go_ret2
        exact ⟨ret_ii hv.out.symm he.out.symm, Below_trans' hbz2 hbz2.size (Below_trans' hbv hbv.size hb5)⟩
      · refine lookU8 rfl _ _ 71 rfl 5 70 HT.out HK.out r _ _ _ 1 _ rfl rfl hM (by rfl) ?_
        go_wp2
        refine FlowPost.mk ⟨below_more hbv, ?_⟩
        refine flow_one 6 (by kernel_rfl) rfl ?_
        go_wp2_with (go_at_fn 43; refine (val2_any g 2 x y A n cp L bk Am nm cm ms w3 hA hm3).mono ?_; rintro e w5 ⟨rfl, hb5⟩)
        refine FlowPost.mk ⟨below_more (Below_trans' hbv hbv.size hb5), ?_⟩
        refine flow_rest [7, 8] (by kernel_rfl) ?_
        simp only [pickOps]
        go_wp2
        go_ret2
        exact ⟨ret_ii hv.out.symm he.out.symm, Below_trans' hbz2 hbz2.size (Below_trans' hbv hbv.size hb5)⟩
      · obtain rfl : bk = 1 := H3.out rfl
        refine lookU8 rfl _ _ 71 rfl 5 70 HT.out HK.out r _ _ _ 2 _ rfl rfl hM (by rfl) ?_
        go_wp2
        refine FlowPost.mk ⟨below_more hbv, ?_⟩
        refine flow_one 6 (by kernel_rfl) rfl ?_
        go_wp2_with (go_at_fn 45; refine (val3_any g 3 x y A n cp L Am nm cm ms w3 hA hm3).mono ?_; rintro e w5 ⟨rfl, hb5⟩)
        refine FlowPost.mk ⟨below_more (Below_trans' hbv hbv.size hb5), ?_⟩
        refine flow_rest [7, 8] (by kernel_rfl) ?_
        simp only [pickOps]
        go_wp2
        go_ret2
        exact ⟨ret_ii hv.out.symm he.out.symm, Below_trans' hbz2 hbz2.size (Below_trans' hbv hbv.size hb5)⟩
      · refine lookU8 rfl _ _ 71 rfl 5 70 HT.out HK.out r _ _ _ 3 _ rfl rfl hM (by rfl) ?_
        go_wp2
        refine FlowPost.mk ⟨below_more hbv, ?_⟩
        refine flow_one 6 (by kernel_rfl) rfl ?_
        go_wp2_with (go_at_fn 47; refine (val4_any g 4 x y A n cp L bk Am nm cm ms w3 hA hL3 hm3).mono ?_; rintro e w5 ⟨rfl, hb5⟩)
        refine FlowPost.mk ⟨below_more (Below_trans' hbv hbv.size hb5), ?_⟩
        refine flow_rest [7, 8] (by kernel_rfl) ?_
        simp only [pickOps]
        go_wp2
        go_ret2
        exact ⟨ret_ii hv.out.symm he.out.symm, Below_trans' hbz2 hbz2.size (Below_trans' hbv hbv.size hb5)⟩
      · refine lookU8 rfl _ _ 71 rfl 5 70 HT.out HK.out r _ _ _ 4 _ rfl rfl hM (by rfl) ?_
        go_wp2
        refine FlowPost.mk ⟨below_more hbv, ?_⟩
        refine flow_one 6 (by kernel_rfl) rfl ?_
        go_wp2_with (go_at_fn 49; refine (val5_any g 5 x y A n cp L bk Am nm cm ms w3 hA hL3 hm3).mono ?_; rintro e w5 ⟨rfl, hb5⟩)
        refine FlowPost.mk ⟨below_more (Below_trans' hbv hbv.size hb5), ?_⟩
        refine flow_rest [7, 8] (by kernel_rfl) ?_
        simp only [pickOps]
        go_wp2
        go_ret2
        exact ⟨ret_ii hv.out.symm he.out.symm, Below_trans' hbz2 hbz2.size (Below_trans' hbv hbv.size hb5)⟩
  · have b1 : (checkA k x y L c != 0) = true := by simp [hc0]
    have he : Hid (valErr k x y L bk ms c = checkA k x y L c) := by unfold Hid valErr; rw [if_pos hc0]
    have hv : Hid (valueA k x y L bk ms c = 0) := by unfold Hid valueA; rw [he.out, if_neg hc0]
    generalize checkA k x y L c = ce at *
    clear hc0
    go_wp2_with (go_at_call 17; refine hC.mono ?_; rintro e w1 ⟨rfl, hbC⟩)
    go_ret2
    exact ⟨ret_ii hv.out.symm he.out.symm, Below_trans' hb hb.size hbC⟩
end Go.Proofs.YtoeajgjpakilgaaGreat
