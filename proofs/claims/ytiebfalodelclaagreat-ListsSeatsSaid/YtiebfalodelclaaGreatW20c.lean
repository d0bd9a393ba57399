/-
  Seats for lists: largest remainders.
-/
import Derived.Test.YtiebfalodelclaaGreatW20b
namespace Go.Proofs.YtiebfalodelclaaGreat
open Go.RowKit Go.Proofs Go.Shelf
attribute [local go_sem] cell?_more cell?_alloc_some cell?_setCell_far frozen?_alloc_some frozen?_more
/-- The remainders of the first k. -/
def restT (had : List Int) (n C k : Nat) : List Int := (List.range C).map fun i : Nat => if i < k then restS had n (i : Int) else 0
theorem length_restT (had : List Int) (n C k : Nat) : (restT had n C k).length = C := by unfold restT; simp
theorem get_restT (had : List Int) (n : Nat) {C k i : Nat} (h : i < C) : (restT had n C k)[i]? = some (if i < k then restS had n (i : Int) else 0) := by
  unfold restT; rw [List.getElem?_map, List.getElem?_range h]; rfl
theorem restT_zero (had : List Int) (n C : Nat) : restT had n C 0 = List.replicate C 0 := by
  refine List.ext_getElem? fun i => ?_
  by_cases hi : i < C
  · rw [get_restT _ _ hi, List.getElem?_replicate, if_pos hi, if_neg (by omega)]
  · rw [List.getElem?_eq_none (by rw [length_restT]; omega), List.getElem?_eq_none (by simp; omega)]
theorem restT_succ (had : List Int) (n : Nat) {C k : Nat} : restT had n C (k + 1) = (restT had n C k).set k (restS had n (k : Int)) := by
  refine List.ext_getElem? fun i => ?_
  by_cases hi : i < C
  · rw [get_restT _ _ hi, List.getElem?_set]
    by_cases e : k = i
    · subst e
      rw [if_pos (show k < k + 1 by omega), if_pos rfl, if_pos (by rw [length_restT]; exact hi)]
    · rw [if_neg e, get_restT _ _ hi]
      by_cases h2 : i < k
      · rw [if_pos h2, if_pos (by omega)]
      · rw [if_neg h2, if_neg (by omega)]
  · rw [List.getElem?_eq_none (by rw [length_restT]; omega), List.getElem?_eq_none (by rw [List.length_set, length_restT]; omega)]
theorem restT_same {had : List Int} {n C k : Nat} (h : restS had n (k : Int) = 0) : restT had n C (k + 1) = restT had n C k := by
  unfold restT
  refine List.map_congr_left fun i _ => ?_
  by_cases e : i = k
  · subst e; rw [if_pos (by omega), if_neg (by omega), h]
  · by_cases h2 : i < k
    · rw [if_pos h2, if_pos (by omega)]
    · rw [if_neg h2, if_neg (by omega)]
theorem getI_restT {had : List Int} {n C : Nat} {x : Int} (hx : 0 ≤ x ∧ x < (C : Int)) : getI (restT had n C C) x = restS had n x := by
  obtain ⟨X, rfl⟩ : ∃ X : Nat, x = X := ⟨x.toNat, by omega⟩
  unfold getI
  rw [List.getD_eq_getElem?_getD, Int.toNat_natCast, get_restT _ _ (show X < C by omega), if_pos (by omega)]; rfl
theorem base_succ (had : List Int) (n C : Nat) : baseS had n (C + 1) = baseS had n C ++ List.replicate (flrS had n (C : Int)) (C : Int) := by
  unfold baseS; rw [rangeI_succ, List.flatMap_append]; simp
theorem HadOK.mem {had : List Int} {C : Nat} (h : HadOK had C) : ∀ y ∈ had, 0 ≤ y := fun y hy => by
  obtain ⟨i, hi, rfl⟩ := List.getElem_of_mem hy
  have := h.nn (i : Int)
  unfold getI at this
  rw [Int.toNat_natCast, List.getD_eq_getElem?_getD, List.getElem?_eq_getElem hi] at this
  exact this
theorem sum_nn20 : ∀ {l : List Int}, (∀ y ∈ l, 0 ≤ y) → 0 ≤ l.sum
  | [], _ => by simp
  | a :: r, h => by
    have := sum_nn20 (l := r) fun y hy => h y (List.mem_cons_of_mem _ hy)
    have := h a List.mem_cons_self
    rw [List.sum_cons]; omega
theorem sum_take20 {l : List Int} (h : ∀ y ∈ l, 0 ≤ y) (k : Nat) : 0 ≤ (l.take k).sum ∧ (l.take k).sum ≤ l.sum := by
  have e : l.sum = (l.take k).sum + (l.drop k).sum := by rw [← List.sum_append, List.take_append_drop]
  have h1 := sum_nn20 (l := l.take k) fun y hy => h y (List.mem_of_mem_take hy)
  have h2 := sum_nn20 (l := l.drop k) fun y hy => h y (List.mem_of_mem_drop hy)
  omega
theorem sum_step20 {l : List Int} {k : Nat} {v : Int} (h : l[k]? = some v) : (l.take (k + 1)).sum = (l.take k).sum + v := by
  rw [List.take_add_one, h, List.sum_append]; simp
theorem HadOK.le_sum {had : List Int} {C : Nat} (h : HadOK had C) {k : Nat} {v : Int} (hv : had[k]? = some v) : 0 ≤ v ∧ v ≤ had.sum := by
  have h1 := sum_step20 hv
  have h2 := sum_take20 h.mem k
  have h3 := sum_take20 h.mem (k + 1)
  have h4 := h.mem v (List.mem_of_getElem? hv)
  omega
theorem flr_le {had : List Int} {C : Nat} {lot : List Int} (hC : 1 ≤ C) (hl : LotAll lot C) (hh : HadOK had C) (n k : Nat) (hk : k < C) : flrS had n (k : Int) ≤ n := by
  have h1 := count_base (had := had) (n := n) (C := C) (x := (k : Int))
  rw [if_pos (by omega)] at h1
  have h2 := List.count_le_length (a := (k : Int)) (l := baseS had n C)
  have h3 := (remS_len hC hl hh n).2
  omega
theorem base_len {had : List Int} {C : Nat} {lot : List Int} (hC : 1 ≤ C) (hl : LotAll lot C) (hh : HadOK had C) (n : Nat) : ∀ {k : Nat}, k ≤ C → (baseS had n k).length ≤ n := fun {k} hk => by
  have h3 := (remS_len hC hl hh n).2
  have h4 : ∀ d, (baseS had n k).length ≤ (baseS had n (k + d)).length := fun d => by
    induction d with
    | zero => exact Nat.le_refl _
    | succ d ih => rw [show k + (d + 1) = (k + d) + 1 by omega, base_succ, List.length_append]; omega
  have := h4 (C - k)
  rw [show k + (C - k) = C by omega] at this
  omega
/-- The order by remainders. -/
def leR (had : List Int) (n : Nat) (y x : Int) : Bool := decide (restS had n y ≤ restS had n x)
theorem pre_leR (had : List Int) (n : Nat) : Pre (leR had n) := by
  refine ⟨fun a b => ?_, fun a b c hab hbc => ?_⟩
  · unfold leR; simp only [decide_eq_true_eq]; omega
  · unfold leR at *; simp only [decide_eq_true_eq] at *; omega
theorem best_leR (had : List Int) (n : Nat) (l : List Int) : bestR (leR had n) l = bestS (restS had n) l := rfl
def lenV : Value → Nat
  | .slice _ n _ => n
  | _ => 0

/-- Many more. -/
theorem Own.apps20 {w : World} {B : Nat} {u : Value} {xs : List Int} (h : Own w B u xs) {A : Option Addr} {n c : Nat} {ys : List Int} (hr : RInts w A n c ys) (hn : xs.length + n ≤ 1000000) (hB : B ≤ w.heap.size) (ty : TypeId) :
    ∃ u' w', (Builtin.append_ #[25, 25] ty #[u, .slice A n c]).run Tryz.prog w = .ok u' w' ∧ Own w' B u' (xs ++ ys) ∧ (u'.ownBlock = u.ownBlock ∨ ∃ b, u'.ownBlock = some b ∧ w.heap.size ≤ b) ∧ Frame' (fun b => u.ownBlock = some b) w w' := by
  obtain ⟨u', w', k1, k2, k3, k4⟩ := run_appInts w ty h hr hn hB
  exact ⟨u', w', k1, k2, k4.imp id fun e => ⟨_, e, Nat.le_refl _⟩, (Frame'.of_grown k3).mono fun b _ e => e.symm⟩

theorem keyR_any (b1 : Nat) (A : Option Addr) (C c : Nat) (rs : List Int) (x : Int) (w : World) (h0 : 0 ≤ x ∧ x < C) (c1 : w.cell? ⟨b1, 0, none⟩ = some (.slice A C c)) (hH : RInts w A C c rs) :
    Calls Tryz.prog 100 #[.int .i64 x, .pointer (some ⟨b1, 0, none⟩)] w fun e w' => e = .returned (.int .i64 (getI rs x)) ∧ w = w' := by
  obtain ⟨X, rfl⟩ : ∃ X : Nat, x = X := ⟨x.toNat, by omega⟩
  obtain ⟨b, off, y, rfl, hcy, _, hat, _⟩ := hH.step (show X < C by omega)
  have hy := hide (getI_of hat.out)
  clear hat
  go_enter Tryz.func100, Tryz.ntmps100
  go_wp2
  go_ret
  exact ⟨ret_i (by rw [hy.out]), rfl⟩
theorem delR_any (b1 : Nat) (x y : Int) (w : World) (c1 : w.cell? ⟨b1, 0, none⟩ = some (.int .i64 x)) :
    Calls Tryz.prog 102 #[.int .i64 y, .pointer (some ⟨b1, 0, none⟩)] w fun e w' => e = .returned (.bool (decide (y = x))) ∧ w = w' := by
  go_enter Tryz.func102, Tryz.ntmps102
  go_wp2
  go_ret
  exact ⟨ret_b (by rw [Bool.eq_iff_iff]; simp), rfl⟩

/-- While seats are given by remainders: who has been elected (in vo), who may be (in ve), the ties. -/
def RemIn (S4 : Nat) (w5 : World) (g : Nat) (x0 x1 vl : Value) (s : List Int × List Row) (eg : List Int) (vo ve : Value) (wr : World) : Prop :=
  ∃ vt fp, Own wr S4 vo s.1 ∧ Own wr S4 ve eg ∧ Has wr g 125 #[x0, x1, vt, vl] ∧ OAgg ETie 66 2 fp wr S4 vt s.2 ∧ (∀ b, fp b → S4 ≤ b) ∧ (∀ b, vo.ownBlock = some b → ¬ fp b ∧ vt.ownBlock ≠ some b ∧ ve.ownBlock ≠ some b) ∧ (∀ b, ve.ownBlock = some b → ¬ fp b ∧ vt.ownBlock ≠ some b) ∧ Frame' (fun b => b = g ∨ S4 ≤ b) w5 wr
theorem restS_bd {had : List Int} {C : Nat} (hh : HadOK had C) (hsum : had.sum ≤ 1000000) (n : Nat) (x : Int) : 0 ≤ restS had n x ∧ restS had n x ≤ 1000000 := by
  by_cases hT : 0 < had.sum
  · have h := flr_ok hh hT n x
    have := h.r0
    have := h.r1
    omega
  · unfold restS; rw [if_pos (by omega)]; omega
set_option maxRecDepth 100000 in
set_option maxHeartbeats 2000000 in
theorem remainders_any (g : Nat) (x0 x1 : Value) (Al : Option Addr) (nl cl : Nat) (lot : List Int) (A : Option Addr) (C c : Nat) (had : List Int) (n : Nat) (w : World)
    (hg : Has w g 125 #[x0, x1, .slice none 0 0, .slice Al nl cl]) (hL : RInts w Al nl cl lot) (hLg : ∀ b, fpS Al nl b → b ≠ g) (hH : RInts w A C c had) (hHg : ∀ b, fpS A C b → b ≠ g) (hnl : nl ≤ 1000) (hC1 : 1 ≤ C) (hC10 : C ≤ 10) (hn : n ≤ 10) (hla : LotAll lot C)
    (hh : HadOK had C) (hsum : had.sum ≤ 1000000) :
    Calls Tryz.prog 57 #[.pointer (some ⟨g, 0, none⟩), .slice A C c, .int .i64 n] w (SeatPost w g x0 x1 (.slice Al nl cl) (remS had C lot n)) := by
  have hmk := run_make_row' (P := Tryz.prog) 25 3 (.int .i64 0) 8 Tryz.underlying25 info3 rfl .i64 .i64 C (by omega) (by omega)
  have Hla := hide hla
  have HLg := hide hLg
  have HHg := hide hHg
  have Hh := hide hh
  have hle := hH.le
  have hlen := hide hH.len
  clear hla hLg hHg hh
  go_enter Tryz.func57, Tryz.ntmps57
  go_wp2
  go_loop [7, 17] (fun s i => ∃ k : Nat, k ≤ C ∧ i = .int .i64 k ∧ s = .int .i64 ((had.take k).sum)) (fun s i => C - (intOf i).toNat)
  case atStart => exact ⟨0, Nat.zero_le _, rfl, rfl⟩
  case round =>
    obtain ⟨k, hk, rfl, rfl⟩ := hrel
    by_cases hlt : k < C
    · obtain ⟨b, off, v, rfl, hc, _, hat, _⟩ := hH.step hlt
      have hs := hide (sum_step20 hat.out)
      have hb1 := sum_take20 Hh.out.mem k
      have hb2 := sum_take20 Hh.out.mem (k + 1)
      rw [hs.out] at hb2
      clear hat
      go_wp2
      go_round
      case rel => exact ⟨k + 1, by omega, by go_num, by rw [hs.out]⟩
      case measure => simp [intOf] <;> omega
    · obtain rfl : k = C := by omega
      have e : Hid (had.take k = had) := List.take_of_length_le (by rw [hlen.out]; exact Nat.le_refl _)
      rw [e.out]
      have hTS0 : 0 ≤ had.sum := sum_nn20 Hh.out.mem
      have hG1 := Own.made w w.heap.size k (Nat.le_refl _) (by omega)
      have hb1 : Below w.heap.size w (w.alloc (.cells (madeCells #[.int .i64 0] k) 3)) := below_allocN
      have hz1 : (w.alloc (.cells (madeCells #[.int .i64 0] k) 3)).heap.size = w.heap.size + 1 := by simp
      go_upto_region 8 with fail
      generalize World.alloc w _ = W1 at hG1 hb1 hz1 ⊢
      have hN1 : Has (W1.alloc (.cells #[.slice (some ⟨w.heap.size, 0, none⟩) k k] 25)) (w.heap.size + 1) 25 #[.slice (some ⟨w.heap.size, 0, none⟩) k k] := by rw [← hz1]; exact Has.new _ _ _
      have hb4 : Below W1.heap.size W1 (W1.alloc (.cells #[.slice (some ⟨w.heap.size, 0, none⟩) k k] 25)) := below_allocN
      generalize World.alloc W1 _ = w4 at hN1 hb4 ⊢
      have hb04 := Below_trans' hb1 hb1.size hb4
      have hG4 := hG1.below hb4
      have hg4 := hg.below hb04 hg.lt
      have hgl : g < w.heap.size := hg.lt
      have hS4 : w.heap.size + 1 < w4.heap.size := hN1.lt
      have hH4 := hH.below hb04
      have hL4 := hL.below hb04
      have hHl := hide (fun b (hb : fpS A k b) => hH.on.1 b hb)
      have hLl := hide (fun b (hb : fpS Al nl b) => hL.on.1 b hb)
      have hll := hL.len
      have egK : ∀ args w, (callFunc 100 args).run Tryz.prog w = .ok (.enter 100 args) w := enters_of Tryz.func100 (by kernel_rfl) rfl
      have egD : ∀ args w, (callFunc 102 args).run Tryz.prog w = .ok (.enter 102 args) w := enters_of Tryz.func102 (by kernel_rfl) rfl
      have egC : ∀ args w, (callFunc 96 args).run Tryz.prog w = .ok (.enter 96 args) w := enters_of Tryz.func96 (by kernel_rfl) rfl
      clear hG1 hb1 hb4 hmk hz1 hlt hk e
      generalize hTS : had.sum = TS at hsum hTS0 ⊢
      have HTS := hide hTS
      clear hTS
      go_wp2
      go_loopw [6, 30] (fun v i wr => ∃ j : Nat, j ≤ k ∧ i = .int .i64 j ∧ Own wr w4.heap.size v (baseS had n j) ∧ Own wr w.heap.size (.slice (some ⟨w.heap.size, 0, none⟩) k k) (restT had n k j) ∧ Frame' (fun b => b = w.heap.size ∨ w4.heap.size ≤ b) w4 wr) (fun v i _ => k - (intOf i).toNat)
      case atStart => exact ⟨0, Nat.zero_le _, rfl, Own.nil_ _ _, by rw [restT_zero]; exact hG4, Frame'.refl _ _⟩
      case round =>
        obtain ⟨j, hj, rfl, hO, hW, hF⟩ := hrel
        obtain ⟨wo, rfl⟩ : ∃ wo : World, wo = wr := ⟨_, rfl⟩
        have hsz := hF.size
        by_cases hlt : j < k
        · have hHo := hH4.frame hF (fun hn => by
            obtain ⟨b, off, _, e, _⟩ := hH.step hn
            have h2 := hHl.out b ⟨hn, off, e⟩
            exact ⟨b, off, e, by omega⟩)
          obtain ⟨b, off, v, rfl, hc, _, hat, _⟩ := hHo.step hlt
          have hv := Hh.out.le_sum hat.out
          have hgv := getI_of hat.out
          have hbl := base_len hC1 Hla.out Hh.out n (k := j) (by omega)
          have hbs := hide (base_succ had n j)
          rw [HTS.out] at hv
          clear hat
          obtain ⟨Av, cv, rfl⟩ := hO.slice
          by_cases hpos : 0 < TS
          · have hf := flr_ok Hh.out (by rw [HTS.out]; exact hpos) n (j : Int)
            have hfl := flr_le hC1 Hla.out Hh.out n j hlt
            have hrs := hide (restT_succ had n (C := k) (k := j))
            have e1 := hf.is
            have e2 := hf.r0
            have e3 := hf.r1
            have e4 : restS had n (j : Int) = getI had (j : Int) * n % had.sum := by unfold restS; rw [if_neg (by rw [HTS.out]; omega)]
            rw [HTS.out] at e1 e3 e4
            rw [hgv] at e1 e4
            have m1 : 0 ≤ v * (n : Int) ∧ v * (n : Int) ≤ 1000000000 := ⟨Int.mul_nonneg hv.1 (by omega), Int.le_trans (Int.mul_le_mul (show v ≤ 1000000 by omega) (show (n : Int) ≤ 10 by omega) (by omega) (by omega)) (by omega)⟩
            have g1 : (v * (n : Int)).tdiv TS = ((flrS had n (j : Int) : Nat) : Int) := by rw [Int.tdiv_eq_ediv_of_nonneg m1.1]; exact e1.symm
            have g2 : (v * (n : Int)).tmod TS = restS had n (j : Int) := by rw [Int.tmod_eq_emod_of_nonneg m1.1]; exact e4.symm
            have f1 : (TS != 0) = true := by simp; omega
            clear hf e1 e4 hgv
            generalize flrS had n (j : Int) = F at hfl g1 hbs ⊢
            generalize restS had n (j : Int) = R at e2 e3 g2 hrs ⊢
            generalize baseS had n j = bs at hO hbl hbs ⊢
            have hbx : Below wo.heap.size wo (wo.alloc (.cells #[.int .i64 (j : Int)] 3)) := below_allocN
            have hX : RInts (wo.alloc (.cells #[.int .i64 (j : Int)] 3)) (some ⟨wo.heap.size, 0, none⟩) 1 1 [(j : Int)] := ints_lit [(j : Int)] (Has.new _ _ _) (by simp) (fun z hz => by rw [List.mem_singleton.1 hz]; unfold I64; omega)
            go_wp2_with fail
            refine (repeat_any _ _ (j : Int) F _ hX (by omega)).mono ?_
            rintro e w1 ⟨gr, rfl, hR1, hb1⟩
            have hb01 := Below_trans' hbx hbx.size hb1
            obtain ⟨u', w2, k1, k2, k3, k4⟩ := (hO.below hb01).apps20 hR1 (by omega) (by have := hb01.size; omega) 25
            rw [← hbs.out] at k2
            have hF1 : Frame' (fun b => b = w.heap.size ∨ w4.heap.size ≤ b) w4 w1 := hF.trans (Frame'.of_below hb01)
            have hW2 := (hW.below hb01).frame k4 (fun b hb h => by
              obtain rfl : w.heap.size = b := Option.some.inj hb
              have := (hO.own_lt h).1; omega)
            have hF2 : Frame' (fun b => b = w.heap.size ∨ w4.heap.size ≤ b) w4 w2 := hF1.transOn k4 (fun b hb h => by have := (hO.own_lt h).1; omega)
            clear hbx hX hc
            go_wp2_with (at_builtin; refine list_app rfl rfl rfl rfl k1 ?_)
            clear k1
            go_upto_region 13 with fail
            have hN2 := hF2.has hN1 (by omega)
            have q0 := hN2.cell 0
            refine wp_region_more_tail 7 (by kernel_rfl) (by kernel_rfl) ?_
            simp only [List.take]
            repeat (go_big_quiet_step (fail))
            refine wpQuiet_nil ?_
            rintro w3 ⟨qq, hw3⟩
            have hb3 := below_of_eq hw3
            clear hw3 qq
            have hW3 := hW2.below hb3
            obtain ⟨u2, hu2, hcu2, hfu2⟩ := hW3.at (length_restT _ _ _ _) hlt
            have hF3 : Frame' (fun b => b = w.heap.size ∨ w4.heap.size ≤ b) w4 (w3.setCell ⟨w.heap.size, j, none⟩ (.int .i64 R)) := (hF2.trans (Frame'.of_below hb3)).setCell (p := ⟨w.heap.size, j, none⟩) (.inl (.inl rfl)) _
            have hO3 : Own (w3.setCell ⟨w.heap.size, j, none⟩ (.int .i64 R)) w4.heap.size u' (baseS had n (j + 1)) := (k2.below hb3).frame ((Frame'.refl (fun b => b = w.heap.size) w3).setCell (p := ⟨w.heap.size, j, none⟩) (.inl rfl) _) (fun b hb h => by have := (k2.own_lt hb).1; omega)
            clear hu2 q0
            go_wp2
            go_roundw
            case rel => exact ⟨j + 1, by omega, by go_num, hO3, by rw [hrs.out]; exact hW3.set (length_restT _ _ _ _) j _, hF3⟩
            case measure => simp [intOf] <;> omega
          · have hz : had.sum ≤ 0 := by rw [HTS.out]; omega
            have hbe : Hid (baseS had n (j + 1) = baseS had n j) := by unfold Hid; rw [base_zero hz, base_zero hz]
            have hre : Hid (restT had n k (j + 1) = restT had n k j) := restT_same (by unfold restS; rw [if_pos hz])
            clear hz
            go_wp2
            go_roundw
            case rel => exact ⟨j + 1, by omega, by go_num, by rw [hbe.out]; exact hO, by rw [hre.out]; exact hW, hF⟩
            case measure => simp [intOf] <;> omega
        · obtain rfl : k = j := by omega
          obtain ⟨wE, rfl⟩ : ∃ wE : World, wE = wo := ⟨_, rfl⟩
          have hNE := hF.has hN1 (by omega)
          have hgE := hF.has hg4 (by omega)
          have hRE := hW.ints (fun y hy => by
            obtain ⟨i, _, rfl⟩ := List.mem_map.1 hy
            have := restS_bd Hh.out (by rw [HTS.out]; exact hsum) n (i : Int)
            split <;> omega)
          have hLE := hL4.frame hF (fun hn => by
            obtain ⟨b, off, _, e, _⟩ := hL.step hn
            have h2 := hLl.out b ⟨hn, off, e⟩
            exact ⟨b, off, e, by omega⟩)
          have hF0 : Frame' (fun b => b = g) w wE := (Frame'.of_below hb04).transOn hF (fun b hb h => by omega)
          have hbl := base_len hC1 Hla.out Hh.out n (Nat.le_refl k)
          clear hW hF hlt hj hG4 hg4 hH4 hL4 hb04 hN1
          go_wp2
          go_loopw [6, 13] (fun u v wr => ∃ (d : Nat) (eg : List Int) (s : List Int × List Row), s.1.length + d = n ∧ s.2.length + d ≤ n ∧ moreS (restS had n) k lot d eg s = remS had k lot n ∧ eg.Sublist (rangeI k) ∧ RemIn w4.heap.size wE g x0 x1 (.slice Al nl cl) s eg u v wr) (fun u v _ => n - lenV u)
          case atStart => exact ⟨n - (baseS had n k).length, [], (baseS had n k, []), by dsimp only; omega, by simp, rfl, List.nil_sublist _, .slice none 0 0, fun _ => False, hO, Own.nil_ _ _, hgE, OAgg.nil_ _ _ _ _ _, fun _ h => h.elim, (fun b _ => ⟨(fun h => h), (fun h => by cases h), (fun h => by cases h)⟩), (fun b h => by cases h), Frame'.refl _ _⟩
          case round =>
            clear hO hgE
            obtain ⟨d, eg, ⟨el, ts⟩, hd, hts, hmo, hsub, vt, fp, hO, hE, hG, hT, hfp, hapo, hape, hF1⟩ := hrel
            obtain ⟨wz, rfl⟩ : ∃ wz : World, wz = wr := ⟨_, rfl⟩
            dsimp only at *
            obtain ⟨Av, cv, rfl⟩ := hO.slice
            obtain ⟨Ae, ce, rfl⟩ := hE.slice
            have hz := hF1.size
            have Hfp := hide hfp
            clear hfp
            rcases d with _ | d
            · have hm' : (el, ts) = remS had k lot n := hmo
              obtain ⟨nn, hnn⟩ : ∃ nn, nn = el.length := ⟨_, rfl⟩
              rw [← hnn] at hO ⊢
              have Hm := hide hm'
              clear hapo hape hmo hm'
              go_wp2
              go_ret
              refine ⟨_, vt, fp, rfl, ?_, hG, ?_, fun b hb => by have := Hfp.out b hb; omega, hF0.transOn hF1 (fun b hb h => by omega)⟩
              · rw [← Hm.out]; exact hO.mono (by omega)
              · rw [← Hm.out]; exact hT.mono (by omega)
            · have hlt : (el.length : Int) < (n : Int) := by omega
              simp only [moreS] at hmo
              by_cases he : eg.length = 0
              · have f1 : ((eg.length : Int) == 0) = true := by simp [he]
                rw [if_pos he] at hmo
                have Hapo0 := hide hapo
                clear hapo hape
                go_wp2_with fail
                refine (pall_any k wz (by omega)).mono ?_
                rintro e w1 ⟨va, rfl, hA1, hb1⟩
                have hE0 : w4.heap.size ≤ wz.heap.size := by omega
                have hOlt : ∀ b, (Value.slice Av el.length cv).ownBlock = some b → b < wz.heap.size := fun b hb => (hO.own_lt hb).2
                clear hE hsub he f1
                obtain ⟨Ae, ce, rfl⟩ := hA1.slice
                obtain ⟨E, hEd⟩ : ∃ E, E = rangeI k := ⟨_, rfl⟩
                rw [← hEd] at hA1 hmo ⊢
                have hE1 := hA1.mono hE0
                have hO1 := hO.below hb1
                have hG1 := hG.below hb1 hG.lt
                have hT1 := hT.below hb1
                replace hF1 := hF1.trans (Frame'.of_below hb1)
                have hEs : E.Sublist (rangeI k) := by rw [hEd]; exact List.Sublist.refl _
                have hEne : E ≠ [] := by rw [hEd]; intro e; have := congrArg List.length e; rw [length_rangeI] at this; simp at this; omega
                have Hapo : Hid (∀ b, (Value.slice Av el.length cv).ownBlock = some b → ¬ fp b ∧ vt.ownBlock ≠ some b ∧ (Value.slice Ae E.length ce).ownBlock ≠ some b) := fun b hb => ⟨(Hapo0.out b hb).1, (Hapo0.out b hb).2.1, fun h => by have := (hA1.own_lt h).1; have := hOlt b hb; omega⟩
                have Hape : Hid (∀ b, (Value.slice Ae E.length ce).ownBlock = some b → ¬ fp b ∧ vt.ownBlock ≠ some b) := fun b hb => ⟨fun h => by have := (hA1.own_lt hb).1; have := hT.fp_lt h; omega, fun h => by have := (hA1.own_lt hb).1; have := (hT.lt h).2; omega⟩
                clear hO hG hT hA1 hEd Hapo0 hOlt
                have hNr := hF1.has hNE (show ¬ (w.heap.size + 1 = g ∨ w4.heap.size ≤ w.heap.size + 1) by omega)
                have hRr := hRE.frame hF1 (fun _ => ⟨w.heap.size, 0, rfl, by omega⟩)
                have hLr := hLE.frame hF1 (fun hn => by
                  obtain ⟨b, off, _, e, _⟩ := hL.step hn
                  have h1 := HLg.out b ⟨hn, off, e⟩
                  have h2 := hLl.out b ⟨hn, off, e⟩
                  exact ⟨b, off, e, by omega⟩)
                have hEr : ∀ x ∈ E, 0 ≤ x ∧ x < (k : Int) := fun x hx => mem_rangeI.1 (hEs.subset hx)
                have hEl : E.length ≤ k := by have := hEs.length_le; rwa [length_rangeI] at this
                have hER := hE1.ints (fun y hy => by have := hEr y hy; omega)
                have hbt := bestI_at 100 96 egK egC (fun x => .int .i64 (restS had n x)) (leR had n) (pre_leR had n) #[.pointer (some ⟨w.heap.size + 1, 0, none⟩)] #[] Ae E.length ce E w1 hER (by omega)
                  (fun W hbW x hx => (keyR_any (w.heap.size + 1) (some ⟨w.heap.size, 0, none⟩) k k (restT had n k k) x W (hEr x hx) ((hNr.below hbW hNr.lt).cell 0) (hRr.below hbW)).mono fun e w' ⟨he, hw⟩ => ⟨by rw [he, getI_restT (hEr x hx)], by rw [← hw]; exact Below.refl _ _⟩)
                  (fun W hbW x hx y hy => (compare_any (restS had n x) (restS had n y) W).mono fun e w' ⟨he, hw⟩ => ⟨by rw [he, cmp_two (le := leR had n) rfl rfl], by rw [← hw]; exact Below.refl _ _⟩)
                rw [best_leR] at hbt
                go_wp2_with fail
                refine hbt.mono ?_
                rintro e w2 ⟨vb, rfl, hT2, hb2⟩
                clear hbt
                obtain ⟨Ab, cb, rfl⟩ := hT2.slice
                have hbsub : (bestS (restS had n) E).Sublist (rangeI k) := (bestS_sub _ _).trans hEs
                have hbr : ∀ x ∈ bestS (restS had n) E, 0 ≤ x ∧ x < (k : Int) := fun x hx => mem_rangeI.1 (hbsub.subset hx)
                have hRb := hT2.ints (fun y hy => by have := hbr y hy; omega)
                have hbl1 : (bestS (restS had n) E).length ≤ k := by have := hbsub.length_le; rwa [length_rangeI] at this
                have hb0 := List.length_pos_iff.2 (bestS_ne (f := restS had n) hEne)
                have hxr := hbr _ (frst_mem (lot := lot) (bestS_ne (f := restS had n) hEne) fun x hx => Hla.out x (hbr x hx).1 (hbr x hx).2)
                have hz1 := hF1.size
                have hz2 := hb2.size
                have hvtlt : ∀ b, vt.ownBlock = some b → w4.heap.size ≤ b ∧ b < w1.heap.size := fun b hb => hT1.lt hb
                have hfi := first20_any g w4.heap.size x0 x1 vt Al nl cl lot fp ts Ab _ cb (bestS (restS had n) E) w2 (hG1.below hb2 hG1.lt) (by omega) (hT1.below hb2) (fun h => by have := Hfp.out g h; omega) (fun h => by have := (hvtlt g h).1; omega) (hLr.below hb2) hnl hRb (by omega) hb0 ((le_rangeI20 k).sublist hbsub) (fun x hx => Hla.out x (hbr x hx).1 (hbr x hx).2) (by omega)
                have Hbr := hide hbr
                clear hbr hEr
                go_wp2_with fail
                refine hfi.mono ?_
                rintro e w3 ⟨rfl, vt', fp', hG3, hT3, hfp3, hvt3, hF3⟩
                clear hfi
                have Hmo := hide hmo
                clear hmo
                obtain ⟨X, hX⟩ : ∃ X : Nat, frstS lot (bestS (restS had n) E) = X := ⟨(frstS lot (bestS (restS had n) E)).toNat, by omega⟩
                rw [hX] at hxr Hmo hT3 ⊢
                have hE1lt : ∀ b, (Value.slice Ae E.length ce).ownBlock = some b → w4.heap.size ≤ b ∧ b < w1.heap.size := fun b hb => hE1.own_lt hb
                have hO1lt : ∀ b, (Value.slice Av el.length cv).ownBlock = some b → w4.heap.size ≤ b ∧ b < w1.heap.size := fun b hb => hO1.own_lt hb
                have hO3 := (hO1.below hb2).frame hF3 (fun b hb h => by
                  have h1 := (hO1lt b hb).1
                  rcases h with h | h
                  · omega
                  · exact (Hapo.out b hb).2.1 h)
                have hE3 := (hE1.below hb2).frame hF3 (fun b hb h => by
                  have h1 := (hE1lt b hb).1
                  rcases h with h | h
                  · omega
                  · exact (Hape.out b hb).2 h)
                have hfp3' : ∀ b, fp' b → w4.heap.size ≤ b := fun b hb => (hfp3 b hb).elim (Hfp.out b) fun h => by omega
                have hold : ∀ b, b < w1.heap.size → ¬ fp b → vt.ownBlock ≠ some b → ¬ fp' b ∧ vt'.ownBlock ≠ some b := fun b h1 h2 h3 => by
                  refine ⟨fun h => ?_, fun h => ?_⟩
                  · rcases hfp3 b h with h | h
                    · exact h2 h
                    · omega
                  · rcases hvt3 with e | ⟨b', e, hb'⟩
                    · rw [e] at h; exact h3 h
                    · rw [e] at h; have := Option.some.inj h; omega
                have hF03 : Frame' (fun b => b = g ∨ w4.heap.size ≤ b) wE w3 := (hF1.trans (Frame'.of_below hb2)).transOn hF3 (fun b hb h => by
                  rcases h with h | h
                  · exact .inl h
                  · exact .inr (hvtlt b h).1)
                have hz3 := hF3.size
                have hb5 : Below w3.heap.size w3 (w3.alloc (.cells #[.int .i64 (X : Int)] 3)) := below_allocN
                have hx5 := Has.new w3 3 #[.int .i64 (X : Int)]
                go_upto_region 20 with fail
                generalize World.alloc w3 _ = w5 at hb5 hx5 ⊢
                have hz5 := hb5.size
                have hx5lt := hx5.lt
                obtain ⟨u', w6, k1, k2, k3, k4⟩ := (hO3.below hb5).app20 (X : Int) (by unfold I64; omega) (by omega) (by omega) 25
                have c0 := hx5.cell 0
                go_wp2_with (at_builtin; refine list_app rfl rfl rfl rfl k1 ?_)
                clear k1 c0
                have hx6 := k4.has hx5 (fun h => by have := (hO1lt _ h).2; omega)
                have hE6 := (hE3.below hb5).frame k4 (fun b hb h => (Hapo.out b h).2.2 hb)
                have hG6 := k4.has (hG3.below hb5 hG3.lt) (fun h => by have := (hO1lt _ h).1; omega)
                have hT6 := (hT3.below hb5).frame k4 (fun b hb h => (hold b (hO1lt b h).2 (Hapo.out b h).1 (Hapo.out b h).2.1).1 hb) (fun b hb h => (hold b (hO1lt b h).2 (Hapo.out b h).1 (Hapo.out b h).2.1).2 hb)
                have hF6 : Frame' (fun b => b = g ∨ w4.heap.size ≤ b) wE w6 := (hF03.trans (Frame'.of_below hb5)).transOn k4 (fun b hb h => .inr (hO1lt b h).1)
                have hz6 := k4.size
                have hdl := deleteFunc_at 102 egD (fun y => decide (y = (X : Int))) #[.pointer (some ⟨w3.heap.size, 0, none⟩)] w4.heap.size Ae E.length ce E w6 hE6 (fun y hy => by have := mem_rangeI.1 (hEs.subset hy); omega)
                  (fun W hW y => (delR_any w3.heap.size (X : Int) y W ((hW.has hx6 (fun h => by have := (hE1lt _ h.symm).2; omega)).cell 0)).mono fun e w' ⟨he, hw⟩ => ⟨he, by rw [← hw]; exact Below.refl _ _⟩)
                obtain ⟨Au, cu, hu'⟩ := k2.slice
                rw [List.length_append, List.length_singleton] at hu'
                subst hu'
                go_wp2_with fail
                refine hdl.mono ?_
                rintro e w7 ⟨A7, n7, c7, rfl, hE7, hown7, hF7⟩
                clear hdl
                have hu3 : ∀ b, (Value.slice Au (el.length + 1) cu).ownBlock = some b → (¬ fp' b ∧ vt'.ownBlock ≠ some b) ∧ (Value.slice Ae E.length ce).ownBlock ≠ some b := fun b hb => by
                  rcases k3 with e | ⟨b', e, hb'⟩
                  · rw [e] at hb
                    have h1 := Hapo.out b hb
                    exact ⟨hold b (hO1lt b hb).2 h1.1 h1.2.1, h1.2.2⟩
                  · rw [e] at hb
                    obtain rfl : b' = b := Option.some.inj hb
                    have h5 := (hT3.below hb5)
                    exact ⟨⟨fun h => by have := h5.fp_lt h; omega, fun h => by have := (h5.lt h).2; omega⟩, fun h => by have := (hE1lt _ h).2; omega⟩
                have hO7 := k2.frame hF7 (fun b hb h => (hu3 b hb).2 h.symm)
                have hG7 := hF7.has hG6 (fun h => by have := (hE1lt _ h.symm).1; omega)
                have hEo : ∀ b, (Value.slice Ae E.length ce).ownBlock = some b → ¬ fp' b ∧ vt'.ownBlock ≠ some b := fun b hb => hold b (hE1lt b hb).2 (Hape.out b hb).1 (Hape.out b hb).2
                have hT7 := hT6.frame hF7 (fun b hb h => (hEo b h.symm).1 hb) (fun b hb h => (hEo b h.symm).2 hb)
                have hF7' : Frame' (fun b => b = g ∨ w4.heap.size ≤ b) wE w7 := hF6.transOn hF7 (fun b hb h => .inr (hE1lt b h.symm).1)
                go_wp2
                go_roundw
                case rel =>
                  refine ⟨d, outS E (X : Int), (el ++ [(X : Int)], tiedS ts (bestS (restS had n) E) (X : Int)), ?_, ?_, Hmo.out, (outS_sub _ _).trans hEs, vt', fp', hO7, hE7, hG7, hT7, hfp3', fun b hb => ⟨(hu3 b hb).1.1, (hu3 b hb).1.2, by rw [hown7]; exact (hu3 b hb).2⟩, fun b hb => by rw [hown7] at hb; exact hEo b hb, hF7'⟩
                  · dsimp only; rw [List.length_append, List.length_singleton]; omega
                  · have := tied_len ts (bestS (restS had n) E) (X : Int)
                    dsimp only; omega
                case measure => simp [lenV] <;> omega
              · have f1 : ((eg.length : Int) == 0) = false := by simp only [beq_eq_false_iff_ne, ne_eq]; omega
                rw [if_neg he] at hmo
                obtain ⟨w1, rfl⟩ : ∃ w1 : World, w1 = wz := ⟨_, rfl⟩
                obtain ⟨E, rfl⟩ : ∃ E, E = eg := ⟨_, rfl⟩
                have hE1 := hE
                have hO1 := hO
                have hG1 := hG
                have hT1 := hT
                have hEs := hsub
                have hEne : E ≠ [] := fun e => he (by rw [e]; rfl)
                have Hapo := hide hapo
                have Hape := hide hape
                clear hO hG hT hE hsub hapo hape he
                have hNr := hF1.has hNE (show ¬ (w.heap.size + 1 = g ∨ w4.heap.size ≤ w.heap.size + 1) by omega)
                have hRr := hRE.frame hF1 (fun _ => ⟨w.heap.size, 0, rfl, by omega⟩)
                have hLr := hLE.frame hF1 (fun hn => by
                  obtain ⟨b, off, _, e, _⟩ := hL.step hn
                  have h1 := HLg.out b ⟨hn, off, e⟩
                  have h2 := hLl.out b ⟨hn, off, e⟩
                  exact ⟨b, off, e, by omega⟩)
                have hEr : ∀ x ∈ E, 0 ≤ x ∧ x < (k : Int) := fun x hx => mem_rangeI.1 (hEs.subset hx)
                have hEl : E.length ≤ k := by have := hEs.length_le; rwa [length_rangeI] at this
                have hER := hE1.ints (fun y hy => by have := hEr y hy; omega)
                have hbt := bestI_at 100 96 egK egC (fun x => .int .i64 (restS had n x)) (leR had n) (pre_leR had n) #[.pointer (some ⟨w.heap.size + 1, 0, none⟩)] #[] Ae E.length ce E w1 hER (by omega)
                  (fun W hbW x hx => (keyR_any (w.heap.size + 1) (some ⟨w.heap.size, 0, none⟩) k k (restT had n k k) x W (hEr x hx) ((hNr.below hbW hNr.lt).cell 0) (hRr.below hbW)).mono fun e w' ⟨he, hw⟩ => ⟨by rw [he, getI_restT (hEr x hx)], by rw [← hw]; exact Below.refl _ _⟩)
                  (fun W hbW x hx y hy => (compare_any (restS had n x) (restS had n y) W).mono fun e w' ⟨he, hw⟩ => ⟨by rw [he, cmp_two (le := leR had n) rfl rfl], by rw [← hw]; exact Below.refl _ _⟩)
                rw [best_leR] at hbt
                go_wp2_with fail
                refine hbt.mono ?_
                rintro e w2 ⟨vb, rfl, hT2, hb2⟩
                clear hbt
                obtain ⟨Ab, cb, rfl⟩ := hT2.slice
                have hbsub : (bestS (restS had n) E).Sublist (rangeI k) := (bestS_sub _ _).trans hEs
                have hbr : ∀ x ∈ bestS (restS had n) E, 0 ≤ x ∧ x < (k : Int) := fun x hx => mem_rangeI.1 (hbsub.subset hx)
                have hRb := hT2.ints (fun y hy => by have := hbr y hy; omega)
                have hbl1 : (bestS (restS had n) E).length ≤ k := by have := hbsub.length_le; rwa [length_rangeI] at this
                have hb0 := List.length_pos_iff.2 (bestS_ne (f := restS had n) hEne)
                have hxr := hbr _ (frst_mem (lot := lot) (bestS_ne (f := restS had n) hEne) fun x hx => Hla.out x (hbr x hx).1 (hbr x hx).2)
                have hz1 := hF1.size
                have hz2 := hb2.size
                have hvtlt : ∀ b, vt.ownBlock = some b → w4.heap.size ≤ b ∧ b < w1.heap.size := fun b hb => hT1.lt hb
                have hfi := first20_any g w4.heap.size x0 x1 vt Al nl cl lot fp ts Ab _ cb (bestS (restS had n) E) w2 (hG1.below hb2 hG1.lt) (by omega) (hT1.below hb2) (fun h => by have := Hfp.out g h; omega) (fun h => by have := (hvtlt g h).1; omega) (hLr.below hb2) hnl hRb (by omega) hb0 ((le_rangeI20 k).sublist hbsub) (fun x hx => Hla.out x (hbr x hx).1 (hbr x hx).2) (by omega)
                have Hbr := hide hbr
                clear hbr hEr
                go_wp2_with fail
                refine hfi.mono ?_
                rintro e w3 ⟨rfl, vt', fp', hG3, hT3, hfp3, hvt3, hF3⟩
                clear hfi
                have Hmo := hide hmo
                clear hmo
                obtain ⟨X, hX⟩ : ∃ X : Nat, frstS lot (bestS (restS had n) E) = X := ⟨(frstS lot (bestS (restS had n) E)).toNat, by omega⟩
                rw [hX] at hxr Hmo hT3 ⊢
                have hE1lt : ∀ b, (Value.slice Ae E.length ce).ownBlock = some b → w4.heap.size ≤ b ∧ b < w1.heap.size := fun b hb => hE1.own_lt hb
                have hO1lt : ∀ b, (Value.slice Av el.length cv).ownBlock = some b → w4.heap.size ≤ b ∧ b < w1.heap.size := fun b hb => hO1.own_lt hb
                have hO3 := (hO1.below hb2).frame hF3 (fun b hb h => by
                  have h1 := (hO1lt b hb).1
                  rcases h with h | h
                  · omega
                  · exact (Hapo.out b hb).2.1 h)
                have hE3 := (hE1.below hb2).frame hF3 (fun b hb h => by
                  have h1 := (hE1lt b hb).1
                  rcases h with h | h
                  · omega
                  · exact (Hape.out b hb).2 h)
                have hfp3' : ∀ b, fp' b → w4.heap.size ≤ b := fun b hb => (hfp3 b hb).elim (Hfp.out b) fun h => by omega
                have hold : ∀ b, b < w1.heap.size → ¬ fp b → vt.ownBlock ≠ some b → ¬ fp' b ∧ vt'.ownBlock ≠ some b := fun b h1 h2 h3 => by
                  refine ⟨fun h => ?_, fun h => ?_⟩
                  · rcases hfp3 b h with h | h
                    · exact h2 h
                    · omega
                  · rcases hvt3 with e | ⟨b', e, hb'⟩
                    · rw [e] at h; exact h3 h
                    · rw [e] at h; have := Option.some.inj h; omega
                have hF03 : Frame' (fun b => b = g ∨ w4.heap.size ≤ b) wE w3 := (hF1.trans (Frame'.of_below hb2)).transOn hF3 (fun b hb h => by
                  rcases h with h | h
                  · exact .inl h
                  · exact .inr (hvtlt b h).1)
                have hz3 := hF3.size
                have hb5 : Below w3.heap.size w3 (w3.alloc (.cells #[.int .i64 (X : Int)] 3)) := below_allocN
                have hx5 := Has.new w3 3 #[.int .i64 (X : Int)]
                go_upto_region 20 with fail
                generalize World.alloc w3 _ = w5 at hb5 hx5 ⊢
                have hz5 := hb5.size
                have hx5lt := hx5.lt
                obtain ⟨u', w6, k1, k2, k3, k4⟩ := (hO3.below hb5).app20 (X : Int) (by unfold I64; omega) (by omega) (by omega) 25
                have c0 := hx5.cell 0
                go_wp2_with (at_builtin; refine list_app rfl rfl rfl rfl k1 ?_)
                clear k1 c0
                have hx6 := k4.has hx5 (fun h => by have := (hO1lt _ h).2; omega)
                have hE6 := (hE3.below hb5).frame k4 (fun b hb h => (Hapo.out b h).2.2 hb)
                have hG6 := k4.has (hG3.below hb5 hG3.lt) (fun h => by have := (hO1lt _ h).1; omega)
                have hT6 := (hT3.below hb5).frame k4 (fun b hb h => (hold b (hO1lt b h).2 (Hapo.out b h).1 (Hapo.out b h).2.1).1 hb) (fun b hb h => (hold b (hO1lt b h).2 (Hapo.out b h).1 (Hapo.out b h).2.1).2 hb)
                have hF6 : Frame' (fun b => b = g ∨ w4.heap.size ≤ b) wE w6 := (hF03.trans (Frame'.of_below hb5)).transOn k4 (fun b hb h => .inr (hO1lt b h).1)
                have hz6 := k4.size
                have hdl := deleteFunc_at 102 egD (fun y => decide (y = (X : Int))) #[.pointer (some ⟨w3.heap.size, 0, none⟩)] w4.heap.size Ae E.length ce E w6 hE6 (fun y hy => by have := mem_rangeI.1 (hEs.subset hy); omega)
                  (fun W hW y => (delR_any w3.heap.size (X : Int) y W ((hW.has hx6 (fun h => by have := (hE1lt _ h.symm).2; omega)).cell 0)).mono fun e w' ⟨he, hw⟩ => ⟨he, by rw [← hw]; exact Below.refl _ _⟩)
                obtain ⟨Au, cu, hu'⟩ := k2.slice
                rw [List.length_append, List.length_singleton] at hu'
                subst hu'
                go_wp2_with fail
                refine hdl.mono ?_
                rintro e w7 ⟨A7, n7, c7, rfl, hE7, hown7, hF7⟩
                clear hdl
                have hu3 : ∀ b, (Value.slice Au (el.length + 1) cu).ownBlock = some b → (¬ fp' b ∧ vt'.ownBlock ≠ some b) ∧ (Value.slice Ae E.length ce).ownBlock ≠ some b := fun b hb => by
                  rcases k3 with e | ⟨b', e, hb'⟩
                  · rw [e] at hb
                    have h1 := Hapo.out b hb
                    exact ⟨hold b (hO1lt b hb).2 h1.1 h1.2.1, h1.2.2⟩
                  · rw [e] at hb
                    obtain rfl : b' = b := Option.some.inj hb
                    have h5 := (hT3.below hb5)
                    exact ⟨⟨fun h => by have := h5.fp_lt h; omega, fun h => by have := (h5.lt h).2; omega⟩, fun h => by have := (hE1lt _ h).2; omega⟩
                have hO7 := k2.frame hF7 (fun b hb h => (hu3 b hb).2 h.symm)
                have hG7 := hF7.has hG6 (fun h => by have := (hE1lt _ h.symm).1; omega)
                have hEo : ∀ b, (Value.slice Ae E.length ce).ownBlock = some b → ¬ fp' b ∧ vt'.ownBlock ≠ some b := fun b hb => hold b (hE1lt b hb).2 (Hape.out b hb).1 (Hape.out b hb).2
                have hT7 := hT6.frame hF7 (fun b hb h => (hEo b h.symm).1 hb) (fun b hb h => (hEo b h.symm).2 hb)
                have hF7' : Frame' (fun b => b = g ∨ w4.heap.size ≤ b) wE w7 := hF6.transOn hF7 (fun b hb h => .inr (hE1lt b h.symm).1)
                go_wp2
                go_roundw
                case rel =>
                  refine ⟨d, outS E (X : Int), (el ++ [(X : Int)], tiedS ts (bestS (restS had n) E) (X : Int)), ?_, ?_, Hmo.out, (outS_sub _ _).trans hEs, vt', fp', hO7, hE7, hG7, hT7, hfp3', fun b hb => ⟨(hu3 b hb).1.1, (hu3 b hb).1.2, by rw [hown7]; exact (hu3 b hb).2⟩, fun b hb => by rw [hown7] at hb; exact hEo b hb, hF7'⟩
                  · dsimp only; rw [List.length_append, List.length_singleton]; omega
                  · have := tied_len ts (bestS (restS had n) E) (X : Int)
                    dsimp only; omega
                case measure => simp [lenV] <;> omega
end Go.Proofs.YtiebfalodelclaaGreat
