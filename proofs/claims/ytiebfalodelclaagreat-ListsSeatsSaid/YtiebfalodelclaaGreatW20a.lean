/-
  Seats for lists: the library's Repeat of one number; the votes of the parties; the greatest by a key.
-/
import Derived.Test.YtiebfalodelclaaGreatW15e
import Derived.Test.YtiebfalodelclaaGreatSpecLs
namespace Go.Proofs.YtiebfalodelclaaGreat
open Go.RowKit Go.Proofs Go.Shelf
attribute [local go_sem] cell?_more cell?_alloc_some cell?_setCell_far frozen?_alloc_some frozen?_more
set_option maxRecDepth 100000 in
theorem mul64_one (k : Nat) (hk : k ≤ 10) (w : World) : Calls Tryz.prog 151 #[.int .u64 1, .int .u64 k] w fun e w' => e = .returned (.tuple #[.int .u64 0, .int .u64 k]) ∧ w = w' := by
  obtain rfl | rfl | rfl | rfl | rfl | rfl | rfl | rfl | rfl | rfl | rfl : k = 0 ∨ k = 1 ∨ k = 2 ∨ k = 3 ∨ k = 4 ∨ k = 5 ∨ k = 6 ∨ k = 7 ∨ k = 8 ∨ k = 9 ∨ k = 10 := by omega
  all_goals
    go_enter Tryz.func151, Tryz.ntmps151
    go_wp2
    go_ret2
    exact ⟨rfl, rfl⟩
theorem mul_one' (k : Nat) (hk : k ≤ 10) (w : World) : Calls Tryz.prog 126 #[.int .u64 1, .int .u64 k] w fun e w' => e = .returned (.tuple #[.int .u64 0, .int .u64 k]) ∧ w = w' := by
  have hcall := mul64_one k hk w
  go_enter Tryz.func126, Tryz.ntmps126
  go_wp2_with fail
  refine hcall.mono ?_
  rintro e w' ⟨rfl, rfl⟩
  go_wp2
  go_ret2
  exact ⟨rfl, rfl⟩

/-- copy at elements of one cell. -/
theorem run_copy1 (w : World) (ty : TypeId) (g off dLen dCap : Nat) (ad : Addr) (sLen sCap : Nat) (cur : Array Value) (t : TypeId) (cs : List Value) (hg : Has w g t cur) (hn : cs.length = Nat.min sLen dLen)
    (hsrc : ∀ j v, cs[j]? = some v → w.cell? (ad.add j) = some v) (hfit : off + cs.length ≤ cur.size) (h1 : ∀ v ∈ cs, v.oneCell' = true) :
    (Builtin.copy_ #[25, 25] ty #[.slice (some ⟨g, off, none⟩) dLen dCap, .slice (some ad) sLen sCap]).run Tryz.prog w = .ok (goInt (Nat.min sLen dLen)) (w.setRow g (splice cur.toList off cs).toArray) := by
  have hl := run_loadCells_list (P := Tryz.prog) w ad cs hsrc
  have hst := run_storeCells_at Tryz.prog g off t cs 0 cur w hg (by simpa using hfit) h1
  obtain ⟨i0, hi, _, hz1, _⟩ := info_parts info3
  rw [hn] at hl
  unfold splice
  simp [Builtin.copy_, run_underlying Tryz.underlying25, Builtin.lenOf, Builtin.firstCells, sizeOf, typeInfo, hi, hz1, hl, hst, List.append_assoc]
/-- The first m of k are x, the others zero. -/
def rcells (x : Int) (m k : Nat) : List Value := List.replicate m (.int .i64 x) ++ List.replicate (k - m) (.int .i64 0)
theorem length_rcells {x : Int} {m k : Nat} (h : m ≤ k) : (rcells x m k).length = k := by simp [rcells]; omega
theorem splice_rcells {x : Int} {m j k : Nat} (h : m + j ≤ k) : splice (rcells x m k) m (List.replicate j (.int .i64 x)) = rcells x (m + j) k := by
  unfold splice rcells
  rw [List.take_left' (by simp), List.length_replicate, ← List.replicate_append_replicate, List.append_assoc]
  congr 2
  rw [List.drop_append, List.drop_eq_nil_of_le (by simp), List.nil_append, List.drop_replicate, List.length_replicate]
  congr 1
  omega
theorem copyR (w : World) (ty : TypeId) (g k m j dCap sLen sCap : Nat) (x : Int) (ad : Addr) (hg : Has w g 3 (rcells x m k).toArray) (hm : m + j ≤ k) (hj : Nat.min sLen (k - m) = j) (hsrc : ∀ i, i < j → w.cell? (ad.add i) = some (.int .i64 x)) :
    (Builtin.copy_ #[25, 25] ty #[.slice (some ⟨g, m, none⟩) (k - m) dCap, .slice (some ad) sLen sCap]).run Tryz.prog w = .ok (.int .i64 j) (w.setRow g (rcells x (m + j) k).toArray) := by
  have h := run_copy1 w ty g m (k - m) dCap ad sLen sCap (rcells x m k).toArray 3 (List.replicate j (.int .i64 x)) hg (by rw [List.length_replicate, hj]) (fun i v hi => by
      rw [List.getElem?_replicate] at hi
      split at hi
      · rename_i hlt; cases hi; exact hsrc i hlt
      · cases hi) (by rw [List.length_replicate, List.size_toArray, length_rcells (by omega)]; exact hm) (fun v hv => by rw [List.eq_of_mem_replicate hv]; rfl)
  rw [hj] at h
  rw [show ((rcells x m k).toArray.toList) = rcells x m k from rfl, splice_rcells hm] at h
  exact h
theorem alt_any (w w' : World) : ∃ q, w' = Alt w [] q := ⟨some w', by unfold Alt; simp⟩
/-- What Repeat hands back: k times x in a new block. -/
def RepPost (w : World) (x : Int) (k : Nat) (e : Ending) (w' : World) : Prop :=
  ∃ g, e = .returned (.slice (some ⟨g, 0, none⟩) k k) ∧ RInts w' (some ⟨g, 0, none⟩) k k (List.replicate k x) ∧ Below w.heap.size w w'
set_option maxRecDepth 100000 in
set_option maxHeartbeats 1000000 in
theorem repeat_any (A : Option Addr) (c : Nat) (x : Int) (k : Nat) (w : World) (h : RInts w A 1 c [x]) (hk : k ≤ 10) :
    Calls Tryz.prog 98 #[.slice A 1 c, .int .i64 k] w (RepPost w x k) := by
  obtain ⟨b, off, v, rfl, hcx, _, hat, hx0, hx1⟩ := h.step (show 0 < 1 by omega)
  obtain rfl : x = v := by simpa using hat.out
  simp only [Nat.add_zero] at hcx
  have hmk := run_make_row' (P := Tryz.prog) 25 3 (.int .i64 0) 8 Tryz.underlying25 info3 rfl .i64 .i64 k (by omega) (by omega)
  have hcall := mul_one' k hk w
  have hbM : Below w.heap.size w (w.alloc (.cells (madeCells #[.int .i64 0] k) 3)) := below_allocN
  have hM : Has (w.alloc (.cells (madeCells #[.int .i64 0] k) 3)) w.heap.size 3 (rcells x 0 k).toArray := by
    have e : (rcells x 0 k).toArray = madeCells #[.int .i64 0] k := by
      rw [← Array.toList_inj, toList_madeCells_one]
      simp [rcells]
    rw [e]; exact Has.new _ _ _
  have hcM := keep_cell hbM hcx
  clear hat h
  go_enter Tryz.func98, Tryz.ntmps98
  go_wp2_with fail
  refine hcall.mono ?_
  rintro e w' ⟨rfl, rfl⟩
  go_upto_region 7 with fail
  generalize World.alloc w _ = W1 at hbM hM hcM ⊢
  clear hmk hcall
  obtain ⟨j0, hj0⟩ : ∃ j0 : Nat, j0 = Nat.min 1 (k - 0) := ⟨_, rfl⟩
  have hj1 : j0 ≤ k ∧ (k = 0 ∨ 0 < j0) ∧ j0 ≤ 1 := by
    have e : Nat.min 1 (k - 0) = min 1 k := rfl
    omega
  have hcp0 : ∀ ty dC sC, (Builtin.copy_ #[25, 25] ty #[.slice (some ⟨w.heap.size, 0, none⟩) k dC, .slice (some ⟨b, off, none⟩) 1 sC]).run Tryz.prog W1 = .ok (.int .i64 j0) (W1.setRow w.heap.size (rcells x j0 k).toArray) := fun ty dC sC => by
    have := copyR W1 ty w.heap.size k 0 j0 dC 1 sC x ⟨b, off, none⟩ hM (by omega) hj0.symm (fun i hi => by
      obtain rfl : i = 0 := by omega
      have e : (⟨b, off, none⟩ : Addr).add 0 = ⟨b, off, none⟩ := by unfold Addr.add; split <;> simp_all
      rw [e]; exact hcM)
    rwa [Nat.zero_add, Nat.sub_zero] at this
  have hM2 : Has (W1.setRow w.heap.size (rcells x j0 k).toArray) w.heap.size 3 (rcells x j0 k).toArray := hM.setRow _
  have hb2 : Below w.heap.size w (W1.setRow w.heap.size (rcells x j0 k).toArray) := below_setRow hbM (Nat.le_refl _) _
  obtain ⟨hj1, hj2, -⟩ := hj1
  clear hj0
  go_wp2_with (refine wpList_copy_eq rfl _ _ _ _ rfl _ _ rfl rfl (hcp0 _ _ _) ?_)
  clear hcp0
  generalize W1.setRow _ _ = W2 at hM2 hb2 ⊢
  clear hM hcM hbM
  go_loopw [8] (fun v wr => ∃ m : Nat, m ≤ k ∧ (k = 0 ∨ 0 < m) ∧ v = .int .i64 m ∧ Has wr w.heap.size 3 (rcells x m k).toArray ∧ Below w.heap.size w wr) (fun v _ => k - (intOf v).toNat)
  case atStart => exact ⟨j0, hj1, hj2, rfl, hM2, hb2⟩
  case round =>
    clear hM2 hb2 hj1 hj2
    obtain ⟨m, hm, hm0, rfl, hM, hb⟩ := hrel
    by_cases hlt : m < k
    · obtain ⟨j, hj⟩ : ∃ j : Nat, j = Nat.min m (k - m) := ⟨_, rfl⟩
      have hj1 : m + j ≤ k ∧ 0 < j := by
        have e : Nat.min m (k - m) = min m (k - m) := rfl
        omega
      have hcp : ∀ ty dC sC, (Builtin.copy_ #[25, 25] ty #[.slice (some ⟨w.heap.size, m, none⟩) (k - m) dC, .slice (some ⟨w.heap.size, 0, none⟩) m sC]).run Tryz.prog wr.drew = .ok (.int .i64 j) (wr.drew.setRow w.heap.size (rcells x (m + j) k).toArray) := fun ty dC sC => by
        refine copyR wr.drew ty w.heap.size k m j dC m sC x ⟨w.heap.size, 0, none⟩ hM (by omega) hj.symm fun i hi => ?_
        have hjm : j ≤ m := by have e : Nat.min m (k - m) = min m (k - m) := rfl; omega
        have e : (⟨w.heap.size, 0, none⟩ : Addr).add i = ⟨w.heap.size, i, none⟩ := by unfold Addr.add; split <;> simp_all
        rw [e]
        refine (hM.drew.cell i).trans ?_
        rw [List.getElem?_toArray]
        unfold rcells
        rw [List.getElem?_append_left (by simp; omega), List.getElem?_replicate, if_pos (by omega)]
      have hM3 : Has (wr.drew.setRow w.heap.size (rcells x (m + j) k).toArray) w.heap.size 3 (rcells x (m + j) k).toArray := Has.setRow (w := wr.drew) hM _
      have hb3 : Below w.heap.size w (wr.drew.setRow w.heap.size (rcells x (m + j) k).toArray) := below_setRow hb.drew (Nat.le_refl _) _
      clear hj
      have hkm : ¬ k = m := by omega
      go_upto_region 9 with fail
      refine wp_region_flow [0, 1, 2, 3, 4, 5, 6] (fun w' => ∃ q, w' = Alt wr [] q) (by kernel_rfl) (by kernel_rfl) (alt_any _ _) ?_
      simp only [pickOps, List.getElem?_cons_zero, List.getElem?_cons_succ]
      repeat (go_big_quiet_step (fail))
      refine wpQuiet_nil ?_
      refine flow_one 7 (by kernel_rfl) rfl ?_
      refine wpList_copy_eq rfl _ _ _ _ rfl _ _ rfl rfl (hcp _ _ _) ?_
      clear hcp
      generalize World.setRow _ _ _ = w5 at hM3 hb3 ⊢
      go_wp2
      refine FlowPost.mk ⟨alt_any _ _, ?_⟩
      refine flow_rest [8, 9] (by kernel_rfl) ?_
      simp only [pickOps, List.getElem?_cons_zero, List.getElem?_cons_succ]
      go_wp2
      go_roundw
      case rel => exact ⟨m + j, by omega, .inr (by omega), by go_num, hM3, hb3⟩
      case measure => simp [intOf] <;> omega
    · obtain rfl : m = k := by omega
      go_wp2
      go_ret
      refine ⟨_, rfl, ?_, hb⟩
      have e : (rcells x m m).toArray = icells (List.replicate m x) := by
        unfold rcells icells
        simp
      rw [e] at hM
      have := ints_lit (List.replicate m x) hM (by simp; omega) (fun z hz => by rw [List.eq_of_mem_replicate hz]; exact ⟨hx0, hx1⟩)
      rwa [List.length_replicate] at this

/-- The votes, and what is invalid. -/
def VotPost (w : World) (l : List Row) (C : Nat) (e : Ending) (w' : World) : Prop :=
  ∃ g, e = .returned (.tuple #[.slice (some ⟨g, 0, none⟩) C C, .int .i64 (losV l)]) ∧ Own w' w.heap.size (.slice (some ⟨g, 0, none⟩) C C) (votV l C) ∧ Below w.heap.size w w'
theorem votV_nil (C : Nat) : votV [] C = List.replicate C 0 := by
  refine List.ext_getElem? fun i => ?_
  by_cases hi : i < C
  · rw [get_votV _ hi, List.getElem?_replicate, if_pos hi]; rfl
  · rw [List.getElem?_eq_none (by rw [length_votV]; omega), List.getElem?_eq_none (by simp; omega)]
set_option maxRecDepth 100000 in
set_option maxHeartbeats 1000000 in
theorem votes_any (C : Nat) (k : Int) (A : Option Addr) (n cp : Nat) (l : List Row) (w : World) (h : RRows w A n cp l) (hm : MarkOK l C) :
    Calls Tryz.prog 88 #[.agg #[.int .i64 C, .int .u8 k, .slice A n cp]] w (VotPost w l C) := by
  have hl := hide h.len
  have hle := h.le
  have hroom := hide (fun t z => vot_room hm t z)
  have hone := hide hm.one
  have hC10 := hm.c10
  have hpos := hide hm.pos
  have hrm := hide hm
  clear hm
  have hb0 : Below w.heap.size w (w.alloc (.cells #[.int .i64 C, .int .u8 k, .slice A n cp] 24)) := (Below.refl _ _).alloc (Nat.le_refl _) _
  have hH0 := Has.new w 24 #[.int .i64 C, .int .u8 k, .slice A n cp]
  have hmk := run_make_row' (P := Tryz.prog) 25 3 (.int .i64 0) 8 Tryz.underlying25 info3 rfl .i64 .i64 C (by omega) (by omega)
  generalize hW : World.alloc w _ = W0 at hb0 hH0
  have hM := Own.made W0 w.heap.size C hb0.size (by omega)
  have hbM : Below W0.heap.size W0 (W0.alloc (.cells (madeCells #[.int .i64 0] C) 3)) := (Below.refl _ _).alloc (Nat.le_refl _) _
  have hH1 := hH0.below hbM hH0.lt
  have hb1 := Below_trans' hb0 hb0.size hbM
  have s0 := hH0.cell 0
  have s2 := hH1.cell 2
  have hg1 : w.heap.size < W0.heap.size := hH0.lt
  go_enter Tryz.func88, Tryz.ntmps88
  go_wp2
  try simp only [hW]
  clear hW s0 s2
  generalize hW1 : World.alloc W0 _ = W1 at hM hbM hH1 hb1 ⊢
  clear hW1
  generalize W0.heap.size = g at hM hbM hg1 ⊢
  go_loopw [3, 12] (fun lost i wr => ∃ t : Nat, t ≤ n ∧ i = .int .i64 t ∧ lost = .int .i64 (losV (l.take t)) ∧ Own wr w.heap.size (.slice (some ⟨g, 0, none⟩) C C) (votV (l.take t) C) ∧ Below w.heap.size w wr) (fun lost i _ => n - (intOf i).toNat)
  case atStart => exact ⟨0, Nat.zero_le _, rfl, rfl, by rw [List.take_zero, votV_nil]; exact hM, hb1⟩
  case round =>
    obtain ⟨t, ht, rfl, rfl, hO, hb⟩ := hrel
    have hz := hb.size
    by_cases hlt : t < n
    · obtain ⟨b, off, Am, nm, cm, ms, y, rfl, hc0, hRm, hc1, _, hat, hy0, hy1⟩ := (h.below hb).step hlt
      have hlen : (votV (l.take t) C).length = C := length_votV _ _
      have hba : Below wr.heap.size wr (wr.alloc (.cells #[.slice Am nm cm, .int .i64 y] 68)) := (Below.refl _ _).alloc (Nat.le_refl _) _
      have hHr := Has.new wr 68 #[.slice Am nm cm, .int .i64 y]
      have hgw : g < wr.heap.size := (Own.own_lt hO rfl).2
      have Hat := hide hat
      have hmt := hide (List.mem_of_getElem? hat.out)
      have hnm := hRm.len
      clear hat
      by_cases h1 : nm = 1
      · obtain ⟨v, hv⟩ : ∃ v, ms = [v] := List.length_eq_one_iff.1 (by omega)
        subst hv
        subst h1
        have hvr := hone.out _ hmt.out v rfl
        obtain ⟨X, rfl⟩ : ∃ X : Nat, v = (X : Int) := ⟨v.toNat, by omega⟩
        have hlm := hide (losV_hit Hat.out.out)
        have hhm := hide (votV_hit (C := C) Hat.out.out)
        have hro := hroom.out t (X : Int)
        have hro2 := hroom.out (t + 1) (X : Int)
        have hxs := hide (votX_one Hat.out.out (X : Int))
        rw [hxs.out, if_pos rfl] at hro2
        have hXg := hide (get_votV (l.take t) (show X < C by omega))
        go_upto_region 5 with fail
        generalize World.alloc wr _ = V at hba hHr ⊢
        have s0 := hHr.cell 0
        have s1 := hHr.cell 1
        have hRm1 := hRm.below hba
        obtain ⟨b3, off3, v3, rfl, hc3, _, hat3, _⟩ := hRm1.step (show 0 < 1 by omega)
        obtain rfl : (X : Int) = v3 := by simpa using hat3.out
        simp only [Nat.add_zero] at hc3
        have hO1 := hO.below hba
        obtain ⟨u, hu, hcu, hfu⟩ := hO1.at hlen (show X < C by omega)
        obtain rfl : votX (l.take t) (X : Int) = u := by have := hu.out; rw [hXg.out] at this; exact Option.some.inj this
        clear hat3 hu
        go_upto_region 6 with fail
        refine wp_region_more_tail 10 (by kernel_rfl) (by kernel_rfl) ?_
        simp only [List.take]
        repeat (go_big_quiet_step (fail))
        refine wpQuiet_nil ?_
        rintro w2 ⟨qq, hw2⟩
        have hb2 := below_of_eq hw2
        clear hw2 qq
        have hO2 := hO1.below hb2
        obtain ⟨u2, hu2, hcu2, hfu2⟩ := hO2.at hlen (show X < C by omega)
        have hbf := Below_trans' hb hz (Below_trans' hba hba.size hb2)
        clear hcu hfu s0 s1 hc3 hu2 hlen
        go_wp2
        go_roundw
        case rel => exact ⟨t + 1, by omega, by go_num, by rw [hlm.out], by rw [hhm.out]; exact hO2.set (length_votV _ _) X _, hbf.setCell (p := ⟨g, X, none⟩) (Nat.le_of_lt hg1) _⟩
        case measure => simp [intOf] <;> omega
      · have hne : ms.length ≠ 1 := by omega
        have hlm := hide (losV_miss Hat.out.out hne)
        have hhm := hide (votV_miss (C := C) Hat.out.out hne)
        have hro := hroom.out t 0
        have hro2 := hroom.out (t + 1) 0
        rw [hlm.out] at hro2
        have f1 : ((nm : Int) == 1) = false := by rw [beq_eq_false_iff_ne]; omega
        clear hne hnm
        go_upto_region 5 with fail
        generalize World.alloc wr _ = V at hba hHr ⊢
        have s0 := hHr.cell 0
        have s1 := hHr.cell 1
        go_wp2
        go_roundw
        case rel => exact ⟨t + 1, by omega, by go_num, by rw [hlm.out], by rw [hhm.out]; exact hO.below hba, Below_trans' hb hz hba⟩
        case measure => simp [intOf] <;> omega
    · have e : Hid (l.take t = l) := List.take_of_length_le (by rw [hl.out]; omega)
      rw [e.out] at hO ⊢
      go_wp2
      go_ret2
      exact ⟨_, rfl, hO, hb⟩

/-- The order as a number. -/
def cmpR (le : Int → Int → Bool) (x y : Int) : Int := if le x y = true then (if le y x = true then 0 else -1) else 1
section
variable (F G : FuncId) (eF : ∀ args w, (callFunc F args).run Tryz.prog w = .ok (.enter F args) w) (eG : ∀ args w, (callFunc G args).run Tryz.prog w = .ok (.enter G args) w) (K : Int → Value) (le : Int → Int → Bool) (hpre : Pre le) (lb lc : Array Value)
  (A : Option Addr) (n c : Nat) (among : List Int) (w : World) (h : RInts w A n c among) (hn : n ≤ 1000)
  (hk : ∀ W, Below w.heap.size w W → ∀ x, x ∈ among → Calls Tryz.prog F (#[.int .i64 x] ++ lb) W fun e w' => e = .returned (K x) ∧ Below W.heap.size W w')
  (hc : ∀ W, Below w.heap.size w W → ∀ x, x ∈ among → ∀ y, y ∈ among → Calls Tryz.prog G (#[K x, K y] ++ lc) W fun e w' => e = .returned (.int .i64 (cmpR le x y)) ∧ Below W.heap.size W w')
include eF eG hpre h hn hk hc
set_option maxRecDepth 100000 in
set_option maxHeartbeats 2000000 in
theorem bestQ_at : Calls Tryz.prog 92 #[.slice A n c, .func (.func F) #[] lb, .func (.func G) #[] lc] w (IPost w (bestR le among)) := by
  have hl := hide h.len
  have hle' := h.le
  have Hk := hide hk
  have Hc := hide hc
  have Hpre := hide hpre
  have Hbd := hide (fun x (hx : x ∈ among) => h.bd hx)
  clear hk hc hpre
  go_enter Tryz.func92, Tryz.ntmps92
  go_wp2
  go_loopw [6, 12] (fun v i wr => ∃ k : Nat, k ≤ n ∧ i = .int .i64 k ∧ Own wr w.heap.size v (bestR le (among.take k)) ∧ Below w.heap.size w wr) (fun v i _ => n - (intOf i).toNat)
  case atStart => exact ⟨0, Nat.zero_le _, rfl, Own.nil_ _ _, Below.refl _ _⟩
  case round =>
    obtain ⟨k, hk, rfl, hO, hb⟩ := hrel
    have hz := hb.size
    by_cases hlt : k < n
    · obtain ⟨b, off, x, rfl, hcx, _, hat, _⟩ := (h.below hb).step hlt
      have hx := hide (List.mem_of_getElem? hat.out)
      have htk : Hid (among.take (k + 1) = among.take k ++ [x]) := by unfold Hid; rw [List.take_add_one, hat.out]; rfl
      have hlk := hide (show (bestR le (among.take k)).length ≤ k from Nat.le_trans (bestR_sub le _).length_le (by rw [List.length_take]; omega))
      clear hat
      cases hbs : bestR le (among.take k) with
      | nil =>
        rw [hbs] at hO
        have hk0 : Hid (bestR le (among.take (k + 1)) = [x]) := by
          have : among.take k = [] := by
            rcases h0 : among.take k with _ | ⟨a, r⟩
            · rfl
            · exact absurd hbs (bestR_ne Hpre.out (by rw [h0]; simp))
          unfold Hid; rw [htk.out, this]; simp [bestR, Hpre.out.refl]
        obtain ⟨Av, cv, rfl⟩ := hO.slice
        have e0 : (([] : List Int).length) = 0 := rfl
        clear hbs hlk
        go_wp2_with (at_builtin; refine appInt rfl rfl rfl (Own.nil_ _ w.heap.size) rfl ((Has.new _ _ _).cell 0) (by simp) (by simp; omega) ?_)
        intro v' w' hO' hg
        go_wp2
        go_roundw
        case rel => exact ⟨k + 1, by omega, by go_num, by rw [hk0.out]; exact hO', (hb.alloc hz _).grown hg (by simp; omega) (fun j hj => by cases hj)⟩
        case measure => simp [intOf] <;> omega
      | cons o r =>
        rw [hbs] at hO
        have hbs' := hide hbs
        have ho := hide ((mem_bestR.1 (show o ∈ bestR le (among.take k) by rw [hbs]; simp)).1)
        have hoa : Hid (o ∈ among) := List.mem_of_mem_take ho.out
        have hrl : Hid ((o :: r).length ≤ 1000) := by unfold Hid; rw [← hbs]; have := hlk.out; omega
        have hRb := hide (fun y (hy : y ∈ o :: r) => Hbd.out y (List.mem_of_mem_take ((bestR_sub le _).subset (show y ∈ bestR le (among.take k) by rw [hbs]; exact hy))))
        obtain ⟨Av, cv, rfl⟩ := hO.slice
        have hR := hO.ints hRb.out
        obtain ⟨b3, off3, o', rfl, hc3, _, hat3, _⟩ := hR.step (show 0 < (o :: r).length by simp)
        obtain rfl : o = o' := by simpa using hat3.out
        simp only [Nat.add_zero] at hc3
        have hq1 : ∀ q, Calls Tryz.prog F (#[.int .i64 x] ++ lb) (More wr q) fun e w'' => e = .returned (K x) ∧ ∃ q', w'' = More wr q' := fun q => more_of (Hk.out (More wr q) (Below_trans' hb hz (more_below wr q)) x hx.out)
        have hq2 : ∀ q, Calls Tryz.prog F (#[.int .i64 o] ++ lb) (More wr q) fun e w'' => e = .returned (K o) ∧ ∃ q', w'' = More wr q' := fun q => more_of (Hk.out (More wr q) (Below_trans' hb hz (more_below wr q)) o hoa.out)
        have hq3 : ∀ q, Calls Tryz.prog G (#[K x, K o] ++ lc) (More wr q) fun e w'' => e = .returned (.int .i64 (cmpR le x o)) ∧ ∃ q', w'' = More wr q' := fun q => more_of (Hc.out (More wr q) (Below_trans' hb hz (more_below wr q)) x hx.out o hoa.out)
        have f2 : (0 : Int) < (((o :: r).length : Nat) : Int) := by simp only [List.length_cons]; omega
        generalize hL : (o :: r).length = L at hc3 f2 hrl hO hR ⊢
        have HL := hide hL
        clear hbs hat3 hlk hL hR
        cases hxo : le x o with
        | false =>
          have hcv : cmpR le x o = 1 := by unfold cmpR; rw [if_neg (by rw [hxo]; simp)]
          have hs := hide (bestR_more Hpre.out hbs'.out hxo)
          clear hxo
          rw [hcv] at hq3
          go_wp2
          refine wp_region_more (by kernel_rfl) (by kernel_rfl) ?_
          repeat (go_big_quiet_step (with_reducible first | exact hq1 _ | exact hq2 _ | exact hq3 _))
          refine wpQuiet_nil ?_
          rintro w5 ⟨q5, hw5⟩
          have hbw5 := below_of_eq hw5
          clear hw5 q5 hq1 hq2 hq3
          have hb5 := Below_trans' hb hz hbw5
          have hz5 := hb5.size
          have hO5 := hO.below hbw5
          go_wp2_with (at_builtin; refine appInt rfl rfl rfl (Own.nil_ _ w.heap.size) rfl ((Has.new _ _ _).cell 0) (by simp) (by simp; omega) ?_)
          intro v' w' hO' hg
          go_wp2
          go_roundw
          case rel => exact ⟨k + 1, by omega, by go_num, by rw [htk.out, hs.out]; exact hO', (hb5.alloc hz5 _).grown hg (by simp; omega) (fun j hj => by cases hj)⟩
          case measure => simp [intOf] <;> omega
        | true =>
          cases hox : le o x with
          | true =>
            have hcv : cmpR le x o = 0 := by unfold cmpR; rw [if_pos hxo, if_pos hox]
            have hs := hide (bestR_same Hpre.out hbs'.out hxo hox)
            clear hxo hox
            rw [hcv] at hq3
            go_wp2
            refine wp_region_more (by kernel_rfl) (by kernel_rfl) ?_
            repeat (go_big_quiet_step (with_reducible first | exact hq1 _ | exact hq2 _ | exact hq3 _))
            refine wpQuiet_nil ?_
            rintro w5 ⟨q5, hw5⟩
            have hbw5 := below_of_eq hw5
            clear hw5 q5 hq1 hq2 hq3
            have hb5 := Below_trans' hb hz hbw5
            have hz5 := hb5.size
            have hO5 := hO.below hbw5
            go_wp2_with (at_builtin; refine appInt rfl rfl rfl (hO5.below ((Below.refl _ _).alloc (Nat.le_refl _) _)) rfl ((Has.new _ _ _).cell 0) (by have h1 := hrl.out; have h2 := HL.out; omega) (by simp; omega) ?_)
            intro v' w' hO' hg
            go_wp2
            go_roundw
            case rel => exact ⟨k + 1, by omega, by go_num, by rw [htk.out, hs.out, hbs'.out]; exact hO', (hb5.alloc hz5 _).grown hg (by simp; omega) (fun j hj => (hO5.lt j hj).1)⟩
            case measure => simp [intOf] <;> omega
          | false =>
            have hcv : cmpR le x o = -1 := by unfold cmpR; rw [if_pos hxo, if_neg (by rw [hox]; simp)]
            have hs := hide (bestR_less Hpre.out (x := x) hbs'.out hox)
            clear hxo hox
            rw [hcv] at hq3
            go_wp2
            refine wp_region_more (by kernel_rfl) (by kernel_rfl) ?_
            repeat (go_big_quiet_step (with_reducible first | exact hq1 _ | exact hq2 _ | exact hq3 _))
            refine wpQuiet_nil ?_
            rintro w5 ⟨q5, hw5⟩
            have hbw5 := below_of_eq hw5
            clear hw5 q5 hq1 hq2 hq3
            have hb5 := Below_trans' hb hz hbw5
            have hz5 := hb5.size
            have hO5 := hO.below hbw5
            go_wp2
            go_roundw
            case rel => exact ⟨k + 1, by omega, by go_num, by rw [htk.out, hs.out, hbs'.out]; exact hO5, hb5⟩
            case measure => simp [intOf] <;> omega
    · have e : Hid (among.take k = among) := List.take_of_length_le (by rw [hl.out]; omega)
      rw [e.out] at hO
      go_wp2
      go_ret
      exact ⟨_, rfl, hO, hb⟩
set_option maxRecDepth 100000 in
set_option maxHeartbeats 2000000 in
theorem bestI_at : Calls Tryz.prog 99 #[.slice A n c, .func (.func F) #[] lb, .func (.func G) #[] lc] w (IPost w (bestR le among)) := by
  have hl := hide h.len
  have hle' := h.le
  have Hk := hide hk
  have Hc := hide hc
  have Hpre := hide hpre
  have Hbd := hide (fun x (hx : x ∈ among) => h.bd hx)
  clear hk hc hpre
  go_enter Tryz.func99, Tryz.ntmps99
  go_wp2
  go_loopw [6, 12] (fun v i wr => ∃ k : Nat, k ≤ n ∧ i = .int .i64 k ∧ Own wr w.heap.size v (bestR le (among.take k)) ∧ Below w.heap.size w wr) (fun v i _ => n - (intOf i).toNat)
  case atStart => exact ⟨0, Nat.zero_le _, rfl, Own.nil_ _ _, Below.refl _ _⟩
  case round =>
    obtain ⟨k, hk, rfl, hO, hb⟩ := hrel
    have hz := hb.size
    by_cases hlt : k < n
    · obtain ⟨b, off, x, rfl, hcx, _, hat, _⟩ := (h.below hb).step hlt
      have hx := hide (List.mem_of_getElem? hat.out)
      have htk : Hid (among.take (k + 1) = among.take k ++ [x]) := by unfold Hid; rw [List.take_add_one, hat.out]; rfl
      have hlk := hide (show (bestR le (among.take k)).length ≤ k from Nat.le_trans (bestR_sub le _).length_le (by rw [List.length_take]; omega))
      clear hat
      cases hbs : bestR le (among.take k) with
      | nil =>
        rw [hbs] at hO
        have hk0 : Hid (bestR le (among.take (k + 1)) = [x]) := by
          have : among.take k = [] := by
            rcases h0 : among.take k with _ | ⟨a, r⟩
            · rfl
            · exact absurd hbs (bestR_ne Hpre.out (by rw [h0]; simp))
          unfold Hid; rw [htk.out, this]; simp [bestR, Hpre.out.refl]
        obtain ⟨Av, cv, rfl⟩ := hO.slice
        have e0 : (([] : List Int).length) = 0 := rfl
        clear hbs hlk
        go_wp2_with (at_builtin; refine appInt rfl rfl rfl (Own.nil_ _ w.heap.size) rfl ((Has.new _ _ _).cell 0) (by simp) (by simp; omega) ?_)
        intro v' w' hO' hg
        go_wp2
        go_roundw
        case rel => exact ⟨k + 1, by omega, by go_num, by rw [hk0.out]; exact hO', (hb.alloc hz _).grown hg (by simp; omega) (fun j hj => by cases hj)⟩
        case measure => simp [intOf] <;> omega
      | cons o r =>
        rw [hbs] at hO
        have hbs' := hide hbs
        have ho := hide ((mem_bestR.1 (show o ∈ bestR le (among.take k) by rw [hbs]; simp)).1)
        have hoa : Hid (o ∈ among) := List.mem_of_mem_take ho.out
        have hrl : Hid ((o :: r).length ≤ 1000) := by unfold Hid; rw [← hbs]; have := hlk.out; omega
        have hRb := hide (fun y (hy : y ∈ o :: r) => Hbd.out y (List.mem_of_mem_take ((bestR_sub le _).subset (show y ∈ bestR le (among.take k) by rw [hbs]; exact hy))))
        obtain ⟨Av, cv, rfl⟩ := hO.slice
        have hR := hO.ints hRb.out
        obtain ⟨b3, off3, o', rfl, hc3, _, hat3, _⟩ := hR.step (show 0 < (o :: r).length by simp)
        obtain rfl : o = o' := by simpa using hat3.out
        simp only [Nat.add_zero] at hc3
        have hq1 : ∀ q, Calls Tryz.prog F (#[.int .i64 x] ++ lb) (More wr q) fun e w'' => e = .returned (K x) ∧ ∃ q', w'' = More wr q' := fun q => more_of (Hk.out (More wr q) (Below_trans' hb hz (more_below wr q)) x hx.out)
        have hq2 : ∀ q, Calls Tryz.prog F (#[.int .i64 o] ++ lb) (More wr q) fun e w'' => e = .returned (K o) ∧ ∃ q', w'' = More wr q' := fun q => more_of (Hk.out (More wr q) (Below_trans' hb hz (more_below wr q)) o hoa.out)
        have hq3 : ∀ q, Calls Tryz.prog G (#[K x, K o] ++ lc) (More wr q) fun e w'' => e = .returned (.int .i64 (cmpR le x o)) ∧ ∃ q', w'' = More wr q' := fun q => more_of (Hc.out (More wr q) (Below_trans' hb hz (more_below wr q)) x hx.out o hoa.out)
        have f2 : (0 : Int) < (((o :: r).length : Nat) : Int) := by simp only [List.length_cons]; omega
        generalize hL : (o :: r).length = L at hc3 f2 hrl hO hR ⊢
        have HL := hide hL
        clear hbs hat3 hlk hL hR
        cases hxo : le x o with
        | false =>
          have hcv : cmpR le x o = 1 := by unfold cmpR; rw [if_neg (by rw [hxo]; simp)]
          have hs := hide (bestR_more Hpre.out hbs'.out hxo)
          clear hxo
          rw [hcv] at hq3
          go_wp2
          refine wp_region_more (by kernel_rfl) (by kernel_rfl) ?_
          repeat (go_big_quiet_step (with_reducible first | exact hq1 _ | exact hq2 _ | exact hq3 _))
          refine wpQuiet_nil ?_
          rintro w5 ⟨q5, hw5⟩
          have hbw5 := below_of_eq hw5
          clear hw5 q5 hq1 hq2 hq3
          have hb5 := Below_trans' hb hz hbw5
          have hz5 := hb5.size
          have hO5 := hO.below hbw5
          go_wp2_with (at_builtin; refine appInt rfl rfl rfl (Own.nil_ _ w.heap.size) rfl ((Has.new _ _ _).cell 0) (by simp) (by simp; omega) ?_)
          intro v' w' hO' hg
          go_wp2
          go_roundw
          case rel => exact ⟨k + 1, by omega, by go_num, by rw [htk.out, hs.out]; exact hO', (hb5.alloc hz5 _).grown hg (by simp; omega) (fun j hj => by cases hj)⟩
          case measure => simp [intOf] <;> omega
        | true =>
          cases hox : le o x with
          | true =>
            have hcv : cmpR le x o = 0 := by unfold cmpR; rw [if_pos hxo, if_pos hox]
            have hs := hide (bestR_same Hpre.out hbs'.out hxo hox)
            clear hxo hox
            rw [hcv] at hq3
            go_wp2
            refine wp_region_more (by kernel_rfl) (by kernel_rfl) ?_
            repeat (go_big_quiet_step (with_reducible first | exact hq1 _ | exact hq2 _ | exact hq3 _))
            refine wpQuiet_nil ?_
            rintro w5 ⟨q5, hw5⟩
            have hbw5 := below_of_eq hw5
            clear hw5 q5 hq1 hq2 hq3
            have hb5 := Below_trans' hb hz hbw5
            have hz5 := hb5.size
            have hO5 := hO.below hbw5
            go_wp2_with (at_builtin; refine appInt rfl rfl rfl (hO5.below ((Below.refl _ _).alloc (Nat.le_refl _) _)) rfl ((Has.new _ _ _).cell 0) (by have h1 := hrl.out; have h2 := HL.out; omega) (by simp; omega) ?_)
            intro v' w' hO' hg
            go_wp2
            go_roundw
            case rel => exact ⟨k + 1, by omega, by go_num, by rw [htk.out, hs.out, hbs'.out]; exact hO', (hb5.alloc hz5 _).grown hg (by simp; omega) (fun j hj => (hO5.lt j hj).1)⟩
            case measure => simp [intOf] <;> omega
          | false =>
            have hcv : cmpR le x o = -1 := by unfold cmpR; rw [if_pos hxo, if_neg (by rw [hox]; simp)]
            have hs := hide (bestR_less Hpre.out (x := x) hbs'.out hox)
            clear hxo hox
            rw [hcv] at hq3
            go_wp2
            refine wp_region_more (by kernel_rfl) (by kernel_rfl) ?_
            repeat (go_big_quiet_step (with_reducible first | exact hq1 _ | exact hq2 _ | exact hq3 _))
            refine wpQuiet_nil ?_
            rintro w5 ⟨q5, hw5⟩
            have hbw5 := below_of_eq hw5
            clear hw5 q5 hq1 hq2 hq3
            have hb5 := Below_trans' hb hz hbw5
            have hz5 := hb5.size
            have hO5 := hO.below hbw5
            go_wp2
            go_roundw
            case rel => exact ⟨k + 1, by omega, by go_num, by rw [htk.out, hs.out, hbs'.out]; exact hO5, hb5⟩
            case measure => simp [intOf] <;> omega
    · have e : Hid (among.take k = among) := List.take_of_length_le (by rw [hl.out]; omega)
      rw [e.out] at hO
      go_wp2
      go_ret
      exact ⟨_, rfl, hO, hb⟩
end
end Go.Proofs.YtiebfalodelclaaGreat
