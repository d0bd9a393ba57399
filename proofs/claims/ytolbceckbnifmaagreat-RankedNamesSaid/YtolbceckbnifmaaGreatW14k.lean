/-
  The layer ranked: SortStableFunc of links, check, Order.
  ranked.Leads: the search through links, which calls itself through a variable.
  The layer ranked: Lock.
  The reference of ranked: check, place, Ahead; parts of slices of links.
  The reference of ranked: Order.
  The reference of ranked: Leads, Lock, Same.
-/
import Derived.Test.YtolbceckbnifmaaGreatW14e
import Derived.Test.YtolbceckbnifmaaGreatSpecRz
import Derived.Test.YtolbceckbnifmaaGreatW10f
import Derived.Test.YtolbceckbnifmaaGreatW11g
import Derived.Test.YtolbceckbnifmaaGreatFlow2
namespace Go.Proofs.YtolbceckbnifmaaGreat
open Go.RowKit Go.Proofs Go.Shelf
attribute [local go_sem] cell?_more cell?_alloc_some cell?_setCell_far frozen?_alloc_some frozen?_more
/-- Links that a call owns. -/
abbrev OLnk (w : World) (B : Nat) (v : Value) (l : List Lk) : Prop := OAgg ELnk 49 4 (fun _ => False) w B v l
theorem infoLk : (Tryz.prog.info? 49).map (fun i => (i.zero, i.size, i.bytes)) = some (some (.agg #[.int .i64 0, .int .i64 0, .int .i64 0, .int .i64 0]), 4, 32) := by kernel_rfl
theorem cells4 {w : World} {g : Nat} {t : TypeId} {x y z u : Value} (h : Has w g t #[x, y, z, u]) : ∀ j v, [x, y, z, u][j]? = some v → w.cell? ⟨g, j, none⟩ = some v := fun j v hj => by
  rw [h.cell]; simpa using hj
/-- One link more. -/
theorem OLnk.app {w : World} {B : Nat} {v : Value} {l : List Lk} (h : OLnk w B v l) {x y m f : Int} (h64 : I64k (x, y, m, f)) (hn : l.length + 1 ≤ 1000000) (hB : B ≤ w.heap.size) (ty : TypeId) :
    ∃ v' w', (Builtin.append_ #[32, 32] ty #[v, .slice (some ⟨w.heap.size, 0, none⟩) 1 1]).run Tryz.prog (w.alloc (.cells #[.int .i64 x, .int .i64 y, .int .i64 m, .int .i64 f] 49)) = .ok v' w' ∧ OLnk w' B v' (l ++ [(x, y, m, f)]) ∧ (v'.ownBlock = v.ownBlock ∨ ∃ b, v'.ownBlock = some b ∧ w.heap.size ≤ b) ∧ Frame' (fun b => v.ownBlock = some b) w w' := by
  have hba : Below w.heap.size w (w.alloc (.cells #[.int .i64 x, .int .i64 y, .int .i64 m, .int .i64 f] 49)) := (Below.refl _ _).alloc (Nat.le_refl _) _
  obtain ⟨v', w', h1, h2, h3, h4⟩ := run_appAgg infoLk Tryz.underlying32 rfl (by decide) (by decide) ty (h.below hba) (cells4 (Has.new w 49 #[.int .i64 x, .int .i64 y, .int .i64 m, .int .i64 f])) rfl (by simp [Value.oneCell'])
    (x := (x, y, m, f)) (fx := fun _ => False) ⟨fun _ h => h.elim, fun W _ => ⟨rfl, h64⟩⟩ (fun _ _ h => h) hn (by simp; omega)
  refine ⟨v', w', h1, ?_, h4.imp id fun h => ⟨_, h, by simp⟩, (Frame'.of_below hba).trans ((Frame'.of_grown h3).mono fun k _ hb => hb.symm)⟩
  have e : (fun b : Nat => False ∨ False) = fun _ => False := by funext b; simp
  rw [e] at h2
  exact h2
/-- Blocks from B on alone have changed. -/
theorem below_own {w w' : World} {B : Nat} {v : Value} {l : List Lk} {W : World} (hb : Below B W w) (hB : B ≤ w.heap.size) (h : OLnk w B v l) (hF : Frame' (fun b => v.ownBlock = some b) w w') : Below B W w' := Frame'.below hb hF (fun _ e => (h.lt e).1) hB

/-- What the sort leaves. -/
def SortedK (T : Lk → Lk → Prop) (B : Nat) (v : Value) (l : List Lk) (w : World) (e : Ending) (w' : World) : Prop :=
  e = .returned (.tuple #[]) ∧ ∃ l', OLnk w' B v l' ∧ l'.Perm l ∧ l'.Pairwise T ∧ Frame' (fun b => v.ownBlock = some b) w w'
theorem insertNil_any (G : FuncId) (w : World) : Calls Tryz.prog 115 #[.slice none 0 0, .int .i64 0, .int .i64 0, .func (.func G) #[] #[]] w fun e w' => e = .returned (.tuple #[]) ∧ w = w' := by
  go_enter Tryz.func115, Tryz.ntmps115
  go_wp2
  go_loopw [8] (fun s wr => s = .int .i64 1 ∧ wr = w) (fun _ _ => 0)
  case atStart => exact ⟨by go_num, rfl⟩
  case round =>
    obtain ⟨rfl, rfl⟩ := hrel
    go_wp2
    refine bodyPost_end (results_none rfl _ _ _) rfl ?_
    exact ⟨rfl, rfl⟩
theorem stableNil_any (G : FuncId) (w : World) : Calls Tryz.prog 80 #[.slice none 0 0, .int .i64 0, .func (.func G) #[] #[]] w fun e w' => e = .returned (.tuple #[]) ∧ w = w' := by
  go_enter Tryz.func80, Tryz.ntmps80
  go_wp2
  go_loopw [7, 8] (fun s t wr => s = .int .i64 0 ∧ t = .int .i64 20 ∧ wr = w) (fun _ _ _ => 0)
  case atStart => exact ⟨rfl, rfl, rfl⟩
  case round =>
    obtain ⟨rfl, rfl, rfl⟩ := hrel
    go_wp2_with fail
    refine (insertNil_any G wr).mono ?_
    rintro e w' ⟨rfl, rfl⟩
    go_wp2
    go_loopw [6] (fun s wx => s = .int .i64 20 ∧ wx = wr) (fun _ _ => 0)
    case atStart => exact ⟨rfl, rfl⟩
    case round =>
      obtain ⟨rfl, rfl⟩ := hrel
      go_wp2
      refine bodyPost_end (results_none rfl _ _ _) rfl ?_
      exact ⟨rfl, rfl⟩
theorem sortK_any (T : Lk → Lk → Prop) (hT : ∀ a b, ltL a b → T a b) (G : FuncId) (hG : CmpFn G) (B : Nat) (v : Value) (l : List Lk) (w : World) (h : OLnk w B v l) (hn : l.length ≤ 1000) (hp : l.Pairwise fun x y => ltL y x ∨ T x y) :
    Calls Tryz.prog 45 #[v, .func (.func G) #[] #[]] w (SortedK T B v l w) := by
  rcases h.links with ⟨rfl, rfl⟩ | ⟨g, c, rfl, hg, hL⟩
  · have hcall := stableNil_any G w
    have H := hide h
    clear h
    go_enter Tryz.func45, Tryz.ntmps45
    go_wp2_with fail
    refine hcall.mono ?_
    rintro e w' ⟨rfl, rfl⟩
    go_wp2
    refine bodyPost_end (results_none rfl _ _ _) rfl ?_
    exact ⟨rfl, [], H.out, List.Perm.refl _, List.Pairwise.nil, Frame'.refl _ _⟩
  · have hcall := stable_any T hT G hG g c l w w hL hn
    have Hp := hide hp
    have hlen := hide hL.len
    clear h hp hL
    go_enter Tryz.func45, Tryz.ntmps45
    go_wp2_with fail
    refine hcall.mono ?_
    rintro e w' ⟨rfl, l', hL', hS, hG'⟩
    have HL' := hide hL'
    have HS := hide hS
    have HG' := hide hG'
    clear hL' hS hG' hcall
    go_wp2
    refine bodyPost_end (results_none rfl _ _ _) rfl ?_
    have hfin := srt_done HS.out Hp.out (by rw [HS.out.len]; exact HG'.out)
    have ho := HL'.out.own hg
    rw [HS.out.len] at ho
    exact ⟨rfl, l', ho, hfin.1, hfin.2, HL'.out.fr.mono fun k _ e => by rw [e]; rfl⟩

set_option maxRecDepth 100000 in
theorem check14_any (C : Array Value) (m : M) (hC : Mat C m) (c : Int) (A : Option Addr) (n cp : Nat) (lot : List Int) (w : World) (h : RInts w A n cp lot) (hn : n ≤ 1000) :
    Calls Tryz.prog 44 #[.agg C, .int .i64 c, .slice A n cp] w fun e w' => e = .returned (.int .i64 (ordErr m c lot)) ∧ Below w.heap.size w w' := by
  have hs := hC.size
  have hA0 : Has (w.alloc (.cells C 24)) w.heap.size 24 C := Has.new _ _ _
  have hb0 : Below w.heap.size w (w.alloc (.cells C 24)) := (Below.refl _ _).alloc (Nat.le_refl _) _
  by_cases c1 : c < 1
  · have hr := hide (ordErr_arg (m := m) (c := c) (lot := lot) (.inl (.inl c1)))
    go_enter Tryz.func44, Tryz.ntmps44
    go_upto_region 1 with fail
    go_wp2
    go_ret
    exact ⟨ret_i (by rw [hr.out]), hb0⟩
  by_cases c2 : 10 < c
  · have hr := hide (ordErr_arg (m := m) (c := c) (lot := lot) (.inl (.inr c2)))
    go_enter Tryz.func44, Tryz.ntmps44
    go_upto_region 1 with fail
    go_wp2
    go_ret
    exact ⟨ret_i (by rw [hr.out]), hb0⟩
  have hlot := plot_any A n cp lot c _ (h.below hb0) hn (by omega) (by omega)
  generalize hW : World.alloc w (.cells C 24) = W at *
  cases e1 : lotS lot c with
  | false =>
    have hr := hide (ordErr_arg (m := m) (c := c) (lot := lot) (.inr e1))
    rw [e1] at hlot
    clear e1
    go_enter Tryz.func44, Tryz.ntmps44
    go_upto_region 1 with fail
    try rw [hW]
    clear hW
    go_wp2_with fail
    refine hlot.mono ?_
    rintro e w1 ⟨rfl, hb1⟩
    go_wp2
    go_ret
    exact ⟨ret_i (by rw [hr.out]), Below_trans' hb0 hb0.size hb1⟩
  | true =>
    have hr := hide (show ordErr m c lot = if rightS m c = true then 0 else 8 by unfold ordErr; rw [if_neg (by rintro (h | h); omega; rw [e1] at h; cases h)])
    rw [e1] at hlot
    clear e1
    go_enter Tryz.func44, Tryz.ntmps44
    go_upto_region 1 with fail
    try rw [hW]
    clear hW
    go_wp2_with fail
    refine hlot.mono ?_
    rintro e w1 ⟨rfl, hb1⟩
    have hA1 := hA0.below hb1 hA0.lt
    have hb01 := Below_trans' hb0 hb0.size hb1
    go_wp2_with (refine ldMat rfl rfl rfl hA1 hs ?_)
    refine (right_any C m hC c w1).mono ?_
    rintro e w2 ⟨rfl, hb2⟩
    have hb02 := Below_trans' hb01 hb01.size hb2
    cases e2 : rightS m c with
    | false =>
      have hr2 : Hid (ordErr m c lot = 8) := by unfold Hid; rw [hr.out, e2]; rfl
      go_wp2
      go_ret
      exact ⟨ret_i (by rw [hr2.out]), hb02⟩
    | true =>
      have hr2 : Hid (ordErr m c lot = 0) := by unfold Hid; rw [hr.out, e2]; rfl
      go_wp2
      go_ret
      exact ⟨ret_i (by rw [hr2.out]), hb02⟩

/-- What Order and Lock hand back. -/
def LnkPost (w : World) (l : List Lk) (err : Int) (e : Ending) (w' : World) : Prop := ∃ v, e = .returned (.tuple #[v, .int .i64 err]) ∧ OLnk w' w.heap.size v l ∧ Below w.heap.size w w'
theorem lot_nat {lot : List Int} {C : Nat} (h : LotP lot C) {i : Nat} {x : Int} (hx : lot[i]? = some x) : ∃ X : Nat, x = X ∧ X < C := by
  have := mem_rangeI.1 ((h.all x).1 (List.mem_of_getElem? hx))
  exact ⟨x.toNat, by omega, by omega⟩
theorem raw_len {m : M} {xs ys : List Int} : (rawL m xs ys).length ≤ xs.length * ys.length := by
  induction xs with
  | nil => simp [rawL]
  | cons a r ih =>
    have e : rawL m (a :: r) ys = rawRow m ys a ++ rawL m r ys := by unfold rawL; rw [List.map_cons, List.flatten_cons]
    have h : (rawRow m ys a).length ≤ ys.length := by unfold rawRow; rw [List.length_map]; exact List.length_filter_le _ _
    rw [e, List.length_append, List.length_cons, Nat.succ_mul]
    omega
theorem rawRow_len {m : M} {ys : List Int} {x : Int} : (rawRow m ys x).length ≤ ys.length := by unfold rawRow; rw [List.length_map]; exact List.length_filter_le _ _
theorem raw_i64 {m : M} (hb : Bd m) {X Y : Nat} (hX : X < 10) (hY : Y < 10) : I64k ((X : Int), (Y : Int), m X Y - m Y X, m X Y) := by
  have h1 := hb X Y hX hY
  have h2 := hb Y X hY hX
  unfold I64k I64
  simp only
  omega
set_option maxRecDepth 100000 in
set_option maxHeartbeats 2000000 in
theorem order_any (C : Array Value) (m : M) (hC : Mat C m) (c : Int) (A : Option Addr) (n cp : Nat) (lot : List Int) (w : World) (h : RInts w A n cp lot) (hn : n ≤ 1000) :
    Calls Tryz.prog 12 #[.agg C, .int .i64 c, .slice A n cp] w (LnkPost w (ordV m c lot) (ordErr m c lot)) := by
  have hs := hC.size
  have hA0 : Has (w.alloc (.cells C 24)) w.heap.size 24 C := Has.new _ _ _
  have hb0 : Below w.heap.size w (w.alloc (.cells C 24)) := (Below.refl _ _).alloc (Nat.le_refl _) _
  have hck := check14_any C m hC c A n cp lot _ (h.below hb0) hn
  generalize hW : World.alloc w (.cells C 24) = W at *
  by_cases he : ordErr m c lot = 0
  · obtain ⟨hc, hl, hr⟩ := ordErr_zero he
    obtain ⟨K, rfl⟩ : ∃ K : Nat, c = K := ⟨c.toNat, by omega⟩
    have hV := hide (ordV_ok he)
    have hLP := hide (lotP_of hl)
    have hnK : n = K := by
      have := hide hl
      have h2 := h.len
      unfold lotS at hl
      rw [Bool.and_eq_true, decide_eq_true_eq] at hl
      omega
    have Hb := hide (right_bd hr)
    have HE := hide he
    rw [he] at hck
    clear hl hr he
    have hlen := hide h.len
    have hn10 : n ≤ 10 := by omega
    have HnK := hide hnK
    clear hnK
    go_enter Tryz.func12, Tryz.ntmps12
    go_upto_region 1 with fail
    try rw [hW]
    clear hW
    go_wp2_with (refine ldMat rfl rfl rfl hA0 hs ?_)
    refine hck.mono ?_
    rintro e w1 ⟨rfl, hb1⟩
    have hA1 := hA0.below hb1 hA0.lt
    have hb01 := Below_trans' hb0 hb0.size hb1
    have hg1 : w.heap.size < w1.heap.size := hA1.lt
    clear hck hA0 hb0 hb1
    go_wp2
    go_loopw [6, 22] (fun v s wr => ∃ i : Nat, i ≤ n ∧ s = .int .i64 i ∧ OLnk wr w.heap.size v (rawL m (lot.take i) lot) ∧ Has wr w.heap.size 24 C ∧ (∀ b, v.ownBlock = some b → b ≠ w.heap.size) ∧ Below w.heap.size w wr) (fun _ s _ => n - (intOf s).toNat)
    case atStart => exact ⟨0, Nat.zero_le _, rfl, OAgg.nil_ _ _ _ _ _, hA1, (fun b h => by cases h), hb01⟩
    case round =>
      clear hA1 hb01
      obtain ⟨i, hi, rfl, hO, hA, hv, hb⟩ := hrel
      by_cases hlt : i < n
      · obtain ⟨b, off, x, rfl, hcx, _, hat, _, _⟩ := (h.below hb).step hlt
        obtain ⟨X, rfl, hXK⟩ := lot_nat hLP.out hat.out
        have hnx := hide (rawL_next (m := m) (ys := lot) hat.out)
        have hL0 : Hid ((rawL m (lot.take i) lot).length ≤ 100) := by
          have h1 := raw_len (m := m) (xs := lot.take i) (ys := lot)
          have h2 : (lot.take i).length * lot.length ≤ 10 * 10 := Nat.mul_le_mul (by rw [List.length_take]; omega) (by rw [hlen.out]; exact hn10)
          show _ ≤ 100
          omega
        have hO1 : OLnk wr w.heap.size u6 (rawL m (lot.take i) lot ++ rawRow m (lot.take 0) (X : Int)) := by
          rw [List.take_zero, show rawRow m [] (X : Int) = [] from rfl, List.append_nil]; exact hO
        obtain ⟨wx, rfl⟩ : ∃ wx : World, wx = wr := ⟨_, rfl⟩
        have hX10 : (X : Int) < 10 := by have := HnK.out; omega
        clear hat
        go_wp2
        clear hO
        go_loopw [6, 28] (fun v s wr => ∃ j : Nat, j ≤ n ∧ s = .int .i64 j ∧ OLnk wr w.heap.size v (rawL m (lot.take i) lot ++ rawRow m (lot.take j) (X : Int)) ∧ Has wr w.heap.size 24 C ∧ (∀ b, v.ownBlock = some b → b ≠ w.heap.size) ∧ Below w.heap.size w wr) (fun _ s _ => n - (intOf s).toNat)
        case atStart => exact ⟨0, Nat.zero_le _, rfl, hO1, hA, hv, hb⟩
        case round =>
          clear hO1 hA hv hb hcx
          obtain ⟨j, hj, rfl, hO, hA, hv, hb⟩ := hrel
          by_cases hltj : j < n
          · obtain ⟨b', off', y, e', hcy, _, haty, _, _⟩ := (h.below hb).step hltj
            cases e'
            obtain ⟨Y, rfl, hYK⟩ := lot_nat hLP.out haty.out
            have hnj := hide (rawRow_next (m := m) (x := (X : Int)) haty.out)
            have hY10 : (Y : Int) < 10 := by have := HnK.out; omega
            have hX10' : X < 10 := by omega
            have hY10' : Y < 10 := by omega
            have hL1 : Hid ((rawL m (lot.take i) lot ++ rawRow m (lot.take j) (X : Int)).length ≤ 200) := by
              have h1 := hL0.out
              have h2 := rawRow_len (m := m) (ys := lot.take j) (x := (X : Int))
              rw [List.length_take] at h2
              show _ ≤ 200
              rw [List.length_append]; omega
            have p0 := (hA.cell (X * 10 + Y)).trans (hC.at_ X Y hX10' hY10')
            have p1 := (hA.cell (Y * 10 + X)).trans (hC.at_ Y X hY10' hX10')
            have h64 := hide (raw_i64 (m := m) Hb.out hX10' hY10')
            have hbx := Hb.out X Y hX10' hY10'
            have hby := Hb.out Y X hY10' hX10'
            have hlk : Hid (lkM m (X : Int) (Y : Int) = ((X : Int), (Y : Int), m X Y - m Y X, m X Y)) := rfl
            have hbt : Hid (beatI m (X : Int) (Y : Int) = decide (m Y X < m X Y)) := rfl
            generalize hu : m X Y = u at *
            generalize hz : m Y X = z at *
            have Hu := hide hu
            have Hz := hide hz
            have Hv := hide hv
            clear hu hz haty hv
            by_cases hgt : z < u
            · have hbt2 : Hid (rawRow m (lot.take (j + 1)) (X : Int) = rawRow m (lot.take j) (X : Int) ++ [((X : Int), (Y : Int), u - z, u)]) := by
                unfold Hid; rw [hnj.out, hbt.out, decide_eq_true hgt, if_pos rfl, hlk.out]
              have hd : 0 < u - z := by omega
              clear hnj hbt hgt
              go_wp2_with fail
              refine wp_region_more (by kernel_rfl) (by kernel_rfl) ?_
              repeat (go_big_quiet_step (fail))
              refine wpQuiet_nil ?_
              rintro w2 ⟨qw2, hww2⟩
              have hbw2 := below_of_eq hww2
              clear hww2 qw2
              have hA2 := hA.below hbw2 hA.lt
              have hO2 := OAgg.below hO hbw2
              have hb2 := Below_trans' hb hb.size hbw2
              have q0 := keep_cell hbw2 p0
              clear p0 p1 hcy hA hO hb
              go_upto_region 12 with fail
              obtain ⟨Av, cv, rfl⟩ := hO2.slice
              generalize hLn : (rawL m (lot.take i) lot ++ rawRow m (lot.take j) (X : Int)).length = Ln at *
              have HLn := hide hLn
              clear hLn
              obtain ⟨v', w', k1, k2, k3, k4⟩ := OLnk.app hO2 (x := (X : Int)) (y := (Y : Int)) (m := u - z) (f := u) h64.out (by have h1 := HLn.out; have h2 := hL1.out; omega) hb2.size 32
              go_wp2_with (at_builtin; refine list_app rfl rfl rfl rfl k1 ?_)
              clear k1
              have hA3 := k4.has hA2 (fun e => Hv.out _ e rfl)
              have hb3 : Below w.heap.size w w' := below_own hb2 hb2.size hO2 k4
              have hvw : Hid (∀ b, v'.ownBlock = some b → b ≠ w.heap.size) := fun b hb' => by
                rcases k3 with e | ⟨b2, e, hb2'⟩
                · rw [e] at hb'; exact Hv.out b hb'
                · rw [e] at hb'
                  have := Option.some.inj hb'
                  have h2 := hA2.lt
                  have h3 : w2.heap.size ≤ b2 := hb2'
                  omega
              clear k3 k4
              go_wp2
              go_roundw
              case rel => exact ⟨j + 1, by omega, by go_num, by rw [hbt2.out, ← List.append_assoc]; exact k2, hA3, hvw.out, hb3⟩
              case measure => simp [intOf] <;> omega
            · have hbt2 : Hid (rawRow m (lot.take (j + 1)) (X : Int) = rawRow m (lot.take j) (X : Int)) := by
                unfold Hid; rw [hnj.out, hbt.out, decide_eq_false hgt]; rfl
              have hd : ¬ 0 < u - z := by omega
              clear hnj hbt hgt
              go_wp2_with fail
              refine wp_region_more (by kernel_rfl) (by kernel_rfl) ?_
              repeat (go_big_quiet_step (fail))
              refine wpQuiet_nil ?_
              rintro w2 ⟨qw2, hww2⟩
              have hbw2 := below_of_eq hww2
              clear hww2 qw2
              have hA2 := hA.below hbw2 hA.lt
              have hO2 := OAgg.below hO hbw2
              have hb2 := Below_trans' hb hb.size hbw2
              clear p0 p1 hcy hA hO hb
              go_wp2
              go_roundw
              case rel => exact ⟨j + 1, by omega, by go_num, by rw [hbt2.out]; exact hO2, hA2, Hv.out, hb2⟩
              case measure => simp [intOf] <;> omega
          · obtain rfl : j = n := by omega
            have e : Hid (lot.take j = lot) := List.take_of_length_le (by rw [hlen.out]; exact Nat.le_refl _)
            rw [e.out, ← hnx.out] at hO
            go_wp2
            go_roundw
            case rel => exact ⟨i + 1, by omega, by go_num, hO, hA, hv, hb⟩
            case measure => simp [intOf] <;> omega
      · obtain rfl : i = n := by omega
        have e : Hid (lot.take i = lot) := List.take_of_length_le (by rw [hlen.out]; exact Nat.le_refl _)
        rw [e.out] at hO
        have hln : (rawL m lot lot).length ≤ 1000 := by
          have h1 := raw_len (m := m) (xs := lot) (ys := lot)
          have h2 : lot.length * lot.length ≤ 10 * 10 := Nat.mul_le_mul (by rw [hlen.out]; exact hn10) (by rw [hlen.out]; exact hn10)
          omega
        have hsort := sortK_any (aheadL lot) lt_ahead 46 cmp_fn w.heap.size u6 (rawL m lot lot) wr hO hln (raw_stab hLP.out.once)
        clear hln
        go_wp2_with fail
        refine hsort.mono ?_
        rintro e w2 ⟨rfl, l', hO2, hpm, hpw, hF⟩
        have hb2 : Below w.heap.size w w2 := below_own hb hb.size hO hF
        have hfin := hide (lnkO_of hLP.out hpm hpw)
        clear hsort hpm hpw hF hO hA hv hb
        go_wp2
        go_ret2
        exact ⟨u6, by rw [HE.out]; rfl, by rw [hV.out, ← hfin.out]; exact hO2, hb2⟩
  · have hV := hide (ordV_bad he)
    have hez : (ordErr m c lot == 0) = false := by rw [beq_eq_false_iff_ne]; exact he
    generalize ordErr m c lot = er at *
    clear he
    go_enter Tryz.func12, Tryz.ntmps12
    go_upto_region 1 with fail
    try rw [hW]
    clear hW
    go_wp2_with (refine ldMat rfl rfl rfl hA0 hs ?_)
    refine hck.mono ?_
    rintro e w1 ⟨rfl, hb1⟩
    have hb01 := Below_trans' hb0 hb0.size hb1
    go_wp2
    go_ret2
    exact ⟨_, rfl, by rw [hV.out]; exact OAgg.nil_ _ _ _ _ _, hb01⟩
end Go.Proofs.YtolbceckbnifmaaGreat

namespace Go.Proofs.YtolbceckbnifmaaGreat
open Go.RowKit Go.Proofs Go.Shelf
attribute [local go_sem] cell?_more cell?_alloc_some cell?_setCell_far frozen?_alloc_some frozen?_more st_func
/-- What the search reads. -/
structure LeadM (F : FuncId) (l : List Lk) (y : Int) (A : Option Addr) (n cp bl bu by_ bf ub : Nat) (w : World) : Prop where
  hl : Has w bl 32 #[.slice A n cp]
  hu : Has w bu 98 #[.slice (some ⟨ub, 0, none⟩) n n]
  hy : Has w by_ 3 #[.int .i64 y]
  hf : Has w bf 91 #[.func (.func F) #[] #[.pointer (some ⟨bl, 0, none⟩), .pointer (some ⟨bu, 0, none⟩), .pointer (some ⟨by_, 0, none⟩), .pointer (some ⟨bf, 0, none⟩)]]
  hL : RAgg ELnk 4 w A n cp l
  ne : bl ≠ ub ∧ bu ≠ ub ∧ by_ ≠ ub ∧ bf ≠ ub
  hA : ∀ b, fpS A n b → b ≠ ub
theorem LeadM.frame {F : FuncId} {l : List Lk} {y : Int} {A : Option Addr} {n cp bl bu by_ bf ub : Nat} {w w' : World} (h : LeadM F l y A n cp bl bu by_ bf ub w) (hF : Frame' (fun b => b = ub) w w') : LeadM F l y A n cp bl bu by_ bf ub w' :=
  ⟨hF.has h.hl h.ne.1, hF.has h.hu h.ne.2.1, hF.has h.hy h.ne.2.2.1, hF.has h.hf h.ne.2.2.2, h.hL.frameL hF h.hA, h.ne, h.hA⟩
/-- What the search from x leaves. -/
def LeadPost (l : List Lk) (y x : Int) (U : List Bool) (n ub B : Nat) (w : World) (e : Ending) (w' : World) : Prop :=
  ∃ r U', e = .returned (.bool r) ∧ OwnU w' B (.slice (some ⟨ub, 0, none⟩) n n) U' ∧ (r = true → Rea l x y) ∧ (r = false → DfsI l y U x n U') ∧ Frame' (fun b => b = ub) w w'
set_option maxRecDepth 100000 in
set_option maxHeartbeats 2000000 in
theorem lead1_any (F : FuncId) (hFe : F = 63) (l : List Lk) (y : Int) (A : Option Addr) (n cp bl bu by_ bf ub B : Nat) : ∀ (k : Nat) (x : Int) (U : List Bool) (w : World), cntF U ≤ k → U.length = n → LeadM F l y A n cp bl bu by_ bf ub w → OwnU w B (.slice (some ⟨ub, 0, none⟩) n n) U →
    Calls Tryz.prog F #[.int .i64 x, .pointer (some ⟨bl, 0, none⟩), .pointer (some ⟨bu, 0, none⟩), .pointer (some ⟨by_, 0, none⟩), .pointer (some ⟨bf, 0, none⟩)] w (LeadPost l y x U n ub B w) := by
  intro k
  refine Nat.strongRecOn k fun k ih => ?_
  intro x U w hk hUl hM hU
  have IH := hide ih
  have HK := hide hk
  have HUl := hide hUl
  have HM := hide hM
  have HU := hide hU
  have eg : ∀ args w, (callFunc F args).run Tryz.prog w = .ok (.enter F args) w := by rw [hFe]; exact enters_of Tryz.func63 (by kernel_rfl) rfl
  have hln := hide hM.hL.len
  have hle := hM.hL.le
  have p0 := hM.hl.cell 0
  clear ih hk hUl hM hU
  rw [hFe]
  clear hFe
  go_enter Tryz.func63, Tryz.ntmps63
  go_wp2
  clear p0
  go_loopw [11] (fun s wr => ∃ (i : Nat) (V : List Bool), i ≤ n ∧ s = .int .i64 i ∧ Hid (OwnU wr B (.slice (some ⟨ub, 0, none⟩) n n) V) ∧ Hid (DfsI l y U x i V) ∧ Hid (Frame' (fun b => b = ub) w wr)) (fun s _ => n - (intOf s).toNat)
  case atStart => exact ⟨0, U, Nat.zero_le _, rfl, HU, DfsI.start _ _ _ _, Frame'.refl _ _⟩
  case round =>
    clear HU
    obtain ⟨i, V, hi, rfl, hO, hD, hF⟩ := hrel
    by_cases hlt : i < n
    · have HMr := hide (HM.out.frame hF.out)
      have hVl : Hid (V.length = n) := by unfold Hid; rw [hD.out.sub.1]; exact HUl.out
      obtain ⟨b, off, x', y', m', f', rfl, c0, c1, c2, c3, hat, h64⟩ := HMr.out.hL.lnk hlt
      have hbu : b ≠ ub := HMr.out.hA b ⟨by omega, off, rfl⟩
      have p0 := HMr.out.hu.cell 0
      obtain ⟨v, hv, hcv, hfv⟩ := hO.out.at_ hVl.out hlt
      have hba : Below wr.heap.size wr (wr.alloc (.cells #[.int .i64 x', .int .i64 y', .int .i64 m', .int .i64 f'] 49)) := (Below.refl _ _).alloc (Nat.le_refl _) _
      have hkn := Has.new wr 49 #[.int .i64 x', .int .i64 y', .int .i64 m', .int .i64 f']
      have hFa : Hid (Frame' (fun b => b = ub) w (wr.alloc (.cells #[.int .i64 x', .int .i64 y', .int .i64 m', .int .i64 f'] 49))) := hF.out.trans (Frame'.of_below hba)
      have hOa := hide (hO.out.below hba)
      have p1 := keep_cell hba p0
      have hcv1 := keep_cell hba hcv
      have hfv1 := (hba.frozen (World.block_lt_of_cell? wr _ hcv)).trans hfv
      have hub := hO.out.lt.2
      clear p0 hcv hfv
      go_upto_region 4 with fail
      generalize World.alloc wr _ = w1 at *
      have k0 := hkn.cell 0
      have k1 := hkn.cell 1
      clear c0 c1 c2 c3
      cases hvv : v with
      | true =>
        rw [hvv] at hv hcv1
        clear hvv
        have hskip := hide (hD.out.skip hat.out (.inl hv.out))
        go_wp2
        go_roundw
        case rel => exact ⟨i + 1, V, by omega, by go_num, hOa, hskip, hFa⟩
        case measure => simp [intOf] <;> omega
      | false =>
        rw [hvv] at hv hcv1
        clear hvv
        by_cases hx : x' = x
        · subst hx
          have hset := hide (hOa.out.set hVl.out i true)
          have hFs : Frame' (fun b => b = ub) w1 (w1.setCell ⟨ub, i, none⟩ (.bool true)) := (Frame'.refl (fun b => b = ub) w1).setCell (p := ⟨ub, i, none⟩) (.inl rfl) _
          have hFb := hide (hFa.out.trans hFs)
          have HMs := hide (HM.out.frame hFb.out)
          have hks := hFs.has hkn (by omega)
          have hcnt : cntF (V.set i true) < k := by
            have h1 := cntF_set hv.out
            have h2 := cntF_sub hD.out.sub
            have h3 := HK.out
            omega
          go_upto_region 6 with fail
          generalize World.setCell w1 _ _ = w2 at *
          clear p1 hcv1 hfv1 k0 k1 hkn
          have k1 := hks.cell 1
          have q0 := HMs.out.hy.cell 0
          by_cases hy : y' = y
          · subst hy
            have hrea : Hid (Rea l x' y') := .one (k := (x', y', m', f')) (List.mem_of_getElem? hat.out)
            go_wp2
            go_ret
            exact ⟨true, _, rfl, hset.out, fun _ => hrea.out, fun h => (by cases h), hFb.out⟩
          · have hyz : (y' == y) = false := by rw [beq_eq_false_iff_ne]; exact hy
            have q1 := HMs.out.hf.cell 0
            have hcall := IH.out _ hcnt y' (V.set i true) w2 (Nat.le_refl _) (by rw [List.length_set]; exact hVl.out) HMs.out hset.out
            have Hy := hide hy
            clear hy hcnt
            go_wp2_with fail
            refine hcall.mono ?_
            rintro e w3 ⟨r, V2, rfl, hO3, h1, h2, hF3⟩
            have HO3 := hide hO3
            have H1 := hide h1
            have H2 := hide h2
            have HF3 := hide (hFb.out.trans hF3)
            clear hO3 h1 h2 hF3 hcall
            cases r with
            | true =>
              have hrea : Hid (Rea l x' y) := .cons (k := (x', y', m', f')) (List.mem_of_getElem? hat.out) (H1.out rfl)
              go_wp2
              go_ret
              exact ⟨true, V2, rfl, HO3.out, fun _ => hrea.out, fun h => (by cases h), HF3.out⟩
            | false =>
              have hdeep := hide (hD.out.deep hat.out hv.out Hy.out (by rw [hln.out]; exact H2.out rfl))
              go_wp2
              go_roundw
              case rel => exact ⟨i + 1, V2, by omega, by go_num, HO3, hdeep, HF3⟩
              case measure => simp [intOf] <;> omega
        · have hskip := hide (hD.out.skip hat.out (.inr hx))
          have hxz : (x' != x) = true := by rw [bne_iff_ne]; exact hx
          clear hx
          go_wp2
          go_roundw
          case rel => exact ⟨i + 1, V, by omega, by go_num, hOa, hskip, hFa⟩
          case measure => simp [intOf] <;> omega
    · obtain rfl : i = n := by omega
      go_wp2
      go_ret
      exact ⟨false, V, rfl, hO.out, fun h => (by cases h), fun _ => hD.out, hF.out⟩
theorem infoBo : (Tryz.prog.info? 4).map (fun i => (i.zero, i.size, i.bytes)) = some (some (.bool false), 1, 1) := by kernel_rfl
set_option maxRecDepth 100000 in
set_option maxHeartbeats 1000000 in
theorem leads_any (A : Option Addr) (n cp : Nat) (l : List Lk) (x y : Int) (w : World) (h : RAgg ELnk 4 w A n cp l) (hn : n ≤ 1000000) :
    Calls Tryz.prog 22 #[.slice A n cp, .int .i64 x, .int .i64 y] w fun e w' => e = .returned (.bool (leadsB l x y)) ∧ Below w.heap.size w w' := by
  have hL0 : Has ((w.alloc (.cells #[.slice A n cp] 32)).alloc (.cells #[.int .i64 y] 3)) w.heap.size 32 #[.slice A n cp] := (Has.new _ _ _).alloc _
  have hY0 : Has ((w.alloc (.cells #[.slice A n cp] 32)).alloc (.cells #[.int .i64 y] 3)) (w.heap.size + 1) 3 #[.int .i64 y] := Has.new2 _ _ _ _
  have hb0 : Below w.heap.size w ((w.alloc (.cells #[.slice A n cp] 32)).alloc (.cells #[.int .i64 y] 3)) := ((Below.refl _ _).alloc (Nat.le_refl _) _).alloc (by simp) _
  have hmk := run_make_row' (P := Tryz.prog) 98 4 (.bool false) 1 Tryz.underlying98 infoBo rfl .i64 .i64 n (by omega) (by omega)
  go_enter Tryz.func22, Tryz.ntmps22
  go_upto_region 1 with fail
  generalize World.alloc (World.alloc w _) _ = W0 at hL0 hY0 hb0 ⊢
  have p0 := hL0.cell 0
  have hO0 := OwnU.made W0 W0.heap.size n (Nat.le_refl _) hn
  go_upto_region 2 with fail
  have hz1 : (W0.alloc (.cells (madeCells #[.bool false] n) 4)).heap.size = W0.heap.size + 1 := by simp
  have hbA : Below W0.heap.size W0 (W0.alloc (.cells (madeCells #[.bool false] n) 4)) := (Below.refl _ _).alloc (Nat.le_refl _) _
  generalize World.alloc W0 (.cells (madeCells #[.bool false] n) 4) = W1 at *
  have hU1 : Has (W1.alloc (.cells #[.slice (some ⟨W0.heap.size, 0, none⟩) n n] 98)) (W0.heap.size + 1) 98 #[.slice (some ⟨W0.heap.size, 0, none⟩) n n] := by rw [← hz1]; exact Has.new _ _ _
  have hz2 : (W1.alloc (.cells #[.slice (some ⟨W0.heap.size, 0, none⟩) n n] 98)).heap.size = W0.heap.size + 2 := by simp; omega
  have hbB : Below W1.heap.size W1 (W1.alloc (.cells #[.slice (some ⟨W0.heap.size, 0, none⟩) n n] 98)) := (Below.refl _ _).alloc (Nat.le_refl _) _
  generalize World.alloc W1 _ = W2 at *
  go_upto_region 4 with fail
  have hF1 : Has (W2.alloc (.cells #[.func (.func 63) #[] #[.pointer (some ⟨w.heap.size, 0, none⟩), .pointer (some ⟨W0.heap.size + 1, 0, none⟩), .pointer (some ⟨w.heap.size + 1, 0, none⟩), .pointer (some ⟨W0.heap.size + 2, 0, none⟩)]] 91)) (W0.heap.size + 2) 91 #[.func (.func 63) #[] #[.pointer (some ⟨w.heap.size, 0, none⟩), .pointer (some ⟨W0.heap.size + 1, 0, none⟩), .pointer (some ⟨w.heap.size + 1, 0, none⟩), .pointer (some ⟨W0.heap.size + 2, 0, none⟩)]] := by rw [← hz2]; exact Has.new _ _ _
  have hbC : Below W2.heap.size W2 (W2.alloc (.cells #[.func (.func 63) #[] #[.pointer (some ⟨w.heap.size, 0, none⟩), .pointer (some ⟨W0.heap.size + 1, 0, none⟩), .pointer (some ⟨w.heap.size + 1, 0, none⟩), .pointer (some ⟨W0.heap.size + 2, 0, none⟩)]] 91)) := (Below.refl _ _).alloc (Nat.le_refl _) _
  generalize World.alloc W2 _ = W3 at *
  have hbBC := Below_trans' hbB hbB.size hbC
  have hbAC := Below_trans' hbA hbA.size hbBC
  have hb3 := Below_trans' hb0 hb0.size hbAC
  have hy0 := hY0.lt
  have hO3 := hO0.below hbBC
  have hM : LeadM 63 l y A n cp w.heap.size (W0.heap.size + 1) (w.heap.size + 1) (W0.heap.size + 2) W0.heap.size W3 :=
    ⟨hL0.below hbAC hL0.lt, hU1.below hbC hU1.lt, hY0.below hbAC hY0.lt, hF1, (h.below below_lnk hb3), ⟨by omega, by omega, by omega, by omega⟩, fun b hb e => by have := h.onL.1 b hb; omega⟩
  have hcall := lead1_any 63 rfl l y A n cp w.heap.size (W0.heap.size + 1) (w.heap.size + 1) (W0.heap.size + 2) W0.heap.size W0.heap.size _ x _ W3 (Nat.le_refl _) (List.length_replicate ..) hM hO3
  have q0 := hF1.cell 0
  have hln := hide h.len
  go_wp2_with fail
  refine hcall.mono ?_
  rintro e w4 ⟨r, V2, rfl, _, h1, h2, hF⟩
  have hb4 : Below w.heap.size w w4 := Frame'.below hb3 hF (fun k e => by omega) hb3.size
  have hr : Hid (leadsB l x y = r) := by
    cases r with
    | true => exact leads_iff.2 (h1 rfl)
    | false =>
      have hd := h2 rfl
      rw [← hln.out] at hd
      exact hd.done
  clear h1 h2 hF hcall
  go_wp2
  go_ret
  exact ⟨ret_b hr.out.symm, hb4⟩
end Go.Proofs.YtolbceckbnifmaaGreat

namespace Go.Proofs.YtolbceckbnifmaaGreat
open Go.RowKit Go.Proofs Go.Shelf
attribute [local go_sem] cell?_more cell?_alloc_some cell?_setCell_far frozen?_alloc_some frozen?_more
theorem ordV_len (m : M) (c : Int) (lot : List Int) : (ordV m c lot).length ≤ 45 := by
  by_cases h : ordErr m c lot = 0
  · obtain ⟨hc, hl, hr⟩ := ordErr_zero h
    obtain ⟨K, rfl⟩ : ∃ K : Nat, c = K := ⟨c.toNat, by omega⟩
    rw [ordV_ok h]
    exact lnkO_45 (lotP_of hl) (by omega)
  · rw [ordV_bad h]; simp
theorem lock_len (all : List Lk) : (lockS all).length ≤ all.length := (lock_sub all).length_le
set_option maxRecDepth 100000 in
set_option maxHeartbeats 2000000 in
theorem lock_any (C : Array Value) (m : M) (hC : Mat C m) (c : Int) (A : Option Addr) (n cp : Nat) (lot : List Int) (w : World) (h : RInts w A n cp lot) (hn : n ≤ 1000) :
    Calls Tryz.prog 14 #[.agg C, .int .i64 c, .slice A n cp] w (LnkPost w (lockV m c lot) (ordErr m c lot)) := by
  have hs := hC.size
  have hA0 : Has (w.alloc (.cells C 24)) w.heap.size 24 C := Has.new _ _ _
  have hb0 : Below w.heap.size w (w.alloc (.cells C 24)) := (Below.refl _ _).alloc (Nat.le_refl _) _
  have hck := order_any C m hC c A n cp lot _ (h.below hb0) hn
  have hV : Hid (lockV m c lot = lockS (ordV m c lot)) := rfl
  have hVl := hide (ordV_len m c lot)
  generalize hW : World.alloc w (.cells C 24) = W at *
  generalize ordErr m c lot = er at *
  generalize ordV m c lot = all at *
  go_enter Tryz.func14, Tryz.ntmps14
  go_upto_region 1 with fail
  try rw [hW]
  clear hW
  go_wp2_with (refine ldMat rfl rfl rfl hA0 hs ?_)
  refine hck.mono ?_
  rintro e w1 ⟨va, rfl, hO1, hb1⟩
  have hb01 := Below_trans' hb0 hb0.size hb1
  have hO1 := hO1.mono hb0.size
  clear hck hA0 hb0 hb1
  obtain ⟨Aa, ca, rfl⟩ := hO1.slice
  obtain ⟨N, hN⟩ : ∃ N, all.length = N := ⟨_, rfl⟩
  rw [hN] at hO1 ⊢
  have HN := hide hN
  have hN45 : N ≤ 45 := by have := hVl.out; omega
  clear hN hVl
  go_wp2
  go_loopw [6, 20] (fun v s wr => ∃ i : Nat, i ≤ N ∧ s = .int .i64 i ∧ OLnk wr w.heap.size v (lockS (all.take i)) ∧ OLnk wr w.heap.size (.slice Aa N ca) all ∧ Hid (∀ b, v.ownBlock = some b → (Value.slice Aa N ca).ownBlock ≠ some b) ∧ Below w.heap.size w wr) (fun _ s _ => N - (intOf s).toNat)
  case atStart => exact ⟨0, Nat.zero_le _, rfl, OAgg.nil_ _ _ _ _ _, hO1, (fun b h => by cases h), hb01⟩
  case round =>
    clear hO1 hb01
    obtain ⟨i, hi, rfl, hO, hA, hv, hb⟩ := hrel
    by_cases hlt : i < N
    · obtain ⟨b, off, x, y, mg, f, rfl, c0, c1, c2, c3, hat, h64⟩ := hA.reads.lnk hlt
      have hst := hide (lock_take hat.out)
      have hll : Hid ((lockS (all.take i)).length ≤ 45) := by
        have h1 := lock_len (all.take i)
        rw [List.length_take] at h1
        show _ ≤ 45
        omega
      have hba : Below wr.heap.size wr (wr.alloc (.cells #[.int .i64 x, .int .i64 y, .int .i64 mg, .int .i64 f] 49)) := (Below.refl _ _).alloc (Nat.le_refl _) _
      have hkn := Has.new wr 49 #[.int .i64 x, .int .i64 y, .int .i64 mg, .int .i64 f]
      go_upto_region 5 with fail
      generalize World.alloc wr _ = W2 at *
      have k0 := hkn.cell 0
      have k1 := hkn.cell 1
      have hO2 := OAgg.below hO hba
      have hA2 := OAgg.below hA hba
      have hb2 := Below_trans' hb hb.size hba
      clear c0 c1 c2 c3 hat hO hA hb
      obtain ⟨Av, cv, rfl⟩ := hO2.slice
      have hcall := leads_any Av _ cv (lockS (all.take i)) y x W2 hO2.reads (by have := hll.out; omega)
      generalize hLn : (lockS (all.take i)).length = Ln at *
      have HLn := hide hLn
      clear hLn
      go_wp2_with fail
      refine hcall.mono ?_
      rintro e w3 ⟨rfl, hb3⟩
      have hO3 := OAgg.below hO2 hb3
      have hA3 := OAgg.below hA2 hb3
      have hb4 := Below_trans' hb2 hb2.size hb3
      have hk3 := hkn.below hb3 hkn.lt
      clear hcall k0 k1 hkn hO2 hA2 hb2 hb3 hba
      cases hle : leadsB (lockS (all.take i)) y x with
      | true =>
        have hst2 : Hid (lockS (all.take (i + 1)) = lockS (all.take i)) := by unfold Hid; rw [hst.out]; unfold lockStep; rw [if_pos hle]
        clear hle
        go_wp2
        go_roundw
        case rel => exact ⟨i + 1, by omega, by go_num, by rw [hst2.out]; exact hO3, hA3, hv, hb4⟩
        case measure => simp [intOf] <;> omega
      | false =>
        have hst2 : Hid (lockS (all.take (i + 1)) = lockS (all.take i) ++ [(x, y, mg, f)]) := by unfold Hid; rw [hst.out]; unfold lockStep; rw [if_neg (by rw [hle]; simp)]
        clear hle
        have k0 := hk3.cell 0
        have k1 := hk3.cell 1
        have k2 := hk3.cell 2
        have k3 := hk3.cell 3
        obtain ⟨v', w', q1, q2, q3, q4⟩ := OLnk.app hO3 h64.out (by have h1 := HLn.out; have h2 := hll.out; omega) hb4.size 32
        go_wp2_with (at_builtin; refine list_app rfl rfl rfl rfl q1 ?_)
        clear q1 k0 k1 k2 k3
        have hA5 := hA3.frame q4 (fun _ h => h.elim) (fun b hb' e => hv.out b e hb')
        have hb5 : Below w.heap.size w w' := below_own hb4 hb4.size hO3 q4
        have hv5 : Hid (∀ b', v'.ownBlock = some b' → (Value.slice (some ⟨b, off, none⟩) N ca).ownBlock ≠ some b') := fun b' hb' e => by
          rcases q3 with e' | ⟨b2, e', hb2'⟩
          · rw [e'] at hb'; exact hv.out b' hb' e
          · rw [e'] at hb'
            have h1 := Option.some.inj hb'
            have h2 := (hA3.lt e).2
            omega
        clear q3 q4
        go_wp2
        go_roundw
        case rel => exact ⟨i + 1, by omega, by go_num, by rw [hst2.out]; exact q2, hA5, hv5, hb5⟩
        case measure => simp [intOf] <;> omega
    · obtain rfl : i = N := by omega
      have e : Hid (all.take i = all) := List.take_of_length_le (by rw [HN.out]; exact Nat.le_refl _)
      rw [e.out, ← hV.out] at hO
      clear hv
      go_wp2
      go_ret2
      exact ⟨u6, rfl, hO, hb⟩
end Go.Proofs.YtolbceckbnifmaaGreat

namespace Go.Proofs.YtolbceckbnifmaaGreat
open Go.RowKit Go.Proofs Go.Shelf
attribute [local go_sem] cell?_more cell?_alloc_some cell?_setCell_far frozen?_alloc_some frozen?_more
set_option maxRecDepth 100000 in
theorem rcheck14_any (C : Array Value) (m : M) (hC : Mat C m) (c : Int) (A : Option Addr) (n cp : Nat) (lot : List Int) (w : World) (h : RInts w A n cp lot) :
    Calls Tryz.prog 49 #[.agg C, .int .i64 c, .slice A n cp] w fun e w' => e = .returned (.int .i64 (ordErr m c lot)) ∧ Below w.heap.size w w' := by
  have hs := hC.size
  have hA0 : Has (w.alloc (.cells C 24)) w.heap.size 24 C := Has.new _ _ _
  have hb0 : Below w.heap.size w (w.alloc (.cells C 24)) := (Below.refl _ _).alloc (Nat.le_refl _) _
  by_cases c1 : c < 1
  · have hr := hide (ordErr_arg (m := m) (c := c) (lot := lot) (.inl (.inl c1)))
    go_enter Tryz.func49, Tryz.ntmps49
    go_upto_region 1 with fail
    go_wp2
    go_ret
    exact ⟨ret_i (by rw [hr.out]), hb0⟩
  by_cases c2 : 10 < c
  · have hr := hide (ordErr_arg (m := m) (c := c) (lot := lot) (.inl (.inr c2)))
    go_enter Tryz.func49, Tryz.ntmps49
    go_upto_region 1 with fail
    go_wp2
    go_ret
    exact ⟨ret_i (by rw [hr.out]), hb0⟩
  have hlot := rlot_any A n cp lot c _ (h.below hb0)
  generalize hW : World.alloc w (.cells C 24) = W at *
  cases e1 : lotS lot c with
  | false =>
    have hr := hide (ordErr_arg (m := m) (c := c) (lot := lot) (.inr e1))
    rw [e1] at hlot
    clear e1
    go_enter Tryz.func49, Tryz.ntmps49
    go_upto_region 1 with fail
    try rw [hW]
    clear hW
    go_wp2_with fail
    refine hlot.mono ?_
    rintro e w1 ⟨rfl, rfl⟩
    go_wp2
    go_ret
    exact ⟨ret_i (by rw [hr.out]), hb0⟩
  | true =>
    have hr := hide (show ordErr m c lot = if rightS m c = true then 0 else 8 by unfold ordErr; rw [if_neg (by rintro (h | h); omega; rw [e1] at h; cases h)])
    rw [e1] at hlot
    clear e1
    go_enter Tryz.func49, Tryz.ntmps49
    go_upto_region 1 with fail
    try rw [hW]
    clear hW
    go_wp2_with fail
    refine hlot.mono ?_
    rintro e w1 ⟨rfl, rfl⟩
    go_wp2_with (refine ldMat rfl rfl rfl hA0 hs ?_)
    refine (rright_any C m hC c W).mono ?_
    rintro e w2 ⟨rfl, hb2⟩
    have hb02 := Below_trans' hb0 hb0.size hb2
    cases e2 : rightS m c with
    | false =>
      have hr2 : Hid (ordErr m c lot = 8) := by unfold Hid; rw [hr.out, e2]; rfl
      go_wp2
      go_ret
      exact ⟨ret_i (by rw [hr2.out]), hb02⟩
    | true =>
      have hr2 : Hid (ordErr m c lot = 0) := by unfold Hid; rw [hr.out, e2]; rfl
      go_wp2
      go_ret
      exact ⟨ret_i (by rw [hr2.out]), hb02⟩

theorem place_skip {lot : List Int} {x : Int} {k : Nat} (h : ∀ j, j < k → ∀ y, lot[j]? = some y → y ≠ x) (hk : lot.length ≤ k) : placeL lot x = lot.length := by
  unfold placeL
  have e : lot.findIdx? (fun y => decide (y = x)) = none := by
    rw [List.findIdx?_eq_none_iff]
    intro y hy
    obtain ⟨j, hj⟩ := List.getElem?_of_mem hy
    have := h j (by have := (List.getElem?_eq_some_iff.1 hj).1; omega) y hj
    simpa using this
  rw [e]
theorem place_hit {lot : List Int} {x : Int} {k : Nat} (h : ∀ j, j < k → ∀ y, lot[j]? = some y → y ≠ x) (hk : lot[k]? = some x) : placeL lot x = k := by
  unfold placeL
  have hl := (List.getElem?_eq_some_iff.1 hk).1
  have e : lot.findIdx? (fun y => decide (y = x)) = some k := by
    rw [List.findIdx?_eq_some_iff_getElem]
    refine ⟨hl, ?_, fun j hj => ?_⟩
    · have := (List.getElem?_eq_some_iff.1 hk).2
      simp [this]
    · have := h j hj _ (List.getElem?_eq_getElem (by omega))
      simpa using this
  rw [e]
theorem place14_any (A : Option Addr) (n cp : Nat) (lot : List Int) (x : Int) (w : World) (h : RInts w A n cp lot) :
    Calls Tryz.prog 82 #[.slice A n cp, .int .i64 x] w fun e w' => e = .returned (.int .i64 (placeL lot x : Nat)) ∧ w = w' := by
  have hle := h.le
  have hln := hide h.len
  go_enter Tryz.func82, Tryz.ntmps82
  go_wp2
  go_loopw [5] (fun s wr => ∃ k : Nat, k ≤ n ∧ s = .int .i64 k ∧ wr = w ∧ Hid (∀ j, j < k → ∀ y, lot[j]? = some y → y ≠ x)) (fun s _ => n - (intOf s).toNat)
  case atStart => exact ⟨0, Nat.zero_le _, rfl, rfl, fun j hj => by omega⟩
  case round =>
    obtain ⟨k, hk, rfl, rfl, hO⟩ := hrel
    by_cases hlt : k < n
    · obtain ⟨b, off, v, rfl, hc, _, hat, _⟩ := h.step hlt
      by_cases hv : v = x
      · subst hv
        have hO' := hide (place_hit hO.out hat.out)
        clear hO hat
        go_wp2
        go_ret
        exact ⟨ret_i (by rw [hO'.out]), rfl⟩
      · have hO' : Hid (∀ j, j < k + 1 → ∀ y, lot[j]? = some y → y ≠ x) := fun j hj y hy => by
          by_cases e : j = k
          · rw [e, hat.out] at hy; cases hy; exact hv
          · exact hO.out j (by omega) y hy
        have hvz : (v == x) = false := by rw [beq_eq_false_iff_ne]; exact hv
        clear hO hat hv
        go_wp2
        go_roundw
        case rel => exact ⟨k + 1, by omega, by go_num, trivial, hO'⟩
        case measure => simp [intOf] <;> omega
    · have hO' := hide (place_skip hO.out (by rw [hln.out]; omega))
      rw [hln.out] at hO'
      clear hO
      go_wp2
      go_ret
      exact ⟨ret_i (by rw [hO'.out]), rfl⟩
theorem dec_of {p q : Prop} [Decidable p] [Decidable q] (h : p ↔ q) : decide p = decide q := decide_eq_decide.2 h
set_option maxRecDepth 100000 in
set_option maxHeartbeats 1000000 in
theorem aheadK_any (x y m f x' y' m' f' : Int) (A : Option Addr) (n cp : Nat) (lot : List Int) (w : World) (h : RInts w A n cp lot) :
    Calls Tryz.prog 50 #[.agg #[.int .i64 x, .int .i64 y, .int .i64 m, .int .i64 f], .agg #[.int .i64 x', .int .i64 y', .int .i64 m', .int .i64 f'], .slice A n cp] w fun e w' => e = .returned (.bool (decide (aheadL lot (x, y, m, f) (x', y', m', f')))) ∧ Below w.heap.size w w' := by
  have hA0 := (Has.new w 49 #[.int .i64 x, .int .i64 y, .int .i64 m, .int .i64 f]).alloc (.cells #[.int .i64 x', .int .i64 y', .int .i64 m', .int .i64 f'] 49)
  have hB0 := Has.new2 w (.cells #[.int .i64 x, .int .i64 y, .int .i64 m, .int .i64 f] 49) 49 #[.int .i64 x', .int .i64 y', .int .i64 m', .int .i64 f']
  have hb0 : Below w.heap.size w ((w.alloc (.cells #[.int .i64 x, .int .i64 y, .int .i64 m, .int .i64 f] 49)).alloc (.cells #[.int .i64 x', .int .i64 y', .int .i64 m', .int .i64 f'] 49)) := ((Below.refl _ _).alloc (Nat.le_refl _) _).alloc (by simp) _
  have hle := h.le
  by_cases hm : m = m'
  · subst hm
    by_cases hf : f = f'
    · subst hf
      by_cases hx : x = x'
      · subst hx
        have hr := hide (dec_of (show aheadL lot (x, y, m, f) (x, y', m, f) ↔ placeL lot y < placeL lot y' by unfold aheadL; simp))
        go_enter Tryz.func50, Tryz.ntmps50
        go_upto_region 1 with fail
        generalize World.alloc (World.alloc w _) _ = W at hA0 hB0 hb0 ⊢
        have a0 := hA0.cell 0
        have a1 := hA0.cell 1
        have a2 := hA0.cell 2
        have a3 := hA0.cell 3
        have b0 := hB0.cell 0
        have b1 := hB0.cell 1
        have b2 := hB0.cell 2
        have b3 := hB0.cell 3
        have h0 := h.below hb0
        have hq : ∀ q z, Calls Tryz.prog 82 #[.slice A n cp, .int .i64 z] (More W q) fun e w'' => e = .returned (.int .i64 (placeL lot z : Nat)) ∧ ∃ q', w'' = More W q' := fun q z => more_same (place14_any A n cp lot z _ (h0.more q))
        go_upto_region 7 with fail
        refine wp_region_more (by kernel_rfl) (by kernel_rfl) ?_
        repeat (go_big_quiet_step ((go_at_call 82; with_reducible exact hq _ _)))
        refine wpQuiet_nil ?_
        rintro w2 ⟨qw2, hww2⟩
        have hbw2 := below_of_eq hww2
        clear hww2 qw2
        have hb2 := Below_trans' hb0 hb0.size hbw2
        go_wp2
        go_ret
        exact ⟨ret_b (by rw [hr.out]), hb2⟩
      · have hr := hide (dec_of (show aheadL lot (x, y, m, f) (x', y', m, f) ↔ placeL lot x < placeL lot x' by unfold aheadL; simp [hx]))
        have hxz : (x != x') = true := by rw [bne_iff_ne]; exact hx
        clear hx
        go_enter Tryz.func50, Tryz.ntmps50
        go_upto_region 1 with fail
        generalize World.alloc (World.alloc w _) _ = W at hA0 hB0 hb0 ⊢
        have a0 := hA0.cell 0
        have a1 := hA0.cell 1
        have a2 := hA0.cell 2
        have a3 := hA0.cell 3
        have b0 := hB0.cell 0
        have b1 := hB0.cell 1
        have b2 := hB0.cell 2
        have b3 := hB0.cell 3
        have h0 := h.below hb0
        have hq : ∀ q z, Calls Tryz.prog 82 #[.slice A n cp, .int .i64 z] (More W q) fun e w'' => e = .returned (.int .i64 (placeL lot z : Nat)) ∧ ∃ q', w'' = More W q' := fun q z => more_same (place14_any A n cp lot z _ (h0.more q))
        go_upto_region 6 with fail
        refine wp_region_more (by kernel_rfl) (by kernel_rfl) ?_
        repeat (go_big_quiet_step ((go_at_call 82; with_reducible exact hq _ _)))
        refine wpQuiet_nil ?_
        rintro w2 ⟨qw2, hww2⟩
        have hbw2 := below_of_eq hww2
        clear hww2 qw2
        have hb2 := Below_trans' hb0 hb0.size hbw2
        go_wp2
        go_ret
        exact ⟨ret_b (by rw [hr.out]), hb2⟩
    · have hr := hide (dec_of (show aheadL lot (x, y, m, f) (x', y', m, f') ↔ f' < f by unfold aheadL; simp; omega))
      have hfz : (f != f') = true := by rw [bne_iff_ne]; exact hf
      clear hf
      go_enter Tryz.func50, Tryz.ntmps50
      go_upto_region 1 with fail
      generalize World.alloc (World.alloc w _) _ = W at hA0 hB0 hb0 ⊢
      have a0 := hA0.cell 0
      have a1 := hA0.cell 1
      have a2 := hA0.cell 2
      have a3 := hA0.cell 3
      have b0 := hB0.cell 0
      have b1 := hB0.cell 1
      have b2 := hB0.cell 2
      have b3 := hB0.cell 3
      go_wp2
      go_ret
      exact ⟨ret_b (by rw [hr.out]), hb0⟩
  · have hr := hide (dec_of (show aheadL lot (x, y, m, f) (x', y', m', f') ↔ m' < m by unfold aheadL; simp; omega))
    have hmz : (m != m') = true := by rw [bne_iff_ne]; exact hm
    clear hm
    go_enter Tryz.func50, Tryz.ntmps50
    go_upto_region 1 with fail
    generalize World.alloc (World.alloc w _) _ = W at hA0 hB0 hb0 ⊢
    have a0 := hA0.cell 0
    have a1 := hA0.cell 1
    have a2 := hA0.cell 2
    have a3 := hA0.cell 3
    have b0 := hB0.cell 0
    have b1 := hB0.cell 1
    have b2 := hB0.cell 2
    have b3 := hB0.cell 3
    go_wp2
    go_ret
    exact ⟨ret_b (by rw [hr.out]), hb0⟩

theorem sliced_hiK {w : World} {A : Option Addr} {n c i : Nat} {l : List Lk} (h : RAgg ELnk 4 w A n c l) (hi : i ≤ n) : ∃ A' n2 c2, Hid (sliced A i n c 4 = .slice A' n2 c2) ∧ RAgg ELnk 4 w A' n2 c2 (l.drop i) := by
  obtain ⟨h1, h2, h3, h4⟩ := h
  refine ⟨_, _, _, rfl, by rw [List.length_drop, h1], by omega, by omega, fun hn => ?_⟩
  obtain ⟨b, off, rfl, hc⟩ := h4 (by omega)
  refine ⟨b, off + i * 4, ?_, fun j hj => ?_⟩
  · have hci : ¬ (c = i) := by omega
    simp [hci, Addr.add]
  · obtain ⟨vs, x, k1, k2, k3, k4⟩ := hc (i + j) (by omega)
    refine ⟨vs, x, by rw [List.getElem?_drop]; exact k1, k2, fun t u ht => ?_, k4⟩
    rw [← k3 t u ht]
    congr 2
    rw [Nat.add_mul]; omega
theorem sliced_loK {w : World} {A : Option Addr} {n c i : Nat} {l : List Lk} (h : RAgg ELnk 4 w A n c l) (hi : i ≤ n) : ∃ A' n2 c2, Hid (sliced A 0 i c 4 = .slice A' n2 c2) ∧ RAgg ELnk 4 w A' n2 c2 (l.take i) := by
  obtain ⟨h1, h2, h3, h4⟩ := h
  refine ⟨_, _, _, rfl, by rw [List.length_take, h1]; omega, by omega, by omega, fun hn => ?_⟩
  obtain ⟨b, off, rfl, hc⟩ := h4 (by omega)
  refine ⟨b, off, ?_, fun j hj => ?_⟩
  · have hci : ¬ (c = 0) := by omega
    simp [hci, Addr.add]
  · obtain ⟨vs, x, k1, k2, k3, k4⟩ := hc j (by omega)
    exact ⟨vs, x, by rw [List.getElem?_take_of_lt (by omega)]; exact k1, k2, k3, k4⟩
section
variable {ops : Array Oper} {rest : List Oper} {o : Oper} {a : Act} {w : World} {Q : Exit → Act → World → Prop}
theorem sliceLnkHi (hg : o.guard = none) {x lo : Operand} (ho : o.op = .slice 32 x (some lo) none none) {A A' : Option Addr} {n c i n2 c2 : Nat} (hx : a.eval x = .slice A n c) (hlo : a.eval lo = .int .i64 (i : Int)) (hi : i ≤ n) (hA : Hid (sliced A i n c 4 = .slice A' n2 c2))
    (h : wpList Tryz.prog ops Q rest (a.put o.dst (.slice A' n2 c2)) w) : wpList Tryz.prog ops Q (o :: rest) a w :=
  wpList_plain hg fun _ hK => by
    have he : Tryz.prog.elem 32 = 49 := by kernel_rfl
    have hu : Tryz.prog.underlying 32 = some (.slice (Tryz.prog.elem 32)) := by rw [he]; exact Tryz.underlying32
    have hs : (sizeOf 49).run Tryz.prog w = .ok 4 w := Tryz.sizeOf49 w
    have hr : (Instr.sliceAt 32 (.slice A n c) (some (.int .i64 (i : Int))) none none).run Tryz.prog w = .ok (.slice A' n2 c2) w := by
      rw [run_sliceAt_slice w _ _ _ _ _ hu, run_slice_l w _ _ _ _ hu .i64 (i : Int) (by omega) (by omega)]
      rw [Int.toNat_natCast, ← hA.out, he, hs]; rfl
    unfold Oper.wp execOp
    simp only [ho, Option.map_some, Option.map_none, hx, hlo, Sem.run_bind, hr, Result.andThen_ok]
    exact hK _ _ h
theorem sliceLnkLo (hg : o.guard = none) {x hi : Operand} (ho : o.op = .slice 32 x none (some hi) none) {A A' : Option Addr} {n c i n2 c2 : Nat} (hx : a.eval x = .slice A n c) (hhi : a.eval hi = .int .i64 (i : Int)) (hi : i ≤ c) (hA : Hid (sliced A 0 i c 4 = .slice A' n2 c2))
    (h : wpList Tryz.prog ops Q rest (a.put o.dst (.slice A' n2 c2)) w) : wpList Tryz.prog ops Q (o :: rest) a w :=
  wpList_plain hg fun _ hK => by
    have he : Tryz.prog.elem 32 = 49 := by kernel_rfl
    have hu : Tryz.prog.underlying 32 = some (.slice (Tryz.prog.elem 32)) := by rw [he]; exact Tryz.underlying32
    have hs : (sizeOf 49).run Tryz.prog w = .ok 4 w := Tryz.sizeOf49 w
    have hr : (Instr.sliceAt 32 (.slice A n c) none (some (.int .i64 (i : Int))) none).run Tryz.prog w = .ok (.slice A' n2 c2) w := by
      rw [run_sliceAt_slice w _ _ _ _ _ hu, run_slice_h w _ _ _ _ hu .i64 (i : Int) (by omega) (by omega)]
      rw [Int.toNat_natCast, ← hA.out, he, hs]; rfl
    unfold Oper.wp execOp
    simp only [ho, Option.map_some, Option.map_none, hx, hhi, Sem.run_bind, hr, Result.andThen_ok]
    exact hK _ _ h
end
/-- Many links more. -/
theorem OLnk.apps {w : World} {B : Nat} {v : Value} {l : List Lk} (h : OLnk w B v l) {A : Option Addr} {n c : Nat} {ys : List Lk} (hr : RAgg ELnk 4 w A n c ys) (hn : l.length + n ≤ 1000000) (hB : B ≤ w.heap.size) (ty : TypeId) :
    ∃ v' w', (Builtin.append_ #[32, 32] ty #[v, .slice A n c]).run Tryz.prog w = .ok v' w' ∧ OLnk w' B v' (l ++ ys) ∧ (v'.ownBlock = v.ownBlock ∨ ∃ b, v'.ownBlock = some b ∧ w.heap.size ≤ b) ∧ Frame' (fun b => v.ownBlock = some b) w w' := by
  obtain ⟨i0, hi, hz0, hz1, hz2⟩ := info_parts infoLk
  obtain ⟨vs, g1, g2, g3, g4⟩ := h
  have hv := all2_lkv g3.get
  subst hv
  have hyl := hr.len
  obtain ⟨v', w', k1, k2, k3, k4⟩ := run_appU w B 32 ty 49 i0 (.agg #[.int .i64 0, .int .i64 0, .int .i64 0, .int .i64 0]) 4 32 Tryz.underlying32 hi hz0 hz1 hz2 rfl (by decide) v l.length _ g2 A n c (ys.flatMap lkv) (by rw [length_flat4, hyl])
    (fun e => by
      rcases Nat.eq_zero_or_pos n with h0 | h0
      · exact h0
      · obtain ⟨b, off, e', _⟩ := hr.2.2.2 h0; rw [e] at e'; cases e')
    (fun a e j u hj => by
      have hjn : j < n * 4 := by
        have := (List.getElem?_eq_some_iff.1 hj).1
        rwa [length_flat4, hyl] at this
      obtain ⟨i, t, ht, rfl⟩ : ∃ i t, t < 4 ∧ j = i * 4 + t := ⟨j / 4, j % 4, by omega, by omega⟩
      obtain ⟨b, off, e', hc⟩ := hr.2.2.2 (by omega)
      rw [e] at e'
      cases e'
      obtain ⟨us, x, q1, q2, q3, q4, q5⟩ := hc i (by omega)
      subst q4
      rw [get_flat4 ys i t ht, q1, Option.bind_some] at hj
      have hadd : (⟨b, off, none⟩ : Addr).add (i * 4 + t) = ⟨b, off + i * 4 + t, none⟩ := by unfold Addr.add; split <;> simp_all [Nat.add_assoc]
      rw [hadd]
      exact q3 t u hj) (fun u hu => by
      obtain ⟨k, _, hk⟩ := List.mem_flatMap.1 hu
      simp only [lkv, List.mem_cons, List.not_mem_nil, or_false] at hk
      rcases hk with rfl | rfl | rfl | rfl <;> rfl) (by unfold maxLen; omega) (by omega) hB
  refine ⟨v', w', k1, ⟨(l ++ ys).map lkv, ?_, ?_, ⟨fun _ h => h.elim, fun W _ => ⟨by simp, fun i x y hx hy => ?_⟩⟩, fun _ _ h => h⟩, k4.imp id fun h => ⟨_, h, Nat.le_refl _⟩, (Frame'.of_grown k3).mono fun k _ hb => hb.symm⟩
  · intro x hx
    obtain ⟨k, _, rfl⟩ := List.mem_map.1 hx
    rfl
  · rw [← List.flatMap_def] at k2 ⊢
    rw [List.length_append, hyl, List.flatMap_append]
    exact k2
  · rw [List.getElem?_map, hy] at hx
    cases hx
    refine ⟨rfl, ?_⟩
    rcases List.mem_append.1 (List.mem_of_getElem? hy) with hm | hm
    · obtain ⟨i, hi⟩ := List.getElem?_of_mem hm
      exact (g3.get.2 i (lkv y) y (by rw [List.getElem?_map, hi]; rfl) hi).2
    · exact hr.lnk_i64 y hm
end Go.Proofs.YtolbceckbnifmaaGreat

namespace Go.Proofs.YtolbceckbnifmaaGreat
open Go.RowKit Go.Proofs Go.Shelf
attribute [local go_sem] cell?_more cell?_alloc_some cell?_setCell_far frozen?_alloc_some frozen?_more
theorem tw_of {α : Type} {p : α → Bool} : ∀ {l : List α} {t : Nat}, (∀ g ∈ l.take t, p g = true) → (l.length ≤ t ∨ ∃ g, l[t]? = some g ∧ p g = false) → l.takeWhile p = l.take t ∧ l.dropWhile p = l.drop t
  | [], t, _, _ => by simp
  | a :: r, 0, _, h2 => by
    obtain ⟨g, hg, hp⟩ := h2.resolve_left (by simp)
    have e : a = g := by simpa using hg
    subst e
    rw [List.takeWhile_cons_of_neg (by simp [hp]), List.dropWhile_cons_of_neg (by simp [hp])]; exact ⟨rfl, rfl⟩
  | a :: r, t + 1, h1, h2 => by
    have ha := h1 a (by simp)
    have ih := tw_of (l := r) (t := t) (fun g hg => h1 g (by simp [hg])) (h2.imp (fun h => by simpa using h) (fun ⟨g, hg, hp⟩ => ⟨g, by simpa using hg, hp⟩))
    rw [List.takeWhile_cons_of_pos ha, List.dropWhile_cons_of_pos ha, ih.1, ih.2]; exact ⟨rfl, rfl⟩
theorem ordR_snoc (lot : List Int) (l : List Lk) (k : Lk) : ordR lot (l ++ [k]) = insK lot (ordR lot l) k := by unfold ordR; rw [List.foldl_append]; rfl
theorem ordR_len (lot : List Int) : ∀ (l : List Lk), (ordR lot l).length = l.length := fun l => by
  have h : ∀ (l out : List Lk), (l.foldl (insK lot) out).length = out.length + l.length := fun l => by
    induction l with
    | nil => intro out; simp
    | cons a r ih => intro out; rw [List.foldl_cons, ih, (insK_perm lot out a).length_eq]; simp; omega
  rw [ordR, h]; simp
theorem insK_at {lot : List Int} {out : List Lk} {k : Lk} {t : Nat} (h1 : ∀ g ∈ out.take t, aheadL lot g k) (h2 : out.length ≤ t ∨ ∃ g, out[t]? = some g ∧ ¬ aheadL lot g k) : insK lot out k = out.take t ++ [k] ++ out.drop t := by
  have := tw_of (p := fun g => decide (aheadL lot g k)) (l := out) (t := t) (fun g hg => decide_eq_true (h1 g hg)) (h2.imp id fun ⟨g, hg, hp⟩ => ⟨g, hg, decide_eq_false hp⟩)
  unfold insK
  rw [this.1, this.2, List.append_assoc]; rfl
set_option maxRecDepth 100000 in
set_option maxHeartbeats 4000000 in
theorem rorder_any (C : Array Value) (m : M) (hC : Mat C m) (c : Int) (A : Option Addr) (n cp : Nat) (lot : List Int) (w : World) (h : RInts w A n cp lot) :
    Calls Tryz.prog 13 #[.agg C, .int .i64 c, .slice A n cp] w (LnkPost w (ordV m c lot) (ordErr m c lot)) := by
  have hs := hC.size
  have hA0 : Has (w.alloc (.cells C 24)) w.heap.size 24 C := Has.new _ _ _
  have hb0 : Below w.heap.size w (w.alloc (.cells C 24)) := (Below.refl _ _).alloc (Nat.le_refl _) _
  have hck := rcheck14_any C m hC c A n cp lot _ (h.below hb0)
  generalize hW : World.alloc w (.cells C 24) = W at *
  by_cases he : ordErr m c lot = 0
  · obtain ⟨hc, hl, hr⟩ := ordErr_zero he
    obtain ⟨K, rfl⟩ : ∃ K : Nat, c = K := ⟨c.toNat, by omega⟩
    have hV := hide (ordV_ok he)
    have Hb := hide (right_bd hr)
    have HE := hide he
    rw [he] at hck
    clear hl hr he
    have hK10 : K ≤ 10 := by omega
    clear hc
    go_enter Tryz.func13, Tryz.ntmps13
    go_upto_region 1 with fail
    try rw [hW]
    clear hW
    go_wp2_with (refine ldMat rfl rfl rfl hA0 hs ?_)
    refine hck.mono ?_
    rintro e w1 ⟨rfl, hb1⟩
    have hA1 := hA0.below hb1 hA0.lt
    have hb01 := Below_trans' hb0 hb0.size hb1
    clear hck hA0 hb0 hb1
    go_wp2
    go_loopw [9, 10] (fun v s wr => ∃ X : Nat, X ≤ K ∧ s = .int .i64 X ∧ OLnk wr w.heap.size v (ordR lot (rawL m ((rangeI K).take X) (rangeI K))) ∧ Has wr w.heap.size 24 C ∧ Below w.heap.size w wr) (fun _ s _ => K - (intOf s).toNat)
    case atStart => exact ⟨0, Nat.zero_le _, rfl, OAgg.nil_ _ _ _ _ _, hA1, hb01⟩
    case round =>
      clear hA1 hb01
      obtain ⟨X, hX, rfl, hO, hA, hb⟩ := hrel
      by_cases hlt : X < K
      · have hnx := hide (rawL_next (m := m) (ys := rangeI K) (get_rangeI hlt))
        have hL0 : Hid ((rawL m ((rangeI K).take X) (rangeI K)).length ≤ 100) := by
          have h1 := raw_len (m := m) (xs := (rangeI K).take X) (ys := rangeI K)
          have h2 : ((rangeI K).take X).length * (rangeI K).length ≤ 10 * 10 := Nat.mul_le_mul (by rw [List.length_take, length_rangeI]; omega) (by rw [length_rangeI]; omega)
          show _ ≤ 100
          omega
        have hO1 : OLnk wr w.heap.size u9 (ordR lot (rawL m ((rangeI K).take X) (rangeI K) ++ rawRow m ((rangeI K).take 0) (X : Int))) := by
          rw [List.take_zero, show rawRow m [] (X : Int) = [] from rfl, List.append_nil]; exact hO
        obtain ⟨wx, rfl⟩ : ∃ wx : World, wx = wr := ⟨_, rfl⟩
        have hX10 : (X : Int) < 10 := by omega
        have hX10' : X < 10 := by omega
        go_wp2
        clear hO
        generalize rawL m ((rangeI K).take X) (rangeI K) = raw at *
        go_loopw [9, 11] (fun v s wr => ∃ Y : Nat, Y ≤ K ∧ s = .int .i64 Y ∧ OLnk wr w.heap.size v (ordR lot (raw ++ rawRow m ((rangeI K).take Y) (X : Int))) ∧ Has wr w.heap.size 24 C ∧ Below w.heap.size w wr) (fun _ s _ => K - (intOf s).toNat)
        case atStart => exact ⟨0, Nat.zero_le _, rfl, hO1, hA, hb⟩
        case round =>
          clear hO1 hA hb
          obtain ⟨Y, hY, rfl, hO, hA, hb⟩ := hrel
          by_cases hltj : Y < K
          · have hnj := hide (rawRow_next (m := m) (x := (X : Int)) (get_rangeI hltj))
            have hY10 : (Y : Int) < 10 := by omega
            have hY10' : Y < 10 := by omega
            have hL1 : Hid ((ordR lot (raw ++ rawRow m ((rangeI K).take Y) (X : Int))).length ≤ 200) := by
              have h1 := hL0.out
              have h2 := rawRow_len (m := m) (ys := (rangeI K).take Y) (x := (X : Int))
              rw [List.length_take, length_rangeI] at h2
              show _ ≤ 200
              rw [ordR_len, List.length_append]; omega
            have p0 := (hA.cell (X * 10 + Y)).trans (hC.at_ X Y hX10' hY10')
            have p1 := (hA.cell (Y * 10 + X)).trans (hC.at_ Y X hY10' hX10')
            have h64 := hide (raw_i64 (m := m) Hb.out hX10' hY10')
            have hbx := Hb.out X Y hX10' hY10'
            have hby := Hb.out Y X hY10' hX10'
            have hlk : Hid (lkM m (X : Int) (Y : Int) = ((X : Int), (Y : Int), m X Y - m Y X, m X Y)) := rfl
            have hbt : Hid (beatI m (X : Int) (Y : Int) = decide (m Y X < m X Y)) := rfl
            generalize hu : m X Y = u at *
            generalize hz : m Y X = z at *
            have Hu := hide hu
            have Hz := hide hz
            clear hu hz
            by_cases hgt : z < u
            · have hbt2 : Hid (ordR lot (raw ++ rawRow m ((rangeI K).take (Y + 1)) (X : Int)) = insK lot (ordR lot (raw ++ rawRow m ((rangeI K).take Y) (X : Int))) ((X : Int), (Y : Int), u - z, u)) := by
                unfold Hid; rw [hnj.out, hbt.out, decide_eq_true hgt, if_pos rfl, hlk.out, ← List.append_assoc, ordR_snoc]
              have hd : ¬ u ≤ z := by omega
              clear hnj hbt hlk
              go_wp2_with fail
              refine wp_region_more (by kernel_rfl) (by kernel_rfl) ?_
              repeat (go_big_quiet_step (fail))
              refine wpQuiet_nil ?_
              rintro w2 ⟨qw2, hww2⟩
              have hbw2 := below_of_eq hww2
              clear hww2 qw2
              have hA2 := hA.below hbw2 hA.lt
              have hO2 := OAgg.below hO hbw2
              have hb2 := Below_trans' hb hb.size hbw2
              have q0 := keep_cell hbw2 p0
              have q1 := keep_cell hbw2 p1
              clear p0 p1 hA hO hb
              generalize ordR lot (raw ++ rawRow m ((rangeI K).take Y) (X : Int)) = out at *
              go_upto_region 12 with fail
              refine wp_region_flowz [0, 1, 2, 3, 4, 5, 6, 7, 8, 9, 10, 11, 12, 13, 14, 15, 16, 17, 18] [0, 1, 2, 3, 4, 5, 6, 7, 8, 9, 10, 11, 12, 13, 14, 15, 16, 17, 18] (fun w' => ∃ q, w' = More w2 q) (by kernel_rfl) (by kernel_rfl) (below_more ((Below.refl w2.heap.size w2).drew)) ?_
              simp only [pickOps, List.getElem?_cons_zero, List.getElem?_cons_succ]
              repeat (go_big_quiet_step (fail))
              refine wpQuiet_nil ?_
              have hdr : Below w2.heap.size w2 w2.drew := (Below.refl _ _).drew
              clear q0 q1
              refine flow_one 19 (by kernel_rfl) rfl ?_
              go_wp2
              refine FlowPost.mk ⟨below_more (hdr.alloc (Nat.le_refl _) _), ?_⟩
              refine flow_rest [20] (by kernel_rfl) ?_
              simp only [pickOps, List.getElem?_cons_zero, List.getElem?_cons_succ]
              go_upto_region 13 with fail
              have hkn : Has (w2.alloc (.cells #[.int .i64 (X : Int), .int .i64 (Y : Int), .int .i64 (u - z), .int .i64 u] 49)).drew w2.heap.size 49 #[.int .i64 (X : Int), .int .i64 (Y : Int), .int .i64 (u - z), .int .i64 u] := (Has.new _ _ _).drew
              have hba : Below w2.heap.size w2 (w2.alloc (.cells #[.int .i64 (X : Int), .int .i64 (Y : Int), .int .i64 (u - z), .int .i64 u] 49)).drew := ((Below.refl _ _).alloc (Nat.le_refl _) _).drew
              generalize (World.alloc w2 _).drew = w3 at *
              have hO3 := OAgg.below hO2 hba
              have hA3 := hA2.below hba hA2.lt
              have hb3 := Below_trans' hb2 hb2.size hba
              clear hO2 hA2 hb2 hbw2 hba hdr
              obtain ⟨Av, cv, rfl⟩ := hO3.slice
              obtain ⟨L, hL⟩ : ∃ L, out.length = L := ⟨_, rfl⟩
              have hL2 : Hid (L ≤ 200) := by rw [← hL]; exact hL1.out
              rw [hL] at hO3 ⊢
              have HL := hide hL
              clear hL
              have hL200 : L ≤ 200 := hL2.out
              have h0 : Hid (∀ g ∈ out.take 0, aheadL lot g ((X : Int), (Y : Int), u - z, u)) := fun g hg => by simp at hg
              have hLot := h.below hb3
              go_wp2_with fail
              go_loopw [13] (fun s wr => ∃ t : Nat, t ≤ L ∧ s = .int .i64 t ∧ Hid (∀ g ∈ out.take t, aheadL lot g ((X : Int), (Y : Int), u - z, u)) ∧ Below w3.heap.size w3 wr) (fun s _ => L - (intOf s).toNat)
              case atStart => exact ⟨0, Nat.zero_le _, rfl, h0, Below.refl _ _⟩
              case round =>
                clear h0
                obtain ⟨t, ht, rfl, hT, hbw⟩ := hrel
                by_cases hlt3 : t < L
                · obtain ⟨b, off, x', y', m', f', e', c0, c1, c2, c3, hat, _⟩ := (OAgg.below hO3 hbw).reads.lnk hlt3
                  cases e'
                  have hk := hkn.below hbw hkn.lt
                  have k0 := hk.cell 0
                  have k1 := hk.cell 1
                  have k2 := hk.cell 2
                  have k3 := hk.cell 3
                  have hLr := hLot.below hbw
                  have hq : ∀ q, Calls Tryz.prog 50 #[.agg #[.int .i64 x', .int .i64 y', .int .i64 m', .int .i64 f'], .agg #[.int .i64 (X : Int), .int .i64 (Y : Int), .int .i64 (u - z), .int .i64 u], .slice A n cp] (More wr q) fun e w'' => e = .returned (.bool (decide (aheadL lot (x', y', m', f') ((X : Int), (Y : Int), u - z, u)))) ∧ ∃ q', w'' = More wr q' := fun q => more_of (aheadK_any x' y' m' f' _ _ _ _ A n cp lot _ (hLr.more q))
                  by_cases hah : aheadL lot (x', y', m', f') ((X : Int), (Y : Int), u - z, u)
                  · have hT' : Hid (∀ g ∈ out.take (t + 1), aheadL lot g ((X : Int), (Y : Int), u - z, u)) := fun g hg => by
                      rw [List.take_add_one, hat.out] at hg
                      rcases List.mem_append.1 hg with hg | hg
                      · exact hT.out g hg
                      · simp at hg; rw [hg]; exact hah
                    rw [decide_eq_true hah] at hq
                    clear hah hat hT
                    go_wp2_with fail
                    refine wp_region_more (by kernel_rfl) (by kernel_rfl) ?_
                    repeat (go_big_quiet_step ((go_at_call 50; with_reducible exact hq _)))
                    refine wpQuiet_nil ?_
                    rintro w4 ⟨qw4, hww4⟩
                    have hbw4 := below_of_eq hww4
                    clear hww4 qw4
                    have hbw2 := Below_trans' hbw hbw.size hbw4
                    clear c0 c1 c2 c3 k0 k1 k2 k3 hq
                    go_wp2
                    go_roundw
                    case rel => exact ⟨t + 1, by omega, by go_num, hT', hbw2⟩
                    case measure => simp [intOf] <;> omega
                  · have hins := hide (insK_at (t := t) hT.out (.inr ⟨_, hat.out, hah⟩))
                    rw [decide_eq_false hah] at hq
                    clear hah hat hT
                    go_wp2_with fail
                    refine wp_region_more (by kernel_rfl) (by kernel_rfl) ?_
                    repeat (go_big_quiet_step ((go_at_call 50; with_reducible exact hq _)))
                    refine wpQuiet_nil ?_
                    rintro w4 ⟨qw4, hww4⟩
                    have hbw4 := below_of_eq hww4
                    clear hww4 qw4
                    have hbw2 := Below_trans' hbw hbw.size hbw4
                    clear c0 c1 c2 c3 k0 k1 k2 k3 hq
                    have hb4 := Below_trans' hb3 hb3.size hbw2
                    have hA4 := hA3.below hbw2 hA3.lt
                    have hO4 := OAgg.below hO3 hbw2
                    have hk4 := hkn.below hbw2 hkn.lt
                    have hLc : L ≤ cv := hO4.reads.2.1
                    clear hbw hbw4
                    go_upto_region 17 with fail
                    obtain ⟨A1, n1, c1, hS1, hR1⟩ := sliced_loK hO4.reads ht
                    have hn1 : n1 ≤ 200 := by have h1 := hR1.len; have h2 := hL2.out; rw [List.length_take] at h1; omega
                    obtain ⟨v1, w5, a1, a2, a3, a4⟩ := OLnk.apps (OAgg.nil_ ELnk 49 4 w4 w.heap.size) hR1 (by simp; omega) hb4.size 32
                    rw [List.nil_append] at a2
                    go_upto_region 18 with (first | (refine sliceLnkLo rfl rfl rfl rfl (by omega) hS1 ?_) | (at_builtin; refine list_app rfl rfl rfl rfl a1 ?_))
                    clear a1 hS1 hR1
                    have hk5 := a4.has hk4 (fun e => by cases e)
                    have hA5 := a4.has hA4 (fun e => by cases e)
                    have hO5 := hO4.frame a4 (fun _ h => h.elim) (fun b _ e => by cases e)
                    have hb5 := below_own hb4 hb4.size (OAgg.nil_ ELnk 49 4 w4 w.heap.size) a4
                    have hv1 : Hid (∀ b, v1.ownBlock = some b → (w4).heap.size ≤ b) := fun b hb' => by
                      rcases a3 with e | ⟨b2, e, hb2'⟩
                      · rw [e] at hb'; cases hb'
                      · rw [e] at hb'; have := Option.some.inj hb'; omega
                    have hsz5 := hide a4.size
                    clear a3 a4
                    have r0 := hk5.cell 0
                    have r1 := hk5.cell 1
                    have r2 := hk5.cell 2
                    have r3 := hk5.cell 3
                    obtain ⟨Av1, cv1, rfl⟩ := a2.slice
                    have hl1 : Hid ((out.take t).length ≤ 200) := by have h2 := hL2.out; show _ ≤ 200; rw [List.length_take]; omega
                    obtain ⟨v2, w6, b1, b2, b3, b4⟩ := OLnk.app a2 h64.out (by have := hl1.out; omega) hb5.size 32
                    generalize (out.take t).length = n1' at *
                    go_upto_region 19 with (at_builtin; refine list_app rfl rfl rfl rfl b1 ?_)
                    clear b1 r0 r1 r2 r3
                    have hwlt : w.heap.size < (w4).heap.size := hA4.lt
                    have hlt5 : (w4).heap.size ≤ w5.heap.size := hsz5.out
                    have hA6 := b4.has hA5 (fun e => by have := hv1.out _ e; omega)
                    have hO6 := hO5.frame b4 (fun _ h => h.elim) (fun b hb' e => by have h1 := hv1.out _ e; have h2 := (hO4.lt hb').2; omega)
                    have hb6 := below_own hb5 hb5.size a2 b4
                    have hv2 : Hid (∀ b, v2.ownBlock = some b → (w4).heap.size ≤ b) := fun b hb' => by
                      rcases b3 with e | ⟨b2', e, hb2'⟩
                      · rw [e] at hb'; exact hv1.out b hb'
                      · rw [e] at hb'; have := Option.some.inj hb'; omega
                    clear b3 b4
                    obtain ⟨A2, n2, c2, hS2, hR2⟩ := sliced_hiK hO6.reads ht
                    have hn2 : n2 ≤ 200 := by have h1 := hR2.len; have h2 := hL2.out; have h3 := HL.out; rw [List.length_drop] at h1; omega
                    obtain ⟨v3, w7, d1, d2, d3, d4⟩ := OLnk.apps b2 hR2 (by have h2 := hL2.out; have h3 := HL.out; rw [List.length_append, List.length_take, List.length_singleton]; omega) hb6.size 32
                    obtain ⟨Av2, cv2, rfl⟩ := b2.slice
                    have hA7 := d4.has hA6 (fun e => by have := hv2.out _ e; omega)
                    have hb7 := below_own hb6 hb6.size b2 d4
                    clear d3 d4
                    go_wp2_with (first | (refine sliceLnkHi rfl rfl rfl rfl (by omega) hS2 ?_) | (at_builtin; refine list_app rfl rfl rfl rfl d1 ?_))
                    clear d1
                    go_wp2
                    go_roundw
                    case rel => exact ⟨Y + 1, by omega, by go_num, by rw [hbt2.out, hins.out]; exact d2, hA7, hb7⟩
                    case measure => simp [intOf] <;> omega
                · have hins := hide (insK_at (t := t) hT.out (.inl (by rw [HL.out]; omega)))
                  go_wp2_with fail
                  refine wp_region_more (by kernel_rfl) (by kernel_rfl) ?_
                  repeat (go_big_quiet_step (fail))
                  refine wpQuiet_nil ?_
                  rintro w4 ⟨qw4, hww4⟩
                  have hbw4 := below_of_eq hww4
                  clear hww4 qw4
                  have hbw2 := Below_trans' hbw hbw.size hbw4
                  have hb4 := Below_trans' hb3 hb3.size hbw2
                  have hA4 := hA3.below hbw2 hA3.lt
                  have hO4 := OAgg.below hO3 hbw2
                  have hk4 := hkn.below hbw2 hkn.lt
                  have hLc : L ≤ cv := hO4.reads.2.1
                  clear hbw hbw4
                  go_upto_region 17 with fail
                  obtain ⟨A1, n1, c1, hS1, hR1⟩ := sliced_loK hO4.reads ht
                  have hn1 : n1 ≤ 200 := by have h1 := hR1.len; have h2 := hL2.out; rw [List.length_take] at h1; omega
                  obtain ⟨v1, w5, a1, a2, a3, a4⟩ := OLnk.apps (OAgg.nil_ ELnk 49 4 w4 w.heap.size) hR1 (by simp; omega) hb4.size 32
                  rw [List.nil_append] at a2
                  go_upto_region 18 with (first | (refine sliceLnkLo rfl rfl rfl rfl (by omega) hS1 ?_) | (at_builtin; refine list_app rfl rfl rfl rfl a1 ?_))
                  clear a1 hS1 hR1
                  have hk5 := a4.has hk4 (fun e => by cases e)
                  have hA5 := a4.has hA4 (fun e => by cases e)
                  have hO5 := hO4.frame a4 (fun _ h => h.elim) (fun b _ e => by cases e)
                  have hb5 := below_own hb4 hb4.size (OAgg.nil_ ELnk 49 4 w4 w.heap.size) a4
                  have hv1 : Hid (∀ b, v1.ownBlock = some b → (w4).heap.size ≤ b) := fun b hb' => by
                    rcases a3 with e | ⟨b2, e, hb2'⟩
                    · rw [e] at hb'; cases hb'
                    · rw [e] at hb'; have := Option.some.inj hb'; omega
                  have hsz5 := hide a4.size
                  clear a3 a4
                  have r0 := hk5.cell 0
                  have r1 := hk5.cell 1
                  have r2 := hk5.cell 2
                  have r3 := hk5.cell 3
                  obtain ⟨Av1, cv1, rfl⟩ := a2.slice
                  have hl1 : Hid ((out.take t).length ≤ 200) := by have h2 := hL2.out; show _ ≤ 200; rw [List.length_take]; omega
                  obtain ⟨v2, w6, b1, b2, b3, b4⟩ := OLnk.app a2 h64.out (by have := hl1.out; omega) hb5.size 32
                  generalize (out.take t).length = n1' at *
                  go_upto_region 19 with (at_builtin; refine list_app rfl rfl rfl rfl b1 ?_)
                  clear b1 r0 r1 r2 r3
                  have hwlt : w.heap.size < (w4).heap.size := hA4.lt
                  have hlt5 : (w4).heap.size ≤ w5.heap.size := hsz5.out
                  have hA6 := b4.has hA5 (fun e => by have := hv1.out _ e; omega)
                  have hO6 := hO5.frame b4 (fun _ h => h.elim) (fun b hb' e => by have h1 := hv1.out _ e; have h2 := (hO4.lt hb').2; omega)
                  have hb6 := below_own hb5 hb5.size a2 b4
                  have hv2 : Hid (∀ b, v2.ownBlock = some b → (w4).heap.size ≤ b) := fun b hb' => by
                    rcases b3 with e | ⟨b2', e, hb2'⟩
                    · rw [e] at hb'; exact hv1.out b hb'
                    · rw [e] at hb'; have := Option.some.inj hb'; omega
                  clear b3 b4
                  obtain ⟨A2, n2, c2, hS2, hR2⟩ := sliced_hiK hO6.reads ht
                  have hn2 : n2 ≤ 200 := by have h1 := hR2.len; have h2 := hL2.out; have h3 := HL.out; rw [List.length_drop] at h1; omega
                  obtain ⟨v3, w7, d1, d2, d3, d4⟩ := OLnk.apps b2 hR2 (by have h2 := hL2.out; have h3 := HL.out; rw [List.length_append, List.length_take, List.length_singleton]; omega) hb6.size 32
                  obtain ⟨Av2, cv2, rfl⟩ := b2.slice
                  have hA7 := d4.has hA6 (fun e => by have := hv2.out _ e; omega)
                  have hb7 := below_own hb6 hb6.size b2 d4
                  clear d3 d4
                  go_wp2_with (first | (refine sliceLnkHi rfl rfl rfl rfl (by omega) hS2 ?_) | (at_builtin; refine list_app rfl rfl rfl rfl d1 ?_))
                  clear d1
                  go_wp2
                  go_roundw
                  case rel => exact ⟨Y + 1, by omega, by go_num, by rw [hbt2.out, hins.out]; exact d2, hA7, hb7⟩
                  case measure => simp [intOf] <;> omega
            · have hbt2 : Hid (rawRow m ((rangeI K).take (Y + 1)) (X : Int) = rawRow m ((rangeI K).take Y) (X : Int)) := by
                unfold Hid; rw [hnj.out, hbt.out, decide_eq_false hgt]; rfl
              have hd : u ≤ z := by omega
              clear hnj hbt hgt
              go_wp2_with fail
              refine wp_region_more (by kernel_rfl) (by kernel_rfl) ?_
              repeat (go_big_quiet_step (fail))
              refine wpQuiet_nil ?_
              rintro w2 ⟨qw2, hww2⟩
              have hbw2 := below_of_eq hww2
              clear hww2 qw2
              have hA2 := hA.below hbw2 hA.lt
              have hO2 := OAgg.below hO hbw2
              have hb2 := Below_trans' hb hb.size hbw2
              clear p0 p1 hA hO hb
              go_wp2
              go_roundw
              case rel => exact ⟨Y + 1, by omega, by go_num, by rw [hbt2.out]; exact hO2, hA2, hb2⟩
              case measure => simp [intOf] <;> omega
          · obtain rfl : Y = K := by omega
            have e : Hid ((rangeI Y).take Y = rangeI Y) := List.take_of_length_le (by rw [length_rangeI]; exact Nat.le_refl _)
            rw [e.out, ← hnx.out] at hO
            go_wp2
            go_roundw
            case rel => exact ⟨X + 1, by omega, by go_num, hO, hA, hb⟩
            case measure => simp [intOf] <;> omega
      · obtain rfl : X = K := by omega
        have e : Hid ((rangeI X).take X = rangeI X) := List.take_of_length_le (by rw [length_rangeI]; exact Nat.le_refl _)
        rw [e.out] at hO
        go_wp2
        go_ret2
        exact ⟨u9, by rw [HE.out]; rfl, by rw [hV.out]; exact hO, hb⟩
  · have hV := hide (ordV_bad he)
    have hez : (ordErr m c lot == 0) = false := by rw [beq_eq_false_iff_ne]; exact he
    generalize ordErr m c lot = er at *
    clear he
    go_enter Tryz.func13, Tryz.ntmps13
    go_upto_region 1 with fail
    try rw [hW]
    clear hW
    go_wp2_with (refine ldMat rfl rfl rfl hA0 hs ?_)
    refine hck.mono ?_
    rintro e w1 ⟨rfl, hb1⟩
    have hb01 := Below_trans' hb0 hb0.size hb1
    go_wp2
    go_ret2
    exact ⟨_, rfl, by rw [hV.out]; exact OAgg.nil_ _ _ _ _ _, hb01⟩
end Go.Proofs.YtolbceckbnifmaaGreat

namespace Go.Proofs.YtolbceckbnifmaaGreat
open Go.RowKit Go.Proofs Go.Shelf
attribute [local go_sem] cell?_more cell?_alloc_some cell?_setCell_far frozen?_alloc_some frozen?_more
theorem Own.litK (w : World) (B : Nat) (hB : B ≤ w.heap.size) : Own (w.alloc (.cells #[] 3)) B (.slice (some ⟨w.heap.size, 0, none⟩) 0 0) [] := by
  have := World.ownsRow_lit (base := B) (e := 3) (size := 1) w #[] 0 hB (by unfold maxLen; omega) (by simp)
  unfold Own
  simpa using this
/-- One more. -/
theorem Own.appK {w : World} {B : Nat} {u : Value} {xs : List Int} (h : Own w B u xs) (x : Int) (hx : I64 x) (hn : xs.length + 1 ≤ 1000000) (hB : B ≤ w.heap.size) (ty : TypeId) :
    ∃ u' w', (Builtin.append_ #[28, 28] ty #[u, .slice (some ⟨w.heap.size, 0, none⟩) 1 1]).run Tryz.prog (w.alloc (.cells #[.int .i64 x] 3)) = .ok u' w' ∧ Own w' B u' (xs ++ [x]) ∧ (u'.ownBlock = u.ownBlock ∨ ∃ b, u'.ownBlock = some b ∧ w.heap.size ≤ b) ∧ Frame' (fun b => u.ownBlock = some b) w w' := by
  have hb : Below w.heap.size w (w.alloc (.cells #[.int .i64 x] 3)) := below_allocN
  have h1 := h.below hb
  have hL : RInts (w.alloc (.cells #[.int .i64 x] 3)) (some ⟨w.heap.size, 0, none⟩) 1 1 [x] := ints_lit [x] (Has.new _ _ _) (by simp) (fun z hz => by rw [List.mem_singleton.1 hz]; exact hx)
  obtain ⟨u', w', k1, k2, k3, k4⟩ := run_appInts (w.alloc (.cells #[.int .i64 x] 3)) ty h1 hL hn (by simp; omega)
  exact ⟨u', w', k1, k2, k4.imp id fun e => ⟨_, e, by simp⟩, (Frame'.of_below hb).trans ((Frame'.of_grown k3).mono fun b _ e => e.symm)⟩
theorem below_ints {w w' W : World} {B : Nat} {v : Value} {l : List Int} (hb : Below B W w) (hB : B ≤ w.heap.size) (h : Own w B v l) (hF : Frame' (fun b => v.ownBlock = some b) w w') : Below B W w' := Frame'.below hb hF (fun _ e => (Own.own_lt h e).1) hB
theorem to_i64 {l : List Lk} {x : Int} {zs : List Int} (h : ToOK l x zs) (hl : ∀ k ∈ l, I64k k) : ∀ y ∈ zs, -9223372036854775808 ≤ y ∧ y ≤ 9223372036854775807 := fun y hy => by
  obtain ⟨k, hk, rfl⟩ := List.mem_map.1 (h.sub hy)
  exact (hl k hk).2.1
theorem to_len {l : List Lk} {x : Int} {zs : List Int} (h : ToOK l x zs) : zs.length ≤ l.length := by
  have := h.once.length_le_of_subset h.sub
  rwa [List.length_map] at this
set_option maxRecDepth 100000 in
set_option maxHeartbeats 2000000 in
theorem rleads_any (A : Option Addr) (n cp : Nat) (l : List Lk) (x y : Int) (w : World) (h : RAgg ELnk 4 w A n cp l) (hn : n ≤ 1000) :
    Calls Tryz.prog 23 #[.slice A n cp, .int .i64 x, .int .i64 y] w fun e w' => e = .returned (.bool (leadsB l x y)) ∧ Below w.heap.size w w' := by
  have hln := hide h.len
  have hl64 := hide h.lnk_i64
  have hO0 := Own.litK w w.heap.size (Nat.le_refl _)
  have hb0 : Below w.heap.size w (w.alloc (.cells #[] 3)) := below_allocN
  go_enter Tryz.func23, Tryz.ntmps23
  go_wp2
  go_loopw [7, 8] (fun v s wr => ∃ i : Nat, i ≤ n + 1 ∧ s = .int .i64 i ∧ Own wr w.heap.size v (toK l x i) ∧ Below w.heap.size w wr) (fun _ s _ => n + 1 - (intOf s).toNat)
  case atStart => exact ⟨0, by omega, rfl, hO0, hb0⟩
  case round =>
    clear hO0 hb0
    obtain ⟨i, hi, rfl, hO, hb⟩ := hrel
    by_cases hlt : i ≤ n
    · have hO1 : Own wr w.heap.size u7 ((l.take 0).foldl (toStep x) (toK l x i)) := by rw [List.take_zero]; exact hO
      have hK := hide (toK_ok l x i)
      have hnx : Hid (toK l x (i + 1) = l.foldl (toStep x) (toK l x i)) := rfl
      obtain ⟨wx, rfl⟩ : ∃ wx : World, wx = wr := ⟨_, rfl⟩
      go_wp2
      clear hO
      generalize toK l x i = t0 at *
      go_loopw [7, 9] (fun v s wr => ∃ k : Nat, k ≤ n ∧ s = .int .i64 k ∧ Own wr w.heap.size v ((l.take k).foldl (toStep x) t0) ∧ Below w.heap.size w wr) (fun _ s _ => n - (intOf s).toNat)
      case atStart => exact ⟨0, Nat.zero_le _, rfl, hO1, hb⟩
      case round =>
        clear hO1 hb
        obtain ⟨k, hk, rfl, hO, hb⟩ := hrel
        by_cases hltk : k < n
        · obtain ⟨b, off, x', y', m', f', rfl, c0, c1, c2, c3, hat, h64⟩ := (h.below below_lnk hb).lnk hltk
          have hok := hide (hK.out.part (r := l.take k) (List.take_subset k l))
          have hfo : Hid ((l.take (k + 1)).foldl (toStep x) t0 = toStep x ((l.take k).foldl (toStep x) t0) (x', y', m', f')) := by unfold Hid; rw [List.take_add_one, hat.out, List.foldl_append]; rfl
          generalize (l.take k).foldl (toStep x) t0 = zs at *
          clear c2 c3 hat
          obtain ⟨Av, cv, rfl⟩ := hO.slice
          have hR := hO.ints (to_i64 hok.out hl64.out)
          by_cases hx : x' = x
          · cases h2 : inL zs y' with
            | true =>
              have hst : toStep x zs (x', y', m', f') = zs := by unfold toStep; rw [if_neg]; intro hh; exact hh.2 (by simpa [inL] using h2)
              subst hx
              go_wp2_with fail
              refine (in_any Av _ cv (zs) (y') wr (hR)).mono ?_
              rintro e w' ⟨rfl, rfl⟩
              rw [h2]
              clear h2
              go_wp2
              go_roundw
              case rel => exact ⟨k + 1, by omega, by go_num, by rw [hfo.out, hst]; exact hO, hb⟩
              case measure => simp [intOf] <;> omega
            | false =>
              have hst : toStep x zs (x', y', m', f') = zs ++ [y'] := by unfold toStep; rw [if_pos ⟨.inl hx, by simpa [inL] using h2⟩]
              subst hx
              go_wp2_with fail
              refine (in_any Av _ cv (zs) (y') wr (hR)).mono ?_
              rintro e w' ⟨rfl, rfl⟩
              rw [h2]
              clear h2
              have hto : Hid (zs.length ≤ 1000) := by have := to_len hok.out; have := hln.out; show _ ≤ 1000; omega
              obtain ⟨u', w', k1, k2, k3, k4⟩ := Own.appK hO y' (by have := h64.out; exact this.2.1) (by have := hto.out; omega) hb.size 28
              have hb' := below_ints hb hb.size hO k4
              go_wp2_with (at_builtin; refine list_app rfl rfl rfl rfl k1 ?_)
              clear k1 k3 k4
              go_wp2
              go_roundw
              case rel => exact ⟨k + 1, by omega, by go_num, by rw [hfo.out, hst]; exact k2, hb'⟩
              case measure => simp [intOf] <;> omega
          · have hxz : (x' == x) = false := by rw [beq_eq_false_iff_ne]; exact hx
            cases h1 : inL zs x' with
            | false =>
              have hst : toStep x zs (x', y', m', f') = zs := by unfold toStep; rw [if_neg]; intro hh; rcases hh.1 with h | h; exact hx h; exact absurd h (by simpa [inL] using h1)
              clear hx
              go_wp2_with fail
              refine (in_any Av _ cv (zs) (x') wr (hR)).mono ?_
              rintro e w' ⟨rfl, rfl⟩
              rw [h1]
              clear h1
              go_wp2
              go_roundw
              case rel => exact ⟨k + 1, by omega, by go_num, by rw [hfo.out, hst]; exact hO, hb⟩
              case measure => simp [intOf] <;> omega
            | true =>
              cases h2 : inL zs y' with
              | true =>
                have hst : toStep x zs (x', y', m', f') = zs := by unfold toStep; rw [if_neg]; intro hh; exact hh.2 (by simpa [inL] using h2)
                clear hx
                go_wp2_with fail
                refine (in_any Av _ cv (zs) (x') wr (hR)).mono ?_
                rintro e w' ⟨rfl, rfl⟩
                rw [h1]
                clear h1
                go_wp2_with fail
                refine (in_any Av _ cv (zs) (y') wr (hR)).mono ?_
                rintro e w' ⟨rfl, rfl⟩
                rw [h2]
                clear h2
                go_wp2
                go_roundw
                case rel => exact ⟨k + 1, by omega, by go_num, by rw [hfo.out, hst]; exact hO, hb⟩
                case measure => simp [intOf] <;> omega
              | false =>
                have hst : toStep x zs (x', y', m', f') = zs ++ [y'] := by unfold toStep; rw [if_pos ⟨.inr (by simpa [inL] using h1), by simpa [inL] using h2⟩]
                clear hx
                go_wp2_with fail
                refine (in_any Av _ cv (zs) (x') wr (hR)).mono ?_
                rintro e w' ⟨rfl, rfl⟩
                rw [h1]
                clear h1
                go_wp2_with fail
                refine (in_any Av _ cv (zs) (y') wr (hR)).mono ?_
                rintro e w' ⟨rfl, rfl⟩
                rw [h2]
                clear h2
                have hto : Hid (zs.length ≤ 1000) := by have := to_len hok.out; have := hln.out; show _ ≤ 1000; omega
                obtain ⟨u', w', k1, k2, k3, k4⟩ := Own.appK hO y' (by have := h64.out; exact this.2.1) (by have := hto.out; omega) hb.size 28
                have hb' := below_ints hb hb.size hO k4
                go_wp2_with (at_builtin; refine list_app rfl rfl rfl rfl k1 ?_)
                clear k1 k3 k4
                go_wp2
                go_roundw
                case rel => exact ⟨k + 1, by omega, by go_num, by rw [hfo.out, hst]; exact k2, hb'⟩
                case measure => simp [intOf] <;> omega
        · have e : Hid (l.take k = l) := List.take_of_length_le (by rw [hln.out]; omega)
          rw [e.out, ← hnx.out] at hO
          go_wp2
          go_roundw
          case rel => exact ⟨i + 1, by omega, by go_num, hO, hb⟩
          case measure => simp [intOf] <;> omega
    · obtain rfl : i = n + 1 := by omega
      have hK := toK_ok l x (n + 1)
      obtain ⟨Av, cv, rfl⟩ := hO.slice
      have hR := hO.ints (to_i64 hK hl64.out)
      have hfin : Hid (leadsB l x y = inL (toK l x (n + 1)) y) := by unfold Hid leadsB; rw [hln.out]
      have hcall := in_any Av _ cv (toK l x (n + 1)) y wr hR
      have hend : ¬ ((n + 1 : Nat) : Int) ≤ (n : Int) := by omega
      clear hK hR hO
      generalize toK l x (n + 1) = zs at *
      go_wp2_with fail
      refine hcall.mono ?_
      rintro e w' ⟨rfl, rfl⟩
      go_wp2
      go_ret
      exact ⟨ret_b (by rw [hfin.out]), hb⟩
set_option maxRecDepth 100000 in
set_option maxHeartbeats 2000000 in
theorem rlock_any (C : Array Value) (m : M) (hC : Mat C m) (c : Int) (A : Option Addr) (n cp : Nat) (lot : List Int) (w : World) (h : RInts w A n cp lot) :
    Calls Tryz.prog 15 #[.agg C, .int .i64 c, .slice A n cp] w (LnkPost w (lockV m c lot) (ordErr m c lot)) := by
  have hs := hC.size
  have hA0 : Has (w.alloc (.cells C 24)) w.heap.size 24 C := Has.new _ _ _
  have hb0 : Below w.heap.size w (w.alloc (.cells C 24)) := (Below.refl _ _).alloc (Nat.le_refl _) _
  have hck := rorder_any C m hC c A n cp lot _ (h.below hb0)
  have hV : Hid (lockV m c lot = lockS (ordV m c lot)) := rfl
  have hVl := hide (ordV_len m c lot)
  generalize hW : World.alloc w (.cells C 24) = W at *
  generalize ordErr m c lot = er at *
  generalize ordV m c lot = all at *
  go_enter Tryz.func15, Tryz.ntmps15
  go_upto_region 1 with fail
  try rw [hW]
  clear hW
  go_wp2_with (refine ldMat rfl rfl rfl hA0 hs ?_)
  refine hck.mono ?_
  rintro e w1 ⟨va, rfl, hO1, hb1⟩
  have hb01 := Below_trans' hb0 hb0.size hb1
  have hO1 := hO1.mono hb0.size
  clear hck hA0 hb0 hb1
  obtain ⟨Aa, ca, rfl⟩ := hO1.slice
  obtain ⟨N, hN⟩ : ∃ N, all.length = N := ⟨_, rfl⟩
  rw [hN] at hO1 ⊢
  have HN := hide hN
  have hN45 : N ≤ 45 := by have := hVl.out; omega
  clear hN hVl
  go_wp2
  go_loopw [10, 11] (fun v s wr => ∃ i : Nat, i ≤ N ∧ s = .int .i64 i ∧ OLnk wr w.heap.size v (lockS (all.take i)) ∧ OLnk wr w.heap.size (.slice Aa N ca) all ∧ Hid (∀ b, v.ownBlock = some b → (Value.slice Aa N ca).ownBlock ≠ some b) ∧ Below w.heap.size w wr) (fun _ s _ => N - (intOf s).toNat)
  case atStart => exact ⟨0, Nat.zero_le _, rfl, OAgg.nil_ _ _ _ _ _, hO1, (fun b h => by cases h), hb01⟩
  case round =>
    clear hO1 hb01
    obtain ⟨i, hi, rfl, hO, hA, hv, hb⟩ := hrel
    by_cases hlt : i < N
    · obtain ⟨b, off, x, y, mg, f, rfl, c0, c1, c2, c3, hat, h64⟩ := hA.reads.lnk hlt
      have hst := hide (lock_take hat.out)
      have hll : Hid ((lockS (all.take i)).length ≤ 45) := by
        have h1 := lock_len (all.take i)
        rw [List.length_take] at h1
        show _ ≤ 45
        omega
      obtain ⟨Av, cv, rfl⟩ := hO.slice
      have hR := hO.reads
      have hcall : ∀ q, Calls Tryz.prog 23 #[.slice Av (lockS (all.take i)).length cv, .int .i64 y, .int .i64 x] (More wr q) fun e w'' => e = .returned (.bool (leadsB (lockS (all.take i)) y x)) ∧ ∃ q', w'' = More wr q' := fun q => more_of (rleads_any Av _ cv (lockS (all.take i)) y x (More wr q) (hR.below below_lnk (more_below wr q)) (by have := hll.out; omega))
      clear hR hat
      generalize hLn : (lockS (all.take i)).length = Ln at *
      have HLn := hide hLn
      clear hLn
      cases hle : leadsB (lockS (all.take i)) y x with
      | true =>
        have hst2 : Hid (lockS (all.take (i + 1)) = lockS (all.take i)) := by unfold Hid; rw [hst.out]; unfold lockStep; rw [if_pos hle]
        rw [hle] at hcall
        clear hle
        go_wp2_with fail
        refine wp_region_more (by kernel_rfl) (by kernel_rfl) ?_
        repeat (go_big_quiet_step ((go_at_call 23; with_reducible exact hcall _)))
        refine wpQuiet_nil ?_
        rintro w2 ⟨qw2, hww2⟩
        have hbw2 := below_of_eq hww2
        clear hww2 qw2
        have hO3 := OAgg.below hO hbw2
        have hA3 := OAgg.below hA hbw2
        have hb4 := Below_trans' hb hb.size hbw2
        clear c0 c1 c2 c3 hcall hO hA
        go_wp2
        go_roundw
        case rel => exact ⟨i + 1, by omega, by go_num, by rw [hst2.out]; exact hO3, hA3, hv, hb4⟩
        case measure => simp [intOf] <;> omega
      | false =>
        have hst2 : Hid (lockS (all.take (i + 1)) = lockS (all.take i) ++ [(x, y, mg, f)]) := by unfold Hid; rw [hst.out]; unfold lockStep; rw [if_neg (by rw [hle]; simp)]
        rw [hle] at hcall
        clear hle
        go_wp2_with fail
        refine wp_region_more (by kernel_rfl) (by kernel_rfl) ?_
        repeat (go_big_quiet_step ((go_at_call 23; with_reducible exact hcall _)))
        refine wpQuiet_nil ?_
        rintro w2 ⟨qw2, hww2⟩
        have hbw2 := below_of_eq hww2
        clear hww2 qw2
        have hO3 := OAgg.below hO hbw2
        have hA3 := OAgg.below hA hbw2
        have hb4 := Below_trans' hb hb.size hbw2
        have k0 := keep_cell hbw2 c0
        have k1 := keep_cell hbw2 c1
        have k2 := keep_cell hbw2 c2
        have k3 := keep_cell hbw2 c3
        clear c0 c1 c2 c3 hcall hO hA
        obtain ⟨v', w', q1, q2, q3, q4⟩ := OLnk.app hO3 h64.out (by have h1 := HLn.out; have h2 := hll.out; omega) hb4.size 32
        go_wp2_with (at_builtin; refine list_app rfl rfl rfl rfl q1 ?_)
        clear q1 k0 k1 k2 k3
        have hA5 := hA3.frame q4 (fun _ h => h.elim) (fun b hb' e => hv.out b e hb')
        have hb5 : Below w.heap.size w w' := below_own hb4 hb4.size hO3 q4
        have hv5 : Hid (∀ b', v'.ownBlock = some b' → (Value.slice (some ⟨b, off, none⟩) N ca).ownBlock ≠ some b') := fun b' hb' e => by
          rcases q3 with e' | ⟨b2, e', hb2'⟩
          · rw [e'] at hb'; exact hv.out b' hb' e
          · rw [e'] at hb'
            have h1 := Option.some.inj hb'
            have h2 := (hA3.lt e).2
            omega
        clear q3 q4
        go_wp2
        go_roundw
        case rel => exact ⟨i + 1, by omega, by go_num, by rw [hst2.out]; exact q2, hA5, hv5, hb5⟩
        case measure => simp [intOf] <;> omega
    · obtain rfl : i = N := by omega
      have e : Hid (all.take i = all) := List.take_of_length_le (by rw [HN.out]; exact Nat.le_refl _)
      rw [e.out, ← hV.out] at hO
      clear hv
      go_wp2
      go_ret2
      exact ⟨u10, rfl, hO, hb⟩
theorem same14_eq (A A' : Option Addr) (n c n' c' : Nat) (l : List Lk) (w : World) (h : RAgg ELnk 4 w A n c l) (h' : RAgg ELnk 4 w A' n' c' l) :
    Calls Tryz.prog 18 #[.slice A n c, .slice A' n' c'] w fun e w' => e = .returned (.bool true) ∧ Below w.heap.size w w' := by
  obtain rfl : n = n' := by rw [← h.len, ← h'.len]
  have hle := h.le
  go_enter Tryz.func18, Tryz.ntmps18
  go_wp2
  go_loopw [5] (fun s wr => ∃ k : Nat, k ≤ n ∧ s = .int .i64 k ∧ Below w.heap.size w wr) (fun s _ => n - (intOf s).toNat)
  case atStart => exact ⟨0, Nat.zero_le _, rfl, Below.refl _ _⟩
  case round =>
    obtain ⟨k, hk, rfl, hb⟩ := hrel
    by_cases hlt : k < n
    · obtain ⟨b, off, x, y, m, f, rfl, c0, c1, c2, c3, hat, _⟩ := (h.below below_lnk hb).lnk hlt
      obtain ⟨b', off', x', y', m', f', rfl, d0, d1, d2, d3, hat', _⟩ := (h'.below below_lnk hb).lnk hlt
      have e := hat.out.symm.trans hat'.out
      cases e
      clear hat hat'
      go_wp2_with fail
      refine wp_region_more (by kernel_rfl) (by kernel_rfl) ?_
      repeat (go_big_quiet_step (fail))
      refine wpQuiet_nil ?_
      rintro w2 ⟨qw2, hww2⟩
      have hbw2 := below_of_eq hww2
      clear hww2 qw2
      have hb2 := Below_trans' hb hb.size hbw2
      clear c0 c1 c2 c3 d0 d1 d2 d3
      go_wp2
      go_roundw
      case rel => exact ⟨k + 1, by omega, by go_num, hb2⟩
      case measure => simp [intOf] <;> omega
    · go_wp2
      go_ret
      exact ⟨rfl, hb⟩
end Go.Proofs.YtolbceckbnifmaaGreat
