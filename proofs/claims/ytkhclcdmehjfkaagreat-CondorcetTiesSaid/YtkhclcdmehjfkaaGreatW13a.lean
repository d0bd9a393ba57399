/-
  The layer paths: links, longer.
  The layer paths: Strengths, Strength.
-/
import Derived.Test.YtkhclcdmehjfkaaGreatW10f
import Derived.Test.YtkhclcdmehjfkaaGreatSpecPa
import Derived.Test.YtkhclcdmehjfkaaGreatQTail
import Derived.Test.YtkhclcdmehjfkaaGreatMat
import Derived.Deep.LoopGhost
namespace Go.Proofs.YtkhclcdmehjfkaaGreat
open Go.RowKit Go.Proofs
attribute [local go_sem] cell?_more cell?_alloc_some cell?_setCell_far frozen?_alloc_some frozen?_more
theorem upTo_skip {g : M} {X Y : Nat} (h : g X Y = 0) (a b : Nat) : upTo g X Y a b = upTo g X (Y + 1) a b := by
  unfold upTo
  by_cases e : a = X ∧ b = Y
  · obtain ⟨rfl, rfl⟩ := e
    rw [if_neg (by omega), if_pos (by omega), h]
  · by_cases e2 : a < X ∨ (a = X ∧ b < Y)
    · rw [if_pos e2, if_pos (by omega)]
    · rw [if_neg e2, if_neg (by omega)]
set_option maxRecDepth 100000 in
set_option maxHeartbeats 1000000 in
theorem links_any (C : Array Value) (m : M) (hC : Mat C m) (w : World) :
    Calls Tryz.prog 58 #[.agg C] w fun e w' => ∃ D, e = .returned (.agg D) ∧ Mat D (lnkS m) ∧ Below w.heap.size w w' := by
  have hs := hC.size
  have hg0 : Has ((w.alloc (.cells C 24)).alloc (.cells Tryz.zeroCells24 24)) w.heap.size 24 C := (Has.new _ _ _).alloc _
  have hg1 : Has ((w.alloc (.cells C 24)).alloc (.cells Tryz.zeroCells24 24)) (w.heap.size + 1) 24 Tryz.zeroCells24 := Has.new2 _ _ _ _
  have hb0 : Below w.heap.size w ((w.alloc (.cells C 24)).alloc (.cells Tryz.zeroCells24 24)) := ((Below.refl _ _).alloc (Nat.le_refl _) _).alloc (by simp) _
  go_enter Tryz.func58, Tryz.ntmps58
  go_wp2
  generalize hW : World.alloc (World.alloc w _) _ = W at hg0 hg1 hb0
  try rw [hW]
  clear hW
  go_loopw [6] (fun i wr => ∃ (X : Nat) (D : Array Value), X ≤ 10 ∧ i = .int .i64 X ∧ Has wr w.heap.size 24 C ∧ Has wr (w.heap.size + 1) 24 D ∧ Mat D (upTo (lnkS m) X 0) ∧ Below w.heap.size w wr) (fun i _ => 10 - (intOf i).toNat)
  case atStart => exact ⟨0, _, by omega, rfl, hg0, hg1, zeroMat.congr (fun x y _ _ => upTo_zero _ x y), hb0⟩
  case round =>
    obtain ⟨X, D, hX, rfl, hA, hD, hM, hb⟩ := hrel
    obtain ⟨wo, rfl⟩ : ∃ wo : World, wo = wr := ⟨_, rfl⟩
    by_cases hlt : X < 10
    · have hRow := hC.row hlt
      have b1 : (X : Int) < 10 := by omega
      go_wp2_with (refine ldRowAt rfl rfl rfl hA hC hlt ?_)
      generalize C.extract (X * 10) (X * 10 + 10) = R at hRow
      go_loopw [12] (fun i wr => ∃ (Y : Nat) (D : Array Value), Y ≤ 10 ∧ i = .int .i64 Y ∧ Has wr w.heap.size 24 C ∧ Has wr (w.heap.size + 1) 24 D ∧ Mat D (upTo (lnkS m) X Y) ∧ Below w.heap.size w wr) (fun i _ => 10 - (intOf i).toNat)
      case atStart => exact ⟨0, D, by omega, rfl, hA, hD, hM, hb⟩
      case round =>
        obtain ⟨Y, D', hY, rfl, hA', hD', hM', hb'⟩ := hrel
        by_cases hltY : Y < 10
        · have hix2 := ixRow hRow hltY
          have b2 : (Y : Int) < 10 := by omega
          have hcu := (hA'.cell (Y * 10 + X)).trans (hC.at_ Y X hltY hlt)
          have hcd := (hD'.cell (X * 10 + Y)).trans (hM'.at_ X Y hlt hltY)
          have hfr := hD'.free (X * 10 + Y)
          have hbv := hC.bd X Y hlt hltY
          have hput := hide (fun (v : Int) (hv : I64 v) => hM'.put hlt hltY (v := v) hv)
          have hlk := hide (show lnkS m X Y = if m Y X < m X Y then m X Y else 0 from rfl)
          generalize hv : m X Y = v at hix2 hbv
          generalize hu : m Y X = u at hcu
          have Hv := hide hv
          have Hu := hide hu
          clear hv hu
          by_cases hgt : u < v
          · have hl : Hid (lnkS m X Y = v) := by unfold Hid; rw [hlk.out, Hu.out, Hv.out, if_pos hgt]
            go_wp2
            go_roundw
            case rel => exact ⟨Y + 1, _, by omega, by go_num, hA'.far (by show w.heap.size ≠ w.heap.size + 1; omega) _, hD'.put _ _, (hput.out v hbv).congr (fun a b _ _ => by rw [← hl.out]; exact upTo_put a b), hb'.setCell (by show w.heap.size ≤ w.heap.size + 1; omega) _⟩
            case measure => simp [intOf] <;> omega
          · have hl : Hid (lnkS m X Y = 0) := by unfold Hid; rw [hlk.out, Hu.out, Hv.out, if_neg hgt]
            go_wp2
            go_roundw
            case rel => exact ⟨Y + 1, D', by omega, by go_num, hA', hD', hM'.congr (fun a b _ _ => upTo_skip hl.out a b), hb'⟩
            case measure => simp [intOf] <;> omega
        · obtain rfl : Y = 10 := by omega
          go_wp2
          go_roundw
          case rel => exact ⟨X + 1, D', by omega, by go_num, hA', hD', hM'.congr (fun a b _ hb2 => upTo_row a b hb2), hb'⟩
          case measure => simp [intOf] <;> omega
    · obtain rfl : X = 10 := by omega
      go_wp2_with (first | (refine ldMat rfl rfl rfl hD hM.size ?_) | (refine stMat rfl rfl rfl rfl hD hM.size hM.size hM.one ?_))
      refine retMat rfl rfl (hD.setRow D) hM.size rfl ⟨D, rfl, hM.congr (fun a b ha _ => upTo_all a b ha), below_setRow hb (by omega) _⟩

/-- What longer has made of s. -/
def longT (s : M) (X Y Z : Nat) : M := fun a b => if a < X then longK s 10 a b else if a = X then (if b < Z then longK s (Y + 1) a b else longK s Y a b) else s a b
theorem longT_zero (s : M) (a b : Nat) : s a b = longT s 0 0 0 a b := by
  unfold longT
  rw [if_neg (Nat.not_lt_zero a)]
  by_cases h : a = 0
  · rw [if_pos h, if_neg (Nat.not_lt_zero b)]; rfl
  · rw [if_neg h]
theorem mm_eq (r p q : Int) : (if r < if q < p then q else p then if q < p then q else p else r) = max r (min p q) := by
  split <;> split <;> omega
theorem longT_put {s : M} {X Y Z : Nat} (hne : X ≠ Z) (a b : Nat) : (if a = X ∧ b = Z then max (longK s Y X Z) (min (s X Y) (s Y Z)) else longT s X Y Z a b) = longT s X Y (Z + 1) a b := by
  unfold longT
  by_cases e : a = X ∧ b = Z
  · obtain ⟨rfl, rfl⟩ := e
    rw [if_pos ⟨rfl, rfl⟩, if_neg (by omega), if_pos rfl, if_pos (by omega), longK_succ, if_neg hne]
  · rw [if_neg e]
    by_cases h1 : a < X
    · rw [if_pos h1, if_pos h1]
    · rw [if_neg h1, if_neg h1]
      by_cases h2 : a = X
      · rw [if_pos h2, if_pos h2]
        by_cases h3 : b < Z
        · rw [if_pos h3, if_pos (by omega)]
        · rw [if_neg h3, if_neg (by omega)]
      · rw [if_neg h2, if_neg h2]
theorem longT_here (s : M) (X Y Z : Nat) : longT s X Y Z X Z = longK s Y X Z := by
  unfold longT; rw [if_neg (by omega), if_pos rfl, if_neg (by omega)]
theorem longT_skip {s : M} {X Y Z : Nat} (he : X = Z) (a b : Nat) : longT s X Y Z a b = longT s X Y (Z + 1) a b := by
  subst he
  unfold longT
  by_cases h1 : a < X
  · rw [if_pos h1, if_pos h1]
  · rw [if_neg h1, if_neg h1]
    by_cases h2 : a = X
    · rw [if_pos h2, if_pos h2]
      by_cases h3 : b < X
      · rw [if_pos h3, if_pos (by omega)]
      · rw [if_neg h3]
        by_cases h4 : b = X
        · subst h4; subst h2; rw [if_pos (by omega), longK_diag, longK_diag]
        · rw [if_neg (by omega)]
    · rw [if_neg h2, if_neg h2]
theorem longT_mid {s : M} {X Y : Nat} (a b : Nat) (hb : b < 10) : longT s X Y 10 a b = longT s X (Y + 1) 0 a b := by
  unfold longT
  by_cases h1 : a < X
  · rw [if_pos h1, if_pos h1]
  · rw [if_neg h1, if_neg h1]
    by_cases h2 : a = X
    · rw [if_pos h2, if_pos h2, if_pos hb, if_neg (by omega)]
    · rw [if_neg h2, if_neg h2]
theorem longT_row {s : M} {X : Nat} (a b : Nat) : longT s X 10 0 a b = longT s (X + 1) 0 0 a b := by
  unfold longT
  by_cases h1 : a < X
  · rw [if_pos h1, if_pos (by omega)]
  · rw [if_neg h1]
    by_cases h2 : a = X
    · rw [if_pos h2, if_neg (by omega), if_pos (by omega)]
    · rw [if_neg h2, if_neg (by omega)]
      split
      · rw [if_neg (by omega)]; rfl
      · rfl
theorem longT_end {s : M} (a b : Nat) (ha : a < 10) : longT s 10 0 0 a b = longM s a b := by unfold longT; rw [if_pos ha]; rfl
set_option maxRecDepth 100000 in
set_option maxHeartbeats 2000000 in
theorem longer_any (C : Array Value) (s : M) (hC : Mat C s) (w : World) :
    Calls Tryz.prog 59 #[.agg C] w fun e w' => ∃ D, e = .returned (.agg D) ∧ Mat D (longM s) ∧ Below w.heap.size w w' := by
  have hs := hC.size
  have hA0 : Has ((w.alloc (.cells C 24)).alloc (.cells Tryz.zeroCells24 24)) w.heap.size 24 C := (Has.new _ _ _).alloc _
  have hR0 : Has ((w.alloc (.cells C 24)).alloc (.cells Tryz.zeroCells24 24)) (w.heap.size + 1) 24 Tryz.zeroCells24 := Has.new2 _ _ _ _
  have hb0 : Below w.heap.size w ((w.alloc (.cells C 24)).alloc (.cells Tryz.zeroCells24 24)) := ((Below.refl _ _).alloc (Nat.le_refl _) _).alloc (by simp) _
  have hZ1 : Has (((w.alloc (.cells C 24)).alloc (.cells Tryz.zeroCells24 24)).alloc (.cells Tryz.zeroCells24 24)) (w.heap.size + 2) 24 Tryz.zeroCells24 := Has.new3 _ _ _ _ _
  have hb1 : Below w.heap.size w ((((w.alloc (.cells C 24)).alloc (.cells Tryz.zeroCells24 24)).alloc (.cells Tryz.zeroCells24 24)).setRow (w.heap.size + 2) C) := below_setRow (hb0.alloc hb0.size _) (by omega) _
  have hA1 : Has ((((w.alloc (.cells C 24)).alloc (.cells Tryz.zeroCells24 24)).alloc (.cells Tryz.zeroCells24 24)).setRow (w.heap.size + 2) C) w.heap.size 24 C := (hA0.alloc _).farRow (by omega) _
  have hR1 : Has ((((w.alloc (.cells C 24)).alloc (.cells Tryz.zeroCells24 24)).alloc (.cells Tryz.zeroCells24 24)).setRow (w.heap.size + 2) C) (w.heap.size + 1) 24 Tryz.zeroCells24 := (hR0.alloc _).farRow (by omega) _
  have hO1 := hZ1.setRow C
  go_enter Tryz.func59, Tryz.ntmps59
  go_wp2_with (first | (refine ldMat rfl rfl rfl hA0 hs ?_) | (refine stMat rfl rfl rfl rfl hZ1 zeroMat.size hs hC.one ?_))
  generalize hW : World.setRow _ _ _ = W at hA1 hR1 hO1 hb1
  try rw [hW]
  clear hW hA0 hR0 hZ1
  go_loopw [8] (fun i wr => ∃ (X : Nat) (D : Array Value), X ≤ 10 ∧ i = .int .i64 X ∧ Has wr w.heap.size 24 C ∧ Has wr (w.heap.size + 1) 24 Tryz.zeroCells24 ∧ Has wr (w.heap.size + 2) 24 D ∧ Mat D (longT s X 0 0) ∧ Below w.heap.size w wr) (fun i _ => 10 - (intOf i).toNat)
  case atStart => exact ⟨0, _, by omega, rfl, hA1, hR1, hO1, hC.congr (fun x y _ _ => longT_zero s x y), hb1⟩
  case round =>
    obtain ⟨X, D, hX, rfl, hA, hR, hO, hM, hb⟩ := hrel
    obtain ⟨wo, rfl⟩ : ∃ wo : World, wo = wr := ⟨_, rfl⟩
    by_cases hlt : X < 10
    · have b1 : (X : Int) < 10 := by omega
      go_wp2
      go_loopw [11] (fun i wr => ∃ (Y : Nat) (D : Array Value), Y ≤ 10 ∧ i = .int .i64 Y ∧ Has wr w.heap.size 24 C ∧ Has wr (w.heap.size + 1) 24 Tryz.zeroCells24 ∧ Has wr (w.heap.size + 2) 24 D ∧ Mat D (longT s X Y 0) ∧ Below w.heap.size w wr) (fun i _ => 10 - (intOf i).toNat)
      case atStart => exact ⟨0, D, by omega, rfl, hA, hR, hO, hM, hb⟩
      case round =>
        clear hA hR hO hM hb
        obtain ⟨Y, D, hY, rfl, hA, hR, hO, hM, hb⟩ := hrel
        obtain ⟨wi, rfl⟩ : ∃ wi : World, wi = wr := ⟨_, rfl⟩
        by_cases hltY : Y < 10
        · have b2 : (Y : Int) < 10 := by omega
          go_wp2
          go_loopw [14] (fun i wr => ∃ (Z : Nat) (D : Array Value), Z ≤ 10 ∧ i = .int .i64 Z ∧ Has wr w.heap.size 24 C ∧ Has wr (w.heap.size + 1) 24 Tryz.zeroCells24 ∧ Has wr (w.heap.size + 2) 24 D ∧ Mat D (longT s X Y Z) ∧ Below w.heap.size w wr) (fun i _ => 10 - (intOf i).toNat)
          case atStart => exact ⟨0, D, by omega, rfl, hA, hR, hO, hM, hb⟩
          case round =>
            clear hA hR hO hM hb
            obtain ⟨Z, D, hZ, rfl, hA, hR, hO, hM, hb⟩ := hrel
            by_cases hltZ : Z < 10
            · have b3 : (Z : Int) < 10 := by omega
              by_cases hne : X = Z
              · have f11 : ((X : Int) != (Z : Int)) = false := by simp [hne]
                have hsk := hide (@longT_skip s X Y Z hne)
                clear hne
                go_wp2
                go_roundw
                case rel => exact ⟨Z + 1, D, by omega, by go_num, hA, hR, hO, hM.congr (fun a b _ _ => hsk.out a b), hb⟩
                case measure => simp [intOf] <;> omega
              · have f11 : ((X : Int) != (Z : Int)) = true := by simp; omega
                have hpt := hide (@longT_put s X Y Z hne)
                clear hne
                have hc1 := (hA.cell (X * 10 + Y)).trans (hC.at_ X Y hlt hltY)
                have hc2 := (hA.cell (Y * 10 + Z)).trans (hC.at_ Y Z hltY hltZ)
                have hc3 := (hO.cell (X * 10 + Z)).trans (hM.at_ X Z hlt hltZ)
                have hb3 := hM.bd X Z hlt hltZ
                rw [longT_here] at hc3 hb3
                have hb1 := hC.bd X Y hlt hltY
                have hb2 := hC.bd Y Z hltY hltZ
                have hput := hide (fun (v : Int) (hv : I64 v) => hM.put hlt hltZ (v := v) hv)
                generalize s X Y = p at hc1 hb1 hpt
                generalize s Y Z = q at hc2 hb2 hpt
                generalize longK s Y X Z = r at hc3 hb3 hpt
                unfold I64 at hb1 hb2 hb3
                go_upto_region 12 with fail
                refine wp_region_more_tail 20 (by kernel_rfl) (by kernel_rfl) ?_
                simp only [List.take]
                repeat (go_big_quiet_step (fail))
                refine wpQuiet_nil ?_
                rintro w2 ⟨qq, hw2⟩
                have hbq := below_of_eq hw2
                clear hw2 qq
                clear hc1 hc2 hc3
                have hA2 := hA.below hbq hA.lt
                have hR2 := hR.below hbq hR.lt
                have hO2 := hO.below hbq hO.lt
                have hb2' := Below_trans' hb hb.size hbq
                have hfr := hO2.free (X * 10 + Z)
                have hcx := (hO2.cell (X * 10 + Z)).trans (hM.at_ X Z hlt hltZ)
                go_wp2
                go_roundw
                case rel => exact ⟨Z + 1, _, by omega, by go_num, hA2.far (by show w.heap.size ≠ w.heap.size + 2; omega) _, hR2.far (by show w.heap.size + 1 ≠ w.heap.size + 2; omega) _, hO2.put _ _, (hput.out _ (by rw [mm_eq]; unfold I64; omega)).congr (fun a b _ _ => by rw [mm_eq]; exact hpt.out a b), hb2'.setCell (by show w.heap.size ≤ w.heap.size + 2; omega) _⟩
                case measure => simp [intOf] <;> omega
            · obtain rfl : Z = 10 := by omega
              go_wp2
              go_roundw
              case rel => exact ⟨Y + 1, D, by omega, by go_num, hA, hR, hO, hM.congr (fun a b _ hb2 => longT_mid a b hb2), hb⟩
              case measure => simp [intOf] <;> omega
        · obtain rfl : Y = 10 := by omega
          go_wp2
          go_roundw
          case rel => exact ⟨X + 1, D, by omega, by go_num, hA, hR, hO, hM.congr (fun a b _ _ => longT_row a b), hb⟩
          case measure => simp [intOf] <;> omega
    · obtain rfl : X = 10 := by omega
      go_wp2_with (first | (refine ldMat rfl rfl rfl hO hM.size ?_) | (refine stMat rfl rfl rfl rfl hR zeroMat.size hM.size hM.one ?_))
      refine retMat rfl rfl (hR.setRow D) hM.size rfl ⟨D, rfl, hM.congr (fun a b ha _ => longT_end a b ha), below_setRow hb (by omega) _⟩
end Go.Proofs.YtkhclcdmehjfkaaGreat

namespace Go.Proofs.YtkhclcdmehjfkaaGreat
open Go.RowKit Go.Proofs
attribute [local go_sem] cell?_more cell?_alloc_some cell?_setCell_far frozen?_alloc_some frozen?_more
theorem infoRow3 : (Tryz.prog.info? 22).map (fun i => (i.zero, i.size, i.bytes)) = some (some (.agg #[.int .i64 0, .int .i64 0, .int .i64 0, .int .i64 0, .int .i64 0, .int .i64 0, .int .i64 0, .int .i64 0, .int .i64 0, .int .i64 0]), 10, 80) := by kernel_rfl
/-- copy of a whole matrix. -/
theorem run_copy10 (w : World) (ty : TypeId) (g h : Nat) (cur src : Array Value) (t t' : TypeId) (hg : Has w g t cur) (hh : Has w h t' src) (hc : cur.size = 100) (hs : src.size = 100) (h1 : src.all (·.oneCell') = true) :
    (Builtin.copy_ #[82, 82] ty #[.slice (some ⟨g, 0, none⟩) 10 10, .slice (some ⟨h, 0, none⟩) 10 10]).run Tryz.prog w = .ok (goInt 10) (w.setRow g src) := by
  have hl := run_loadCells_list (P := Tryz.prog) w ⟨h, 0, none⟩ src.toList (fun j v hv => by
    have hadd : (⟨h, 0, none⟩ : Addr).add j = ⟨h, j, none⟩ := by unfold Addr.add; split <;> simp_all
    rw [hadd, hh.cell]
    simpa using hv)
  have hst := run_storeCells_at Tryz.prog g 0 t src.toList 0 cur w hg (by simp; omega) (fun v hv => by
    have := Array.all_eq_true.1 h1
    obtain ⟨i, hi, e⟩ := List.getElem_of_mem hv
    have h2 := this i (by simpa using hi)
    rw [← e]; simpa using h2)
  obtain ⟨i0, hi, _, hz1, _⟩ := info_parts infoRow3
  have hlen : src.toList.length = 100 := by simpa using hs
  have hd : List.drop 100 cur.toList = [] := List.drop_eq_nil_of_le (by simp; omega)
  rw [hlen] at hl
  simp [Builtin.copy_, run_underlying Tryz.underlying82, Builtin.lenOf, Builtin.firstCells, sizeOf, typeInfo, hi, hz1, hl, hst, hs, hd]
section
variable {ops : Array Oper} {rest : List Oper} {o : Oper} {a : Act} {w : World} {Q : Exit → Act → World → Prop}
/-- A copy whose run is known. -/
theorem copy_eqM (hgd : o.guard = none) (d s : Operand) (t t' : TypeId) (ho : o.op = .call { callee := .builtin .copy, args := #[d, s], argTypes := #[t, t'] }) (v u : Value) (hd : a.eval d = v) (hs : a.eval s = u) {v' : Value} {w' : World}
    (hr : (Builtin.copy_ #[t, t'] o.type #[v, u]).run Tryz.prog w = .ok v' w') (h : wpList Tryz.prog ops Q rest (a.put o.dst v') w') : wpList Tryz.prog ops Q (o :: rest) a w :=
  wpList_plain hgd fun _ hK => by
    unfold Oper.wp execOp
    simp only [ho, resolve, invoke, builtin, Sem.run_bind, Sem.run_pure, Result.andThen_ok, List.map_toArray, List.map_cons, List.map_nil, hd, hs, hr]
    exact hK _ _ h
end
set_option maxRecDepth 100000 in
set_option maxHeartbeats 4000000 in
theorem strengths_any (C : Array Value) (m : M) (hC : Mat C m) (c : Int) (w : World) :
    Calls Tryz.prog 17 #[.agg C, .int .i64 c] w fun e w' => ∃ D, e = .returned (.tuple #[.agg D, .int .i64 (strErr m c)]) ∧ Mat D (strV m c) ∧ Below w.heap.size w w' := by
  have hs := hC.size
  have hA0 : Has ((w.alloc (.cells C 24)).alloc (.cells Tryz.zeroCells24 24)) w.heap.size 24 C := (Has.new _ _ _).alloc _
  have hR0 : Has ((w.alloc (.cells C 24)).alloc (.cells Tryz.zeroCells24 24)) (w.heap.size + 1) 24 Tryz.zeroCells24 := Has.new2 _ _ _ _
  have hb0 : Below w.heap.size w ((w.alloc (.cells C 24)).alloc (.cells Tryz.zeroCells24 24)) := ((Below.refl _ _).alloc (Nat.le_refl _) _).alloc (by simp) _
  by_cases c1 : c < 1
  · have hr := hide (strErr_arg (m := m) (c := c) (.inl c1))
    go_enter Tryz.func17, Tryz.ntmps17
    go_upto_region 1 with fail
    generalize World.alloc (World.alloc w _) _ = W at hA0 hR0 hb0 ⊢
    go_wp2_with (first | (refine bdMat rfl rfl ?_) | (refine stMat rfl rfl rfl rfl hR0 zeroMat.size zeroMat.size zeroMat.one ?_))
    refine retMat2 rfl rfl rfl ((hR0).setRow _) zeroMat.size rfl ⟨_, by rw [hr.out]; rfl, by rw [strV_bad (by rw [hr.out]; omega)]; exact zeroMat, below_setRow hb0 (by omega) _⟩
  by_cases c2 : 10 < c
  · have hr := hide (strErr_arg (m := m) (c := c) (.inr c2))
    go_enter Tryz.func17, Tryz.ntmps17
    go_upto_region 1 with fail
    generalize World.alloc (World.alloc w _) _ = W at hA0 hR0 hb0 ⊢
    go_wp2_with (first | (refine bdMat rfl rfl ?_) | (refine stMat rfl rfl rfl rfl hR0 zeroMat.size zeroMat.size zeroMat.one ?_))
    refine retMat2 rfl rfl rfl ((hR0).setRow _) zeroMat.size rfl ⟨_, by rw [hr.out]; rfl, by rw [strV_bad (by rw [hr.out]; omega)]; exact zeroMat, below_setRow hb0 (by omega) _⟩
  have hz0 := hR0.lt
  cases e1 : rightS m c with
  | false =>
    have hr := hide (strErr_bad (m := m) (c := c) (by omega) e1)
    go_enter Tryz.func17, Tryz.ntmps17
    go_upto_region 1 with fail
    generalize World.alloc (World.alloc w _) _ = W at hA0 hR0 hb0 ⊢
    go_wp2_with (refine ldMat rfl rfl rfl hA0 hs ?_)
    refine (right_any C m hC c W).mono ?_
    rintro e w1 ⟨rfl, hb1⟩
    have hR1 := hR0.below hb1 hR0.lt
    have hb01 := Below_trans' hb0 hb0.size hb1
    rw [e1]
    clear e1
    go_wp2_with (first | (refine bdMat rfl rfl ?_) | (refine stMat rfl rfl rfl rfl hR1 zeroMat.size zeroMat.size zeroMat.one ?_))
    refine retMat2 rfl rfl rfl ((hR1).setRow _) zeroMat.size rfl ⟨_, by rw [hr.out]; rfl, by rw [strV_bad (by rw [hr.out]; omega)]; exact zeroMat, below_setRow hb01 (by omega) _⟩
  | true =>
    obtain ⟨K, rfl⟩ : ∃ K : Nat, c = K := ⟨c.toNat, by omega⟩
    have hr := hide (strErr_ok e1)
    have Hr := hide e1
    have Hb := hide (right_bd e1)
    go_enter Tryz.func17, Tryz.ntmps17
    go_upto_region 1 with fail
    generalize World.alloc (World.alloc w _) _ = W at hA0 hR0 hb0 ⊢
    go_wp2_with (refine ldMat rfl rfl rfl hA0 hs ?_)
    refine (right_any C m hC K W).mono ?_
    rintro e w1 ⟨rfl, hb1⟩
    have hA1 := hA0.below hb1 hA0.lt
    have hR1 := hR0.below hb1 hR0.lt
    have hb01 := Below_trans' hb0 hb0.size hb1
    rw [e1]
    clear e1
    go_wp2_with (refine ldMat rfl rfl rfl hA1 hs ?_)
    refine (links_any C m hC w1).mono ?_
    rintro e w2 ⟨L, rfl, hL, hb2⟩
    have hR2 := hR1.below hb2 hR1.lt
    have hb02 := Below_trans' hb01 hb01.size hb2
    clear hA0 hA1 hR0 hR1 hb0 hb1 hb2 hb01
    have hz2 := hR2.lt
    have hS0 : Has (w2.alloc (.cells Tryz.zeroCells24 24)) w2.heap.size 24 Tryz.zeroCells24 := Has.new _ _ _
    have hS1 : Has ((w2.alloc (.cells Tryz.zeroCells24 24)).alloc (.cells Tryz.zeroCells24 24)) w2.heap.size 24 Tryz.zeroCells24 := hS0.alloc _
    have hT1 : Has ((w2.alloc (.cells Tryz.zeroCells24 24)).alloc (.cells Tryz.zeroCells24 24)) (w2.heap.size + 1) 24 Tryz.zeroCells24 := Has.new2 _ _ _ _
    have hT2 : Has (((w2.alloc (.cells Tryz.zeroCells24 24)).alloc (.cells Tryz.zeroCells24 24)).setRow w2.heap.size L) (w2.heap.size + 1) 24 Tryz.zeroCells24 := hT1.farRow (by omega) _
    have hS3 : Has ((((w2.alloc (.cells Tryz.zeroCells24 24)).alloc (.cells Tryz.zeroCells24 24)).setRow w2.heap.size L).setRow (w2.heap.size + 1) Tryz.zeroCells24) w2.heap.size 24 L := (hS1.setRow L).farRow (by omega) _
    have hT3 := hT2.setRow Tryz.zeroCells24
    have hR3 : Has ((((w2.alloc (.cells Tryz.zeroCells24 24)).alloc (.cells Tryz.zeroCells24 24)).setRow w2.heap.size L).setRow (w2.heap.size + 1) Tryz.zeroCells24) (w.heap.size + 1) 24 Tryz.zeroCells24 := (((hR2.alloc _).alloc _).farRow (by omega) _).farRow (by omega) _
    have hb3 : Below w.heap.size w ((((w2.alloc (.cells Tryz.zeroCells24 24)).alloc (.cells Tryz.zeroCells24 24)).setRow w2.heap.size L).setRow (w2.heap.size + 1) Tryz.zeroCells24) := below_setRow (below_setRow ((hb02.alloc hb02.size _).alloc (by simp; omega) _) (by omega) _) (by omega) _
    go_wp2_with (first | (refine bdMat rfl rfl ?_) | (refine stMat rfl rfl rfl rfl hS1 zeroMat.size hL.size hL.one ?_) | (refine stMat rfl rfl rfl rfl hT2 zeroMat.size zeroMat.size zeroMat.one ?_))
    generalize World.setRow (World.setRow _ _ _) _ _ = W3 at hS3 hT3 hR3 hb3 ⊢
    clear hS0 hS1 hT1 hT2 hR2 hb02
    have hp : Hid (w.heap.size + 1 < w2.heap.size) := hz2
    have hw2 : w.heap.size + 1 < w2.heap.size := hz2
    generalize w2.heap.size = g at hS3 hT3 hp hw2 ⊢
    clear hz2 hz0
    go_frame
    go_loopg [] 100000000 (fun kk wr => ∃ (k : Nat) (S T : Array Value) (s t : M), (kk : Int) = 100000000 - sum10 t ∧ Has wr g 24 S ∧ Mat S s ∧ Has wr (g + 1) 24 T ∧ Mat T t ∧ Has wr (w.heap.size + 1) 24 Tryz.zeroCells24 ∧ Hid (RndP m s t k) ∧ Below w.heap.size w wr)
    case atStart => exact ⟨0, _, _, _, _, rfl, hS3, hL, hT3, zeroMat, hR3, RndP.start, hb3⟩
    case round =>
      clear hS3 hT3 hR3 hb3 hL
      obtain ⟨k, S, T, s, t, hkk, hS, hMs, hT, hMt, hR, hP, hb⟩ := hrel
      have hSs := hMs.size
      have hTs := hMt.size
      have he := eqMat hMs hMt
      have hgd := eqGuardMat
      cases hq : matEq s t with
      | false =>
        have hlt : sum10 t < sum10 s := sum10_lt (hP.out.le Hb.out) (by
          rw [← Bool.not_eq_true] at hq ⊢
          exact fun h => hq (matEq_iff.2 fun a b ha hb => (matEq_iff.1 h a b ha hb).symm))
        have hsb := sum10_bd (hP.out.bd Hb.out)
        rw [hq] at he
        clear hq
        have hg1 : g + 1 ≠ w.heap.size + 1 := by omega
        have hg2 : g ≠ w.heap.size + 1 := by omega
        go_wp2_with (first | (refine ldMat rfl rfl rfl hS hSs ?_) | (refine ldMat rfl rfl rfl hT hTs ?_))
        refine wp_region_more_tail 2 (by kernel_rfl) (by kernel_rfl) ?_
        simp only [List.take]
        repeat (go_big_quiet_step (fail))
        refine wpQuiet_nil ?_
        rintro wq ⟨qq, hwq⟩
        have hbq := below_of_eq hwq
        clear hwq qq
        have hS1 := hS.below hbq hS.lt
        have hT1 := hT.below hbq hT.lt
        have hR1 := hR.below hbq hR.lt
        have hb1 := Below_trans' hb hb.size hbq
        have hcp := fun ty => run_copy10 wq ty (g + 1) g T S _ _ hT1 hS1 hTs hSs hMs.one
        go_upto_region 8 with (refine copy_eqM rfl _ _ _ _ rfl _ _ rfl rfl (hcp _) ?_)
        have hS2 : Has (wq.setRow (g + 1) S) g 24 S := hS1.farRow (by omega) _
        have hT2 : Has (wq.setRow (g + 1) S) (g + 1) 24 S := hT1.setRow _
        have hR2 : Has (wq.setRow (g + 1) S) (w.heap.size + 1) 24 Tryz.zeroCells24 := hR1.farRow (Ne.symm hg1) _
        have hb2 : Below w.heap.size w (wq.setRow (g + 1) S) := below_setRow hb1 (by omega) _
        generalize World.setRow wq _ _ = wc at hS2 hT2 hR2 hb2 ⊢
        clear hcp hS hT hR hb hS1 hT1 hR1 hb1 hbq he
        go_wp2_with (refine ldMat rfl rfl rfl hS2 hSs ?_)
        refine (longer_any S s hMs wc).mono ?_
        rintro e wl ⟨L', rfl, hL', hbl⟩
        have hS3 := hS2.below hbl hS2.lt
        have hT3 := hT2.below hbl hT2.lt
        have hR3 := hR2.below hbl hR2.lt
        have hb3 := Below_trans' hb2 hb2.size hbl
        have hLs := hL'.size
        go_wp2_with (refine stMat rfl rfl rfl rfl hS3 hSs hLs hL'.one ?_)
        obtain ⟨kk', hkk'⟩ : ∃ kk' : Nat, (kk' : Int) = 100000000 - sum10 s := ⟨(100000000 - sum10 s).toNat, by omega⟩
        have hP' := hide hP.out.next
        have hT4 : Has (wl.setRow g L') (g + 1) 24 S := hT3.farRow (by omega) _
        have hR4 : Has (wl.setRow g L') (w.heap.size + 1) 24 Tryz.zeroCells24 := hR3.farRow (Ne.symm hg2) _
        go_roundg kk'
        case measure => omega
        case rel => exact ⟨k + 1, L', S, longM s, s, hkk', hS3.setRow _, hL', hT4, hMs, hR4, hP'.out, below_setRow hb3 (by omega) _⟩
      | true =>
        have hst := hP.out.done Hb.out (matEq_iff.1 hq)
        have hfin := hide (fun a b ha hb => strV_eq Hr.out hst a b ha hb)
        rw [hq] at he
        clear hq hst
        go_wp2_with (first | (refine ldMat rfl rfl rfl hS hSs ?_) | (refine ldMat rfl rfl rfl hT hTs ?_) | (refine stMat rfl rfl rfl rfl hR zeroMat.size hSs hMs.one ?_))
        refine retMat2 rfl rfl rfl (hR.setRow _) hSs rfl ⟨_, by rw [hr.out]; rfl, hMs.congr (fun a b ha hb => hfin.out a b ha hb), below_setRow hb (by omega) _⟩
theorem getD_pc {p : List Int} {k : Nat} {v : Int} (h : p[k]? = some v) : p.getD k 0 = v := by simp [List.getD, h]
theorem lnkI_nat (m : M) {x y : Nat} (hx : x < 10) (hy : y < 10) : lnkI m x y = lnkS m x y := by
  unfold lnkI; rw [if_pos ⟨by omega, by omega, by omega, by omega⟩]; rfl
set_option maxRecDepth 100000 in
set_option maxHeartbeats 2000000 in
theorem pstr_any (C : Array Value) (m : M) (hC : Mat C m) (A : Option Addr) (n c : Nat) (p : List Int) (w : World) (h : RInts w A n c p) :
    Calls Tryz.prog 22 #[.agg C, .slice A n c] w fun e w' => e = .returned (.int .i64 (strP m p)) ∧ Below w.heap.size w w' := by
  have hs := hC.size
  have hn := h.le
  have hlen := hide h.len
  have hA : Has (w.alloc (.cells C 24)) w.heap.size 24 C := Has.new _ _ _
  have hb0 : Below w.heap.size w (w.alloc (.cells C 24)) := (Below.refl _ _).alloc (Nat.le_refl _) _
  cases hr : rightS m 10 with
  | false =>
    have hl : Hid (strP m p = 0) := by unfold Hid strP; rw [if_neg (by rw [hr]; simp)]
    go_enter Tryz.func22, Tryz.ntmps22
    go_upto_region 1 with fail
    generalize World.alloc w _ = W at hA hb0 ⊢
    go_wp2_with (refine ldMat rfl rfl rfl hA hs ?_)
    refine (right_any C m hC 10 W).mono ?_
    rintro e w1 ⟨rfl, hb1⟩
    have hb01 := Below_trans' hb0 hb0.size hb1
    rw [hr]
    clear hr
    go_wp2
    go_ret
    exact ⟨ret_i (by rw [hl.out]), hb01⟩
  | true =>
    have Hr := hide hr
    have Hb := hide (right_bd hr)
    by_cases h2 : n < 2
    · have hl : Hid (strP m p = 0) := by unfold Hid strP; rw [if_neg (by rw [hlen.out]; omega)]
      go_enter Tryz.func22, Tryz.ntmps22
      go_upto_region 1 with fail
      generalize World.alloc w _ = W at hA hb0 ⊢
      go_wp2_with (refine ldMat rfl rfl rfl hA hs ?_)
      refine (right_any C m hC 10 W).mono ?_
      rintro e w1 ⟨rfl, hb1⟩
      have hb01 := Below_trans' hb0 hb0.size hb1
      rw [hr]
      clear hr
      go_wp2
      go_ret
      exact ⟨ret_i (by rw [hl.out]), hb01⟩
    · have hl : Hid (strP m p = minT m p n) := by unfold Hid strP; rw [if_pos ⟨hr, by rw [hlen.out]; omega⟩, hlen.out]
      have hout := hide (fun k (hk : k < n) ho => minT_out Hb.out (p := p) (by rw [hlen.out]; omega) (k := k) (by rw [hlen.out]; exact hk) ho)
      go_enter Tryz.func22, Tryz.ntmps22
      go_upto_region 1 with fail
      generalize World.alloc w _ = W at hA hb0 ⊢
      go_wp2_with (refine ldMat rfl rfl rfl hA hs ?_)
      refine (right_any C m hC 10 W).mono ?_
      rintro e w1 ⟨rfl, hb1⟩
      have hb01 := Below_trans' hb0 hb0.size hb1
      rw [hr]
      clear hr
      have hA1 := hA.below hb1 hA.lt
      go_wp2_with (refine ldMat rfl rfl rfl hA1 hs ?_)
      refine (links_any C m hC w1).mono ?_
      rintro e w2 ⟨L, rfl, hL, hb2⟩
      have hb02 := Below_trans' hb01 hb01.size hb2
      have hLs := hL.size
      have hZ : Has (w2.alloc (.cells Tryz.zeroCells24 24)) w2.heap.size 24 Tryz.zeroCells24 := Has.new _ _ _
      have hP : Has ((w2.alloc (.cells Tryz.zeroCells24 24)).setRow w2.heap.size L) w2.heap.size 24 L := hZ.setRow _
      have hb3 : Below w.heap.size w ((w2.alloc (.cells Tryz.zeroCells24 24)).setRow w2.heap.size L) := below_setRow (hb02.alloc hb02.size _) hb02.size _
      go_upto_region 4 with (refine stMat rfl rfl rfl rfl hZ zeroMat.size hLs hL.one ?_)
      generalize World.setRow (World.alloc w2 _) _ _ = W3 at hP hb3 ⊢
      have h3 := h.below hb3
      clear hZ hA hA1 hb0 hb1 hb01 hb02 hb2
      go_wp2
      go_loop [6, 21] (fun v i => ∃ k : Nat, k ≤ n ∧ i = .int .i64 k ∧ v = .int .i64 (minT m p k) ∧ Hid (∀ j, j < k → 0 ≤ p.getD j 0 ∧ p.getD j 0 < 10)) (fun v i => n - (intOf i).toNat)
      case atStart => exact ⟨0, Nat.zero_le _, rfl, rfl, fun j hj => absurd hj (Nat.not_lt_zero _)⟩
      case round =>
        obtain ⟨k, hk, rfl, rfl, hq⟩ := hrel
        by_cases hlt : k < n
        · obtain ⟨b, off, y, rfl, hc, _, hat, _⟩ := h3.step hlt
          have hgy := hide (getD_pc hat.out)
          clear hat
          by_cases hy0 : y < 0
          · have hz : Hid (minT m p n = 0) := by have := hout.out k hlt (.inl (by rw [hgy.out]; exact hy0)); rw [hlen.out] at this; exact this
            go_wp2
            go_ret
            exact ⟨ret_i (by rw [hl.out, hz.out]), hb3⟩
          by_cases hy1 : 10 ≤ y
          · have hz : Hid (minT m p n = 0) := by have := hout.out k hlt (.inr (by rw [hgy.out]; exact hy1)); rw [hlen.out] at this; exact this
            go_wp2
            go_ret
            exact ⟨ret_i (by rw [hl.out, hz.out]), hb3⟩
          obtain ⟨Y, rfl⟩ : ∃ Y : Nat, y = Y := ⟨y.toNat, by omega⟩
          have hY : Y < 10 := by omega
          have d1 : decide ((Y : Int) < 0) = false := by simp
          have d2 : decide (10 ≤ (Y : Int)) = false := by simp; omega
          have hq2 : Hid (∀ j, j < k + 1 → 0 ≤ p.getD j 0 ∧ p.getD j 0 < 10) := fun j hj => by
            by_cases e : j = k
            · subst e; rw [hgy.out]; omega
            · exact hq.out j (by omega)
          have hbd := minT_bd Hb.out p k
          by_cases hk0 : k = 0
          · subst hk0
            simp only [Nat.add_zero] at hc
            go_wp2
            go_round
            case rel => exact ⟨1, by omega, by go_num, rfl, hq2⟩
            case measure => simp [intOf] <;> omega
          · obtain ⟨j, rfl⟩ : ∃ j, k = j + 1 := ⟨k - 1, by omega⟩
            obtain ⟨b', off', u, e', hc', _, hat', _⟩ := h3.step (show j < n by omega)
            cases e'
            have hgu := hide (getD_pc hat'.out)
            have hu := hq.out j (by omega)
            rw [hgu.out] at hu
            obtain ⟨U, rfl⟩ : ∃ U : Nat, u = U := ⟨u.toNat, by omega⟩
            have hU : U < 10 := by omega
            have d3 : (U : Int) < 10 := by omega
            have d4 : (Y : Int) < 10 := by omega
            have ej : ((j + 1 : Nat) : Int) - 1 = (j : Int) := by omega
            have hcl := (hP.cell (U * 10 + Y)).trans (hL.at_ U Y hU hY)
            have hsu : Hid (minT m p (j + 1 + 1) = min (minT m p (j + 1)) (lnkS m U Y)) := by unfold Hid; rw [minT_succ m p (by omega), Nat.add_sub_cancel, hgu.out, hgy.out, lnkI_nat m hU hY]
            have hlb := lnkS_bd Hb.out U Y hU hY
            generalize minT m p (j + 1) = T at *
            generalize lnkS m U Y = v at *
            clear hat' hk0
            go_wp2
            go_round
            case rel => exact ⟨j + 1 + 1, by omega, by go_num, congrArg (Value.int .i64) (by rw [hsu.out]; split <;> omega), hq2⟩
            case measure => simp [intOf] <;> omega
        · obtain rfl : k = n := by omega
          go_wp2
          go_ret
          exact ⟨ret_i (by rw [hl.out]), hb3⟩
end Go.Proofs.YtkhclcdmehjfkaaGreat
