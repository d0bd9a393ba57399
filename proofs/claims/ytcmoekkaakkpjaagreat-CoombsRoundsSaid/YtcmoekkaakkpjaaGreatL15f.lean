/-
  The law RunoffFirsts.
-/
import Derived.Test.YtcmoekkaakkpjaaGreatW15g
import Derived.Test.YtcmoekkaakkpjaaGreatW9e
namespace Go.Proofs.YtcmoekkaakkpjaaGreat
open Go.RowKit Go.Proofs Go.Shelf
attribute [local go_sem] cell?_more cell?_alloc_some cell?_setCell_far frozen?_alloc_some frozen?_more

/-! Fewer are left. -/
theorem wsum_le {φ ψ : List Int → Bool} : ∀ {l : List Row}, Pos l → (∀ r ∈ l, φ r.1 = true → ψ r.1 = true) → wsum φ l ≤ wsum ψ l
  | [], _, _ => by simp [wsum_nil]
  | a :: r, hp, h => by
    have ih := wsum_le (φ := φ) (ψ := ψ) (l := r) (fun x hx => hp x (List.mem_cons_of_mem _ hx)) (fun x hx => h x (List.mem_cons_of_mem _ hx))
    have ha := hp a (List.mem_cons_self ..)
    have h1 := h a (List.mem_cons_self ..)
    rw [wsum_cons, wsum_cons]
    by_cases e : φ a.1 = true
    · rw [if_pos e, if_pos (h1 e)]; omega
    · rw [if_neg e]
      split <;> omega
/-- ψ is φ without g. -/
def Without (φ ψ : Int → Bool) (g : Int) : Prop := ∀ x, ψ x = (φ x && !decide (x = g))
theorem Without.sub {φ ψ : Int → Bool} {g x : Int} (h : Without φ ψ g) (hx : ψ x = true) : φ x = true := by
  rw [h x, Bool.and_eq_true] at hx; exact hx.1
theorem find_none_sub {φ ψ : Int → Bool} (h : ∀ x, ψ x = true → φ x = true) {ms : List Int} (hn : ms.find? φ = none) : ms.find? ψ = none :=
  List.find?_eq_none.2 fun x hx e => List.find?_eq_none.1 hn x hx (h x e)
theorem find_some_sub {φ ψ : Int → Bool} (h : ∀ x, ψ x = true → φ x = true) : ∀ {ms : List Int} {x : Int}, ms.find? φ = some x → ψ x = true → ms.find? ψ = some x
  | [], x, hf, _ => by simp at hf
  | a :: r, x, hf, hx => by
    cases ha : φ a with
    | true =>
      rw [List.find?_cons, ha] at hf
      simp at hf; subst hf
      simp [hx]
    | false =>
      have hb : ψ a = false := by
        cases e : ψ a with
        | false => rfl
        | true => rw [h a e] at ha; cases ha
      rw [List.find?_cons, ha] at hf
      rw [List.find?_cons, hb]
      exact find_some_sub h hf hx
theorem lost_le {φ ψ : Int → Bool} {l : List Row} (hp : Pos l) (h : ∀ x, ψ x = true → φ x = true) : lostS φ l ≤ lostS ψ l :=
  wsum_le hp fun r _ e => by
    simp only [decide_eq_true_eq] at e ⊢
    exact find_none_sub h e
theorem had_none {φ : Int → Bool} {l : List Row} {x : Int} (h : φ x = false) : hadS φ l x = 0 :=
  wsum_zero fun r _ => by
    simp only [decide_eq_false_iff_not]
    intro e
    rw [List.find?_some e] at h
    cases h
theorem had_le {φ ψ : Int → Bool} {l : List Row} {x : Int} (hp : Pos l) (h : ∀ x, ψ x = true → φ x = true) (hx : ψ x = true) : hadS φ l x ≤ hadS ψ l x :=
  wsum_le hp fun r _ e => by
    simp only [decide_eq_true_eq] at e ⊢
    exact find_some_sub h e hx
theorem sum_take_succ' {xs : List Int} {t : Nat} {v : Int} (h : xs[t]? = some v) : (xs.take (t + 1)).sum = (xs.take t).sum + v := by rw [List.take_add_one, h, List.sum_append]; simp
theorem cntP_tot : ∀ l : List Row, cntP anyRow l = totS l
  | [] => rfl
  | a :: r => by
    have := cntP_tot r
    unfold cntP totS at *
    simp only [anyRow, if_pos, List.map_cons, List.sum_cons] at *
    try omega
theorem cntV_tot {c k : Int} {l : List Row} (h : checkS c k l = 0) : cntV c k l anyRow = totS l := by unfold cntV; rw [if_pos h, cntP_tot]

/-- The slice value v owns the truth values bs. -/
def OwnB (w : World) (base : Nat) (v : Value) (bs : List Bool) : Prop := w.ownsRow base 4 1 v bs.length (bs.map Value.bool)
theorem info4 : (Tryz.prog.info? 4).map (fun i => (i.zero, i.size, i.bytes)) = some (some (.bool false), 1, 1) := by kernel_rfl
theorem OwnB.slice {w : World} {base : Nat} {v : Value} {bs : List Bool} (h : OwnB w base v bs) : ∃ A c, v = .slice A bs.length c := by
  rcases h.2 with ⟨e1, h0⟩ | ⟨g, cap, cur, e1, _⟩
  · exact ⟨none, 0, by rw [e1, h0]⟩
  · exact ⟨_, cap, e1⟩
theorem OwnB.bools {w : World} {base n c : Nat} {A : Option Addr} {bs : List Bool} (h : OwnB w base (.slice A n c) bs) : RBools w A n c bs := by
  rcases h.2 with ⟨e1, h0⟩ | ⟨g, cap, cur, e1, hb1, hg, hnc, hcm, hcs, ht⟩
  · cases e1
    exact ⟨h0, Nat.le_refl _, by omega, fun h => absurd h (by omega)⟩
  · cases e1
    refine ⟨rfl, hnc, hcm, fun hn => ⟨g, 0, rfl, fun i hi => ?_⟩⟩
    rw [Nat.zero_add, World.ownsRow.cellAt h i (by omega), List.getElem?_map, List.getElem?_eq_getElem hi]
    simp [List.getD, hi]
theorem run_appBools (w : World) (ty : TypeId) {base : Nat} {v : Value} {xs : List Bool} (hown : OwnB w base v xs) {A : Option Addr} {n c : Nat} {ys : List Bool} (hr : RBools w A n c ys) (hn : xs.length + n ≤ 1000000) (hbase : base ≤ w.heap.size) :
    ∃ v' w', (Builtin.append_ #[26, 26] ty #[v, .slice A n c]).run Tryz.prog w = .ok v' w' ∧ OwnB w' base v' (xs ++ ys) ∧ w.grownBy w' v.ownBlock ∧ (v'.ownBlock = v.ownBlock ∨ v'.ownBlock = some w.heap.size) := by
  obtain ⟨i0, hi, hz0, hz1, hz2⟩ := info_parts info4
  obtain ⟨v', w', h1, h2, h3, h4⟩ := run_appU w base 26 ty 4 i0 (.bool false) 1 1 Tryz.underlying26 hi hz0 hz1 hz2 rfl (by decide) v xs.length _ hown A n c (ys.map Value.bool) (by simp [hr.1]) (fun e => by
    by_cases h0 : 0 < n
    · obtain ⟨b, off, e', _⟩ := hr.2.2.2 h0; rw [e] at e'; cases e'
    · omega) (fun a e j u hj => by
    have hjn : j < n := by
      have := (List.getElem?_eq_some_iff.1 hj).1
      rw [List.length_map, hr.1] at this; exact this
    obtain ⟨b, off, e', hc⟩ := hr.2.2.2 (by omega)
    rw [e] at e'
    cases e'
    have hadd : (⟨b, off, none⟩ : Addr).add j = ⟨b, off + j, none⟩ := by unfold Addr.add; split <;> simp_all
    rw [hadd, hc j hjn]
    rw [List.getElem?_map] at hj
    have hjl : j < ys.length := by rw [hr.1]; exact hjn
    rw [List.getElem?_eq_getElem hjl] at hj
    simp at hj
    simp [List.getD, hjl, hj]) (fun u hu => by obtain ⟨y, _, rfl⟩ := List.mem_map.1 hu; rfl) (by unfold maxLen; omega) (by omega) hbase
  exact ⟨v', w', h1, by unfold OwnB; simpa [hr.1] using h2, h3, h4⟩
theorem OwnB.lit0 (w : World) (B : Nat) (hB : B ≤ w.heap.size) : OwnB (w.alloc (.cells #[] 4)) B (.slice (some ⟨w.heap.size, 0, none⟩) 0 0) [] := by
  have := World.ownsRow_lit (base := B) (e := 4) (size := 1) w #[] 0 hB (by unfold maxLen; omega) (by simp)
  unfold OwnB
  simpa using this
theorem OwnB.set {w : World} {B n c g : Nat} {bs : List Bool} (h : OwnB w B (.slice (some ⟨g, 0, none⟩) n c) bs) (hl : bs.length = n) (j : Nat) (v : Bool) : OwnB (w.setCell ⟨g, j, none⟩ (.bool v)) B (.slice (some ⟨g, 0, none⟩) n c) (bs.set j v) := by
  have hown : w.ownsRow B 4 1 (.slice (some ⟨g, 0, none⟩) n c) n (bs.map Value.bool) := by have := h; unfold OwnB at this; rwa [hl] at this
  unfold OwnB
  rw [List.length_set, hl, List.map_set]
  exact (hown.stored j _).1
theorem OwnB.at {w : World} {B n c g j : Nat} {bs : List Bool} (h : OwnB w B (.slice (some ⟨g, 0, none⟩) n c) bs) (hl : bs.length = n) (hj : j < n) : (∃ u, w.cell? ⟨g, j, none⟩ = some u) ∧ w.frozen? ⟨g, j, none⟩ = false ∧ B ≤ g := by
  have hown : w.ownsRow B 4 1 (.slice (some ⟨g, 0, none⟩) n c) n (bs.map Value.bool) := by have := h; unfold OwnB at this; rwa [hl] at this
  refine ⟨⟨.bool bs[j], ?_⟩, hown.frozenAt j, (World.ownsRow.lt h g rfl).1⟩
  rw [hown.cellAt j (by omega), List.getElem?_map, List.getElem?_eq_getElem (by omega)]; rfl
theorem without_set {bs : List Bool} {G : Nat} (hG : G < bs.length) : Without (isS bs) (isS (bs.set G false)) (G : Int) := fun x => by
  by_cases hx : 0 ≤ x
  · obtain ⟨X, rfl⟩ : ∃ X : Nat, x = X := ⟨x.toNat, by omega⟩
    rw [isS_getD, isS_getD]
    by_cases e : X = G
    · subst e; simp [List.getD, hG]
    · have : ¬ ((X : Int) = (G : Int)) := by omega
      simp [List.getD, this, Ne.symm e]
  · have : ∀ bs : List Bool, isS bs x = false := fun bs => by
      cases hb : isS bs x with
      | false => rfl
      | true => unfold isS at hb; rw [Bool.and_eq_true] at hb; have := (inR_iff.1 hb.1).1; omega
    rw [this, this]; rfl
theorem without_out {bs : List Bool} {g : Int} (h : ¬ (0 ≤ g ∧ g < bs.length)) : Without (isS bs) (isS bs) g := fun x => by
  cases hb : isS bs x with
  | false => rfl
  | true =>
    unfold isS at hb; rw [Bool.and_eq_true] at hb
    have h1 := inR_iff.1 hb.1
    have : ¬ x = g := fun e => h ⟨by omega, by omega⟩
    simp [this]

set_option maxRecDepth 100000 in
set_option maxHeartbeats 4000000 in
theorem runoffFirsts_any (c k : Int) (A : Option Addr) (n cp : Nat) (l : List Row) (A' : Option Addr) (n' c' : Nat) (bs : List Bool) (gone : Int) (w : World) (h : RRows w A n cp l) (h' : RBools w A' n' c' bs) :
    Calls Tryz.prog 6 #[.agg #[.int .i64 c, .int .u8 k, .slice A n cp], .slice A' n' c', .int .i64 gone] w fun e w' => e = .returned (.bool true) ∧ Below w.heap.size w w' := by
  have hb0 : Below w.heap.size w (w.alloc (.cells #[.int .i64 c, .int .u8 k, .slice A n cp] 24)) := below_allocN
  have hP0 := Has.new w 24 #[.int .i64 c, .int .u8 k, .slice A n cp]
  generalize hW : World.alloc w _ = W0 at hb0 hP0
  have p0 := hP0.cell 0
  have p1 := hP0.cell 1
  have p2 := hP0.cell 2
  have hlb := hide h'.1
  go_enter Tryz.func6, Tryz.ntmps6
  go_wp2_with fail
  try simp only [hW]
  clear hW
  refine (rcheck_any c k A n cp l W0 (h.below hb0)).mono ?_
  rintro e w1 ⟨rfl, hb1⟩
  have hb01 := Below_trans' hb0 hb0.size hb1
  have hP1 := hP0.below hb1 hP0.lt
  clear p0 p1 p2
  have p1 := hP1.cell 1
  by_cases hE : checkS c k l = 0
  · have e1 : (checkS c k l != 0) = false := by simp [hE]
    by_cases hk : k = 1
    · have e2 : (k != 1) = false := by simp [hk]
      by_cases hn : (60 : Int) < (n' : Int)
      · clear hE hk
        go_wp2_with fail
        refine (wakes15_any _).mono ?_
        rintro e w9 ⟨rfl, hb9⟩
        go_wp2
        go_ret
        exact ⟨rfl, Below_trans' hb01 (hb01).size hb9⟩
      · subst hk
        have hcs := check_ok hE
        obtain ⟨C, rfl⟩ : ∃ C : Nat, c = (C : Int) := ⟨c.toNat, by omega⟩
        have HE := hide hE
        have Rk := hide (rank_ok hE)
        have hC10 := (rank_ok hE).c10
        have hF0 := hide (firstsE_ok hE rfl)
        clear hcs hE
        have hba : Below w1.heap.size w1 (w1.alloc (.cells #[] 4)) := below_allocN
        obtain ⟨v', w2, h41, h42, h43, h44⟩ := run_appBools (w1.alloc (.cells #[] 4)) 26 (OwnB.lit0 w1 w1.heap.size (Nat.le_refl _)) ((h'.below hb01).below hba) (by simp; omega) hba.size
        rw [List.nil_append] at h42
        have hb12 : Below w1.heap.size w1 w2 := hba.grown h43 hba.size (fun j hj => by cases hj; exact Nat.le_refl _)
        have hP2 := hP1.below hb12 hP1.lt
        obtain ⟨Af, cf, rfl⟩ := h42.slice
        rw [hlb.out] at h42 h41
        clear h44
        go_upto_region 4 with (at_builtin; refine list_app rfl rfl rfl rfl h41 ?_)
        clear h41 hba p1
        by_cases h1 : 0 ≤ gone
        · by_cases h2 : gone < (n' : Int)
          · obtain ⟨G, rfl⟩ : ∃ G : Nat, gone = G := ⟨gone.toNat, by omega⟩
            have hGn : G < n' := by omega
            obtain ⟨gf, rfl⟩ : ∃ gf, Af = some ⟨gf, 0, none⟩ := by
              rcases h42.2 with ⟨e1, h0⟩ | ⟨g, cap, cur, e1, _⟩
              · cases e1; omega
              · cases e1; exact ⟨_, rfl⟩
            obtain ⟨⟨u, hu⟩, hfu, hBg⟩ := h42.at hlb.out hGn
            have hW := without_set (bs := bs) (G := G) (by rw [hlb.out]; exact hGn)
            have hO3 := h42.set hlb.out G false
            have hb13 : Below w1.heap.size w1 (w2.setCell ⟨gf, G, none⟩ (.bool false)) := hb12.setCell (p := ⟨gf, G, none⟩) hBg _
            have hP3 := hP2.far (p := ⟨gf, G, none⟩) (fun e => by have e : w.heap.size = gf := e; have := hP1.lt; omega) (.bool false)
            have HW := hide hW
            clear hW
            go_upto_region 6 with fail
            generalize World.setCell w2 _ _ = w3 at hO3 hb13 hP3 ⊢
            generalize bs.set G false = fs at hO3 HW
            have hbF := Below_trans' hb01 hb01.size hb13
            have p0 := hP3.cell 0
            have p1 := hP3.cell 1
            have p2 := hP3.cell 2
            have hRf := hO3.bools
            go_wp2_with fail
            refine (pfirsts_any C 1 A n cp l A' n' c' bs w3 (h.below hbF) (h'.below hbF)).mono ?_
            rintro e w5 ⟨va, rfl, hOa, hb5⟩
            have ea : firstsL C 1 l bs = hadL (isS bs) l C := by unfold firstsL; rw [if_pos hF0.out, Int.toNat_natCast]
            have eb : firstsN C 1 l bs = lostS (isS bs) l := by unfold firstsN; rw [if_pos hF0.out]
            rw [ea] at hOa
            rw [eb, hF0.out]
            clear ea eb p0 p1 p2
            obtain ⟨Aa, ca, rfl⟩ := hOa.slice
            have hRa := hOa.ints (fun x hx => by have := Rk.out.hads _ x hx; omega)
            rw [length_hadL] at hRa hOa ⊢
            clear hOa
            have hP5 := hP3.below hb5 hP3.lt
            have p0 := hP5.cell 0
            have p1 := hP5.cell 1
            have p2 := hP5.cell 2
            have hbF5 := Below_trans' hbF hbF.size hb5
            go_wp2_with fail
            refine (pfirsts_any C 1 A n cp l (some ⟨gf, 0, none⟩) n' cf fs w5 (h.below hbF5) (hRf.below hb5)).mono ?_
            rintro e w6 ⟨vb, rfl, hOb, hb6⟩
            have ea : firstsL C 1 l fs = hadL (isS fs) l C := by unfold firstsL; rw [if_pos hF0.out, Int.toNat_natCast]
            have eb : firstsN C 1 l fs = lostS (isS fs) l := by unfold firstsN; rw [if_pos hF0.out]
            rw [ea] at hOb
            rw [eb, hF0.out]
            clear ea eb p0 p1 p2
            obtain ⟨Ab, cb, rfl⟩ := hOb.slice
            have hRb := hOb.ints (fun x hx => by have := Rk.out.hads _ x hx; omega)
            rw [length_hadL] at hRb hOb ⊢
            clear hOb hRf
            have hP6 := hP5.below hb6 hP5.lt
            have hRa6 := hRa.below hb6
            have hbF6 := Below_trans' hbF5 hbF5.size hb6
            have p0 := hP6.cell 0
            have hl1 := Rk.out.lost (isS bs)
            have hl2 := Rk.out.lost (isS fs)
            have hl3 := lost_le (φ := isS bs) (ψ := isS fs) Rk.out.pos (fun x hx => HW.out.sub hx)
            have Hl3 := hide hl3
            have f1 : ¬ lostS (isS fs) l < lostS (isS bs) l := by omega
            clear hl3 hRa hP5 hbF5
            have ht1 := had_all (φ := isS bs) (n := C) Rk.out.marks
            have ht2 := had_all (φ := isS fs) (n := C) Rk.out.marks
            have hg1 := hide (fun t (ht : t < C) => get_hadL (isS bs) l ht)
            have hg2 := hide (fun t (ht : t < C) => get_hadL (isS fs) l ht)
            have hn1 := hide (Rk.out.hads (isS bs))
            have hn2 := hide (Rk.out.hads (isS fs))
            have hs1 := Rk.out.sum (isS bs)
            have hs2 := Rk.out.sum (isS fs)
            have hq1 := hide (length_hadL (isS bs) l C)
            have hq2 := hide (length_hadL (isS fs) l C)
            generalize hadL (isS bs) l C = xs at ht1 hg1 hn1 hs1 hq1 hRa6
            generalize hadL (isS fs) l C = ys at ht2 hg2 hn2 hs2 hq2 hRb
            generalize hLa : lostS (isS bs) l = L1 at *
            generalize hLb : lostS (isS fs) l = L2 at *
            clear hLa hLb
            go_wp2_with fail
            clear p0 f1
            go_loopw [14, 15, 16] (fun s o i wr => ∃ t : Nat, t ≤ C ∧ i = .int .i64 t ∧ s = .int .i64 (L1 + (xs.take t).sum) ∧ o = .int .i64 (L2 + (ys.take t).sum) ∧ Below w6.heap.size w6 wr) (fun s o i _ => C - (intOf i).toNat)
            case atStart => exact ⟨0, Nat.zero_le _, rfl, by simp, by simp, Below.refl _ _⟩
            case round =>
              obtain ⟨t, ht, rfl, rfl, rfl, hb⟩ := hrel
              have hPr := hP6.below hb hP6.lt
              have p0 := hPr.cell 0
              by_cases hlt : t < C
              · obtain ⟨b1, off1, v1, rfl, hc1, _, hat1, _⟩ := (hRa6.below hb).step hlt
                obtain ⟨b2, off2, v2, rfl, hc2, _, hat2, _⟩ := (hRb.below hb).step hlt
                obtain rfl : v1 = hadS (isS bs) l t := by have e := hg1.out t hlt; rw [hat1.out] at e; exact Option.some.inj e
                obtain rfl : v2 = hadS (isS fs) l t := by have e := hg2.out t hlt; rw [hat2.out] at e; exact Option.some.inj e
                have hx1 := hide (sum_take_succ' hat1.out)
                have hx2 := hide (sum_take_succ' hat2.out)
                have k1 := sum_take_bd (fun x hx => (hn1.out x hx).1) t
                have k2 := sum_take_bd (fun x hx => (hn2.out x hx).1) t
                have k3 : 0 ≤ (xs.take t).sum ∧ (xs.take t).sum ≤ 1000000 := ⟨k1.1, by omega⟩
                have k4 : 0 ≤ (ys.take t).sum ∧ (ys.take t).sum ≤ 1000000 := ⟨k2.1, by omega⟩
                have k5 := Rk.out.had (isS bs) t
                have k6 := Rk.out.had (isS fs) t
                clear k1 k2 hat1 hat2 ht1 ht2
                have hlf := HW.out t
                cases his : isS bs (t : Int) with
                | false =>
                  have z1 := had_none (l := l) his
                  have z2 := had_none (l := l) (φ := isS fs) (x := (t : Int)) (by rw [hlf, his]; rfl)
                  rw [z1] at hx1 hc1 k5
                  rw [z2] at hx2 hc2 k6
                  clear hlf z1 z2 k5 k6
                  by_cases hgt : (t : Int) = (G : Int)
                  · have g1 : ((t : Int) == (G : Int)) = true := by simp [hgt]
                    have g2 : ((t : Int) != (G : Int)) = false := by simp [hgt]
                    clear hgt
                    have hgd : Hid (bs.getD t false = isS bs (t : Int)) := (isS_getD bs t).symm
                    go_upto_region 14 with fail
                    refine wp_region_more (by kernel_rfl) (by kernel_rfl) ?_
                    repeat (go_big_quiet_step (fail))
                    refine wpQuiet_nil ?_
                    rintro w7 ⟨qw7, hww7⟩
                    have hbw7 := below_of_eq hww7
                    clear hww7 qw7
                    have hc17 := keep_cell hbw7 hc1
                    have hc27 := keep_cell hbw7 hc2
                    have hb7 := Below_trans' hb hb.size hbw7
                    clear hc1 hc2 p0
                    by_cases htn : t < n'
                    · obtain ⟨b3, off3, e3, hc3⟩ := (h'.below (Below_trans' hbF6 hbF6.size hb7)).at htn
                      subst e3
                      rw [hgd.out, his] at hc3
                      clear his
                      go_upto_region 16 with fail
                      refine wp_region_more (by kernel_rfl) (by kernel_rfl) ?_
                      repeat (go_big_quiet_step (fail))
                      refine wpQuiet_nil ?_
                      rintro w8 ⟨qw8, hww8⟩
                      have hbw8 := below_of_eq hww8
                      clear hww8 qw8
                      go_wp2
                      go_roundw
                      case rel => exact ⟨t + 1, by omega, by go_num, congrArg (Value.int .i64) (by rw [hx1.out]; omega), congrArg (Value.int .i64) (by rw [hx2.out]; omega), Below_trans' hb7 hb7.size hbw8⟩
                      case measure => simp [intOf] <;> omega
                    · clear his
                      go_upto_region 16 with fail
                      refine wp_region_more (by kernel_rfl) (by kernel_rfl) ?_
                      repeat (go_big_quiet_step (fail))
                      refine wpQuiet_nil ?_
                      rintro w8 ⟨qw8, hww8⟩
                      have hbw8 := below_of_eq hww8
                      clear hww8 qw8
                      go_wp2
                      go_roundw
                      case rel => exact ⟨t + 1, by omega, by go_num, congrArg (Value.int .i64) (by rw [hx1.out]; omega), congrArg (Value.int .i64) (by rw [hx2.out]; omega), Below_trans' hb7 hb7.size hbw8⟩
                      case measure => simp [intOf] <;> omega
                  · have g1 : ((t : Int) == (G : Int)) = false := by simp [hgt]
                    have g2 : ((t : Int) != (G : Int)) = true := by simp [hgt]
                    clear hgt
                    have hgd : Hid (bs.getD t false = isS bs (t : Int)) := (isS_getD bs t).symm
                    go_upto_region 14 with fail
                    refine wp_region_more (by kernel_rfl) (by kernel_rfl) ?_
                    repeat (go_big_quiet_step (fail))
                    refine wpQuiet_nil ?_
                    rintro w7 ⟨qw7, hww7⟩
                    have hbw7 := below_of_eq hww7
                    clear hww7 qw7
                    have hc17 := keep_cell hbw7 hc1
                    have hc27 := keep_cell hbw7 hc2
                    have hb7 := Below_trans' hb hb.size hbw7
                    clear hc1 hc2 p0
                    by_cases htn : t < n'
                    · obtain ⟨b3, off3, e3, hc3⟩ := (h'.below (Below_trans' hbF6 hbF6.size hb7)).at htn
                      subst e3
                      rw [hgd.out, his] at hc3
                      clear his
                      go_upto_region 16 with fail
                      refine wp_region_more (by kernel_rfl) (by kernel_rfl) ?_
                      repeat (go_big_quiet_step (fail))
                      refine wpQuiet_nil ?_
                      rintro w8 ⟨qw8, hww8⟩
                      have hbw8 := below_of_eq hww8
                      clear hww8 qw8
                      go_wp2
                      go_roundw
                      case rel => exact ⟨t + 1, by omega, by go_num, congrArg (Value.int .i64) (by rw [hx1.out]; omega), congrArg (Value.int .i64) (by rw [hx2.out]; omega), Below_trans' hb7 hb7.size hbw8⟩
                      case measure => simp [intOf] <;> omega
                    · clear his
                      go_upto_region 16 with fail
                      refine wp_region_more (by kernel_rfl) (by kernel_rfl) ?_
                      repeat (go_big_quiet_step (fail))
                      refine wpQuiet_nil ?_
                      rintro w8 ⟨qw8, hww8⟩
                      have hbw8 := below_of_eq hww8
                      clear hww8 qw8
                      go_wp2
                      go_roundw
                      case rel => exact ⟨t + 1, by omega, by go_num, congrArg (Value.int .i64) (by rw [hx1.out]; omega), congrArg (Value.int .i64) (by rw [hx2.out]; omega), Below_trans' hb7 hb7.size hbw8⟩
                      case measure => simp [intOf] <;> omega
                | true =>
                  by_cases hgt : (t : Int) = (G : Int)
                  · have z2 := had_none (l := l) (φ := isS fs) (x := (t : Int)) (by rw [hlf, hgt]; simp)
                    rw [z2] at hx2 hc2 k6
                    clear hlf z2 k6
                    have g1 : ((t : Int) == (G : Int)) = true := by simp [hgt]
                    have g2 : ((t : Int) != (G : Int)) = false := by simp [hgt]
                    clear hgt
                    have hgd : Hid (bs.getD t false = isS bs (t : Int)) := (isS_getD bs t).symm
                    go_upto_region 14 with fail
                    refine wp_region_more (by kernel_rfl) (by kernel_rfl) ?_
                    repeat (go_big_quiet_step (fail))
                    refine wpQuiet_nil ?_
                    rintro w7 ⟨qw7, hww7⟩
                    have hbw7 := below_of_eq hww7
                    clear hww7 qw7
                    have hc17 := keep_cell hbw7 hc1
                    have hc27 := keep_cell hbw7 hc2
                    have hb7 := Below_trans' hb hb.size hbw7
                    clear hc1 hc2 p0
                    have htn : t < n' := by have e := hgd.out; rw [his] at e; have := hlb.out; refine Decidable.byContradiction fun hx => ?_; rw [List.getD, List.getElem?_eq_none (by omega)] at e; cases e
                    obtain ⟨b3, off3, e3, hc3⟩ := (h'.below (Below_trans' hbF6 hbF6.size hb7)).at htn
                    subst e3
                    rw [hgd.out, his] at hc3
                    clear his
                    go_upto_region 16 with fail
                    refine wp_region_more (by kernel_rfl) (by kernel_rfl) ?_
                    repeat (go_big_quiet_step (fail))
                    refine wpQuiet_nil ?_
                    rintro w8 ⟨qw8, hww8⟩
                    have hbw8 := below_of_eq hww8
                    clear hww8 qw8
                    go_wp2
                    go_roundw
                    case rel => exact ⟨t + 1, by omega, by go_num, congrArg (Value.int .i64) (by rw [hx1.out]; omega), congrArg (Value.int .i64) (by rw [hx2.out]; omega), Below_trans' hb7 hb7.size hbw8⟩
                    case measure => simp [intOf] <;> omega
                  · have z3 := had_le (φ := isS bs) (ψ := isS fs) (x := (t : Int)) Rk.out.pos (fun x hx => HW.out.sub hx) (by rw [hlf, his]; simp [hgt])
                    have z4 : ¬ hadS (isS fs) l t < hadS (isS bs) l t := by omega
                    clear hlf z3
                    have g1 : ((t : Int) == (G : Int)) = false := by simp [hgt]
                    have g2 : ((t : Int) != (G : Int)) = true := by simp [hgt]
                    clear hgt
                    have hgd : Hid (bs.getD t false = isS bs (t : Int)) := (isS_getD bs t).symm
                    go_upto_region 14 with fail
                    refine wp_region_more (by kernel_rfl) (by kernel_rfl) ?_
                    repeat (go_big_quiet_step (fail))
                    refine wpQuiet_nil ?_
                    rintro w7 ⟨qw7, hww7⟩
                    have hbw7 := below_of_eq hww7
                    clear hww7 qw7
                    have hc17 := keep_cell hbw7 hc1
                    have hc27 := keep_cell hbw7 hc2
                    have hb7 := Below_trans' hb hb.size hbw7
                    clear hc1 hc2 p0
                    have htn : t < n' := by have e := hgd.out; rw [his] at e; have := hlb.out; refine Decidable.byContradiction fun hx => ?_; rw [List.getD, List.getElem?_eq_none (by omega)] at e; cases e
                    obtain ⟨b3, off3, e3, hc3⟩ := (h'.below (Below_trans' hbF6 hbF6.size hb7)).at htn
                    subst e3
                    rw [hgd.out, his] at hc3
                    clear his
                    go_upto_region 16 with fail
                    refine wp_region_more (by kernel_rfl) (by kernel_rfl) ?_
                    repeat (go_big_quiet_step (fail))
                    refine wpQuiet_nil ?_
                    rintro w8 ⟨qw8, hww8⟩
                    have hbw8 := below_of_eq hww8
                    clear hww8 qw8
                    go_wp2
                    go_roundw
                    case rel => exact ⟨t + 1, by omega, by go_num, congrArg (Value.int .i64) (by rw [hx1.out]; omega), congrArg (Value.int .i64) (by rw [hx2.out]; omega), Below_trans' hb7 hb7.size hbw8⟩
                    case measure => simp [intOf] <;> omega
              · have e1 : xs.take t = xs := List.take_of_length_le (by rw [hq1.out]; omega)
                have e2 : ys.take t = ys := List.take_of_length_le (by rw [hq2.out]; omega)
                rw [e1, e2, show L1 + xs.sum = totS l by omega, show L2 + ys.sum = totS l by omega]
                clear e1 e2 ht1 ht2 hs1 hs2
                have p1 := hPr.cell 1
                have p2 := hPr.cell 2
                have hbe := Below_trans' hbF6 hbF6.size hb
                go_wp2_with fail
                refine (many_any C 1 A n cp l wr (h.below hbe)).mono ?_
                rintro e w8 ⟨rfl, hb8⟩
                rw [cntV_tot HE.out, HE.out]
                have hbe8 := Below_trans' hbe hbe.size hb8
                clear p0 p1 p2
                go_wp2_with fail
                refine (wakes15_any _).mono ?_
                rintro e w9 ⟨rfl, hb9⟩
                go_wp2
                go_ret
                exact ⟨rfl, Below_trans' hbe8 (hbe8).size hb9⟩
          · have hW := without_out (bs := bs) (g := gone) (by rw [hlb.out]; omega)
            obtain ⟨fs, hfs⟩ : ∃ fs, bs = fs := ⟨bs, rfl⟩
            have HW : Hid (Without (isS bs) (isS fs) gone) := by rw [← hfs]; exact hW
            rw [hfs] at h42
            clear hW hfs
            go_upto_region 6 with fail
            have hbF := Below_trans' hb01 hb01.size hb12
            have p0 := hP2.cell 0
            have p1 := hP2.cell 1
            have p2 := hP2.cell 2
            have hRf := h42.bools
            go_wp2_with fail
            refine (pfirsts_any C 1 A n cp l A' n' c' bs w2 (h.below hbF) (h'.below hbF)).mono ?_
            rintro e w5 ⟨va, rfl, hOa, hb5⟩
            have ea : firstsL C 1 l bs = hadL (isS bs) l C := by unfold firstsL; rw [if_pos hF0.out, Int.toNat_natCast]
            have eb : firstsN C 1 l bs = lostS (isS bs) l := by unfold firstsN; rw [if_pos hF0.out]
            rw [ea] at hOa
            rw [eb, hF0.out]
            clear ea eb p0 p1 p2
            obtain ⟨Aa, ca, rfl⟩ := hOa.slice
            have hRa := hOa.ints (fun x hx => by have := Rk.out.hads _ x hx; omega)
            rw [length_hadL] at hRa hOa ⊢
            clear hOa
            have hP5 := hP2.below hb5 hP2.lt
            have p0 := hP5.cell 0
            have p1 := hP5.cell 1
            have p2 := hP5.cell 2
            have hbF5 := Below_trans' hbF hbF.size hb5
            go_wp2_with fail
            refine (pfirsts_any C 1 A n cp l Af n' cf fs w5 (h.below hbF5) (hRf.below hb5)).mono ?_
            rintro e w6 ⟨vb, rfl, hOb, hb6⟩
            have ea : firstsL C 1 l fs = hadL (isS fs) l C := by unfold firstsL; rw [if_pos hF0.out, Int.toNat_natCast]
            have eb : firstsN C 1 l fs = lostS (isS fs) l := by unfold firstsN; rw [if_pos hF0.out]
            rw [ea] at hOb
            rw [eb, hF0.out]
            clear ea eb p0 p1 p2
            obtain ⟨Ab, cb, rfl⟩ := hOb.slice
            have hRb := hOb.ints (fun x hx => by have := Rk.out.hads _ x hx; omega)
            rw [length_hadL] at hRb hOb ⊢
            clear hOb hRf
            have hP6 := hP5.below hb6 hP5.lt
            have hRa6 := hRa.below hb6
            have hbF6 := Below_trans' hbF5 hbF5.size hb6
            have p0 := hP6.cell 0
            have hl1 := Rk.out.lost (isS bs)
            have hl2 := Rk.out.lost (isS fs)
            have hl3 := lost_le (φ := isS bs) (ψ := isS fs) Rk.out.pos (fun x hx => HW.out.sub hx)
            have Hl3 := hide hl3
            have f1 : ¬ lostS (isS fs) l < lostS (isS bs) l := by omega
            clear hl3 hRa hP5 hbF5
            have ht1 := had_all (φ := isS bs) (n := C) Rk.out.marks
            have ht2 := had_all (φ := isS fs) (n := C) Rk.out.marks
            have hg1 := hide (fun t (ht : t < C) => get_hadL (isS bs) l ht)
            have hg2 := hide (fun t (ht : t < C) => get_hadL (isS fs) l ht)
            have hn1 := hide (Rk.out.hads (isS bs))
            have hn2 := hide (Rk.out.hads (isS fs))
            have hs1 := Rk.out.sum (isS bs)
            have hs2 := Rk.out.sum (isS fs)
            have hq1 := hide (length_hadL (isS bs) l C)
            have hq2 := hide (length_hadL (isS fs) l C)
            generalize hadL (isS bs) l C = xs at ht1 hg1 hn1 hs1 hq1 hRa6
            generalize hadL (isS fs) l C = ys at ht2 hg2 hn2 hs2 hq2 hRb
            generalize hLa : lostS (isS bs) l = L1 at *
            generalize hLb : lostS (isS fs) l = L2 at *
            clear hLa hLb
            go_wp2_with fail
            clear p0 f1
            go_loopw [14, 15, 16] (fun s o i wr => ∃ t : Nat, t ≤ C ∧ i = .int .i64 t ∧ s = .int .i64 (L1 + (xs.take t).sum) ∧ o = .int .i64 (L2 + (ys.take t).sum) ∧ Below w6.heap.size w6 wr) (fun s o i _ => C - (intOf i).toNat)
            case atStart => exact ⟨0, Nat.zero_le _, rfl, by simp, by simp, Below.refl _ _⟩
            case round =>
              obtain ⟨t, ht, rfl, rfl, rfl, hb⟩ := hrel
              have hPr := hP6.below hb hP6.lt
              have p0 := hPr.cell 0
              by_cases hlt : t < C
              · obtain ⟨b1, off1, v1, rfl, hc1, _, hat1, _⟩ := (hRa6.below hb).step hlt
                obtain ⟨b2, off2, v2, rfl, hc2, _, hat2, _⟩ := (hRb.below hb).step hlt
                obtain rfl : v1 = hadS (isS bs) l t := by have e := hg1.out t hlt; rw [hat1.out] at e; exact Option.some.inj e
                obtain rfl : v2 = hadS (isS fs) l t := by have e := hg2.out t hlt; rw [hat2.out] at e; exact Option.some.inj e
                have hx1 := hide (sum_take_succ' hat1.out)
                have hx2 := hide (sum_take_succ' hat2.out)
                have k1 := sum_take_bd (fun x hx => (hn1.out x hx).1) t
                have k2 := sum_take_bd (fun x hx => (hn2.out x hx).1) t
                have k3 : 0 ≤ (xs.take t).sum ∧ (xs.take t).sum ≤ 1000000 := ⟨k1.1, by omega⟩
                have k4 : 0 ≤ (ys.take t).sum ∧ (ys.take t).sum ≤ 1000000 := ⟨k2.1, by omega⟩
                have k5 := Rk.out.had (isS bs) t
                have k6 := Rk.out.had (isS fs) t
                clear k1 k2 hat1 hat2 ht1 ht2
                have hlf := HW.out t
                cases his : isS bs (t : Int) with
                | false =>
                  have z1 := had_none (l := l) his
                  have z2 := had_none (l := l) (φ := isS fs) (x := (t : Int)) (by rw [hlf, his]; rfl)
                  rw [z1] at hx1 hc1 k5
                  rw [z2] at hx2 hc2 k6
                  clear hlf z1 z2 k5 k6
                  by_cases hgt : (t : Int) = gone
                  · have g1 : ((t : Int) == gone) = true := by simp [hgt]
                    have g2 : ((t : Int) != gone) = false := by simp [hgt]
                    clear hgt
                    have hgd : Hid (bs.getD t false = isS bs (t : Int)) := (isS_getD bs t).symm
                    go_upto_region 14 with fail
                    refine wp_region_more (by kernel_rfl) (by kernel_rfl) ?_
                    repeat (go_big_quiet_step (fail))
                    refine wpQuiet_nil ?_
                    rintro w7 ⟨qw7, hww7⟩
                    have hbw7 := below_of_eq hww7
                    clear hww7 qw7
                    have hc17 := keep_cell hbw7 hc1
                    have hc27 := keep_cell hbw7 hc2
                    have hb7 := Below_trans' hb hb.size hbw7
                    clear hc1 hc2 p0
                    by_cases htn : t < n'
                    · obtain ⟨b3, off3, e3, hc3⟩ := (h'.below (Below_trans' hbF6 hbF6.size hb7)).at htn
                      subst e3
                      rw [hgd.out, his] at hc3
                      clear his
                      go_upto_region 16 with fail
                      refine wp_region_more (by kernel_rfl) (by kernel_rfl) ?_
                      repeat (go_big_quiet_step (fail))
                      refine wpQuiet_nil ?_
                      rintro w8 ⟨qw8, hww8⟩
                      have hbw8 := below_of_eq hww8
                      clear hww8 qw8
                      go_wp2
                      go_roundw
                      case rel => exact ⟨t + 1, by omega, by go_num, congrArg (Value.int .i64) (by rw [hx1.out]; omega), congrArg (Value.int .i64) (by rw [hx2.out]; omega), Below_trans' hb7 hb7.size hbw8⟩
                      case measure => simp [intOf] <;> omega
                    · clear his
                      go_upto_region 16 with fail
                      refine wp_region_more (by kernel_rfl) (by kernel_rfl) ?_
                      repeat (go_big_quiet_step (fail))
                      refine wpQuiet_nil ?_
                      rintro w8 ⟨qw8, hww8⟩
                      have hbw8 := below_of_eq hww8
                      clear hww8 qw8
                      go_wp2
                      go_roundw
                      case rel => exact ⟨t + 1, by omega, by go_num, congrArg (Value.int .i64) (by rw [hx1.out]; omega), congrArg (Value.int .i64) (by rw [hx2.out]; omega), Below_trans' hb7 hb7.size hbw8⟩
                      case measure => simp [intOf] <;> omega
                  · have g1 : ((t : Int) == gone) = false := by simp [hgt]
                    have g2 : ((t : Int) != gone) = true := by simp [hgt]
                    clear hgt
                    have hgd : Hid (bs.getD t false = isS bs (t : Int)) := (isS_getD bs t).symm
                    go_upto_region 14 with fail
                    refine wp_region_more (by kernel_rfl) (by kernel_rfl) ?_
                    repeat (go_big_quiet_step (fail))
                    refine wpQuiet_nil ?_
                    rintro w7 ⟨qw7, hww7⟩
                    have hbw7 := below_of_eq hww7
                    clear hww7 qw7
                    have hc17 := keep_cell hbw7 hc1
                    have hc27 := keep_cell hbw7 hc2
                    have hb7 := Below_trans' hb hb.size hbw7
                    clear hc1 hc2 p0
                    by_cases htn : t < n'
                    · obtain ⟨b3, off3, e3, hc3⟩ := (h'.below (Below_trans' hbF6 hbF6.size hb7)).at htn
                      subst e3
                      rw [hgd.out, his] at hc3
                      clear his
                      go_upto_region 16 with fail
                      refine wp_region_more (by kernel_rfl) (by kernel_rfl) ?_
                      repeat (go_big_quiet_step (fail))
                      refine wpQuiet_nil ?_
                      rintro w8 ⟨qw8, hww8⟩
                      have hbw8 := below_of_eq hww8
                      clear hww8 qw8
                      go_wp2
                      go_roundw
                      case rel => exact ⟨t + 1, by omega, by go_num, congrArg (Value.int .i64) (by rw [hx1.out]; omega), congrArg (Value.int .i64) (by rw [hx2.out]; omega), Below_trans' hb7 hb7.size hbw8⟩
                      case measure => simp [intOf] <;> omega
                    · clear his
                      go_upto_region 16 with fail
                      refine wp_region_more (by kernel_rfl) (by kernel_rfl) ?_
                      repeat (go_big_quiet_step (fail))
                      refine wpQuiet_nil ?_
                      rintro w8 ⟨qw8, hww8⟩
                      have hbw8 := below_of_eq hww8
                      clear hww8 qw8
                      go_wp2
                      go_roundw
                      case rel => exact ⟨t + 1, by omega, by go_num, congrArg (Value.int .i64) (by rw [hx1.out]; omega), congrArg (Value.int .i64) (by rw [hx2.out]; omega), Below_trans' hb7 hb7.size hbw8⟩
                      case measure => simp [intOf] <;> omega
                | true =>
                  by_cases hgt : (t : Int) = gone
                  · have z2 := had_none (l := l) (φ := isS fs) (x := (t : Int)) (by rw [hlf, hgt]; simp)
                    rw [z2] at hx2 hc2 k6
                    clear hlf z2 k6
                    have g1 : ((t : Int) == gone) = true := by simp [hgt]
                    have g2 : ((t : Int) != gone) = false := by simp [hgt]
                    clear hgt
                    have hgd : Hid (bs.getD t false = isS bs (t : Int)) := (isS_getD bs t).symm
                    go_upto_region 14 with fail
                    refine wp_region_more (by kernel_rfl) (by kernel_rfl) ?_
                    repeat (go_big_quiet_step (fail))
                    refine wpQuiet_nil ?_
                    rintro w7 ⟨qw7, hww7⟩
                    have hbw7 := below_of_eq hww7
                    clear hww7 qw7
                    have hc17 := keep_cell hbw7 hc1
                    have hc27 := keep_cell hbw7 hc2
                    have hb7 := Below_trans' hb hb.size hbw7
                    clear hc1 hc2 p0
                    have htn : t < n' := by have e := hgd.out; rw [his] at e; have := hlb.out; refine Decidable.byContradiction fun hx => ?_; rw [List.getD, List.getElem?_eq_none (by omega)] at e; cases e
                    obtain ⟨b3, off3, e3, hc3⟩ := (h'.below (Below_trans' hbF6 hbF6.size hb7)).at htn
                    subst e3
                    rw [hgd.out, his] at hc3
                    clear his
                    go_upto_region 16 with fail
                    refine wp_region_more (by kernel_rfl) (by kernel_rfl) ?_
                    repeat (go_big_quiet_step (fail))
                    refine wpQuiet_nil ?_
                    rintro w8 ⟨qw8, hww8⟩
                    have hbw8 := below_of_eq hww8
                    clear hww8 qw8
                    go_wp2
                    go_roundw
                    case rel => exact ⟨t + 1, by omega, by go_num, congrArg (Value.int .i64) (by rw [hx1.out]; omega), congrArg (Value.int .i64) (by rw [hx2.out]; omega), Below_trans' hb7 hb7.size hbw8⟩
                    case measure => simp [intOf] <;> omega
                  · have z3 := had_le (φ := isS bs) (ψ := isS fs) (x := (t : Int)) Rk.out.pos (fun x hx => HW.out.sub hx) (by rw [hlf, his]; simp [hgt])
                    have z4 : ¬ hadS (isS fs) l t < hadS (isS bs) l t := by omega
                    clear hlf z3
                    have g1 : ((t : Int) == gone) = false := by simp [hgt]
                    have g2 : ((t : Int) != gone) = true := by simp [hgt]
                    clear hgt
                    have hgd : Hid (bs.getD t false = isS bs (t : Int)) := (isS_getD bs t).symm
                    go_upto_region 14 with fail
                    refine wp_region_more (by kernel_rfl) (by kernel_rfl) ?_
                    repeat (go_big_quiet_step (fail))
                    refine wpQuiet_nil ?_
                    rintro w7 ⟨qw7, hww7⟩
                    have hbw7 := below_of_eq hww7
                    clear hww7 qw7
                    have hc17 := keep_cell hbw7 hc1
                    have hc27 := keep_cell hbw7 hc2
                    have hb7 := Below_trans' hb hb.size hbw7
                    clear hc1 hc2 p0
                    have htn : t < n' := by have e := hgd.out; rw [his] at e; have := hlb.out; refine Decidable.byContradiction fun hx => ?_; rw [List.getD, List.getElem?_eq_none (by omega)] at e; cases e
                    obtain ⟨b3, off3, e3, hc3⟩ := (h'.below (Below_trans' hbF6 hbF6.size hb7)).at htn
                    subst e3
                    rw [hgd.out, his] at hc3
                    clear his
                    go_upto_region 16 with fail
                    refine wp_region_more (by kernel_rfl) (by kernel_rfl) ?_
                    repeat (go_big_quiet_step (fail))
                    refine wpQuiet_nil ?_
                    rintro w8 ⟨qw8, hww8⟩
                    have hbw8 := below_of_eq hww8
                    clear hww8 qw8
                    go_wp2
                    go_roundw
                    case rel => exact ⟨t + 1, by omega, by go_num, congrArg (Value.int .i64) (by rw [hx1.out]; omega), congrArg (Value.int .i64) (by rw [hx2.out]; omega), Below_trans' hb7 hb7.size hbw8⟩
                    case measure => simp [intOf] <;> omega
              · have e1 : xs.take t = xs := List.take_of_length_le (by rw [hq1.out]; omega)
                have e2 : ys.take t = ys := List.take_of_length_le (by rw [hq2.out]; omega)
                rw [e1, e2, show L1 + xs.sum = totS l by omega, show L2 + ys.sum = totS l by omega]
                clear e1 e2 ht1 ht2 hs1 hs2
                have p1 := hPr.cell 1
                have p2 := hPr.cell 2
                have hbe := Below_trans' hbF6 hbF6.size hb
                go_wp2_with fail
                refine (many_any C 1 A n cp l wr (h.below hbe)).mono ?_
                rintro e w8 ⟨rfl, hb8⟩
                rw [cntV_tot HE.out, HE.out]
                have hbe8 := Below_trans' hbe hbe.size hb8
                clear p0 p1 p2
                go_wp2_with fail
                refine (wakes15_any _).mono ?_
                rintro e w9 ⟨rfl, hb9⟩
                go_wp2
                go_ret
                exact ⟨rfl, Below_trans' hbe8 (hbe8).size hb9⟩
        · have hW := without_out (bs := bs) (g := gone) (by rw [hlb.out]; omega)
          obtain ⟨fs, hfs⟩ : ∃ fs, bs = fs := ⟨bs, rfl⟩
          have HW : Hid (Without (isS bs) (isS fs) gone) := by rw [← hfs]; exact hW
          rw [hfs] at h42
          clear hW hfs
          go_upto_region 6 with fail
          have hbF := Below_trans' hb01 hb01.size hb12
          have p0 := hP2.cell 0
          have p1 := hP2.cell 1
          have p2 := hP2.cell 2
          have hRf := h42.bools
          go_wp2_with fail
          refine (pfirsts_any C 1 A n cp l A' n' c' bs w2 (h.below hbF) (h'.below hbF)).mono ?_
          rintro e w5 ⟨va, rfl, hOa, hb5⟩
          have ea : firstsL C 1 l bs = hadL (isS bs) l C := by unfold firstsL; rw [if_pos hF0.out, Int.toNat_natCast]
          have eb : firstsN C 1 l bs = lostS (isS bs) l := by unfold firstsN; rw [if_pos hF0.out]
          rw [ea] at hOa
          rw [eb, hF0.out]
          clear ea eb p0 p1 p2
          obtain ⟨Aa, ca, rfl⟩ := hOa.slice
          have hRa := hOa.ints (fun x hx => by have := Rk.out.hads _ x hx; omega)
          rw [length_hadL] at hRa hOa ⊢
          clear hOa
          have hP5 := hP2.below hb5 hP2.lt
          have p0 := hP5.cell 0
          have p1 := hP5.cell 1
          have p2 := hP5.cell 2
          have hbF5 := Below_trans' hbF hbF.size hb5
          go_wp2_with fail
          refine (pfirsts_any C 1 A n cp l Af n' cf fs w5 (h.below hbF5) (hRf.below hb5)).mono ?_
          rintro e w6 ⟨vb, rfl, hOb, hb6⟩
          have ea : firstsL C 1 l fs = hadL (isS fs) l C := by unfold firstsL; rw [if_pos hF0.out, Int.toNat_natCast]
          have eb : firstsN C 1 l fs = lostS (isS fs) l := by unfold firstsN; rw [if_pos hF0.out]
          rw [ea] at hOb
          rw [eb, hF0.out]
          clear ea eb p0 p1 p2
          obtain ⟨Ab, cb, rfl⟩ := hOb.slice
          have hRb := hOb.ints (fun x hx => by have := Rk.out.hads _ x hx; omega)
          rw [length_hadL] at hRb hOb ⊢
          clear hOb hRf
          have hP6 := hP5.below hb6 hP5.lt
          have hRa6 := hRa.below hb6
          have hbF6 := Below_trans' hbF5 hbF5.size hb6
          have p0 := hP6.cell 0
          have hl1 := Rk.out.lost (isS bs)
          have hl2 := Rk.out.lost (isS fs)
          have hl3 := lost_le (φ := isS bs) (ψ := isS fs) Rk.out.pos (fun x hx => HW.out.sub hx)
          have Hl3 := hide hl3
          have f1 : ¬ lostS (isS fs) l < lostS (isS bs) l := by omega
          clear hl3 hRa hP5 hbF5
          have ht1 := had_all (φ := isS bs) (n := C) Rk.out.marks
          have ht2 := had_all (φ := isS fs) (n := C) Rk.out.marks
          have hg1 := hide (fun t (ht : t < C) => get_hadL (isS bs) l ht)
          have hg2 := hide (fun t (ht : t < C) => get_hadL (isS fs) l ht)
          have hn1 := hide (Rk.out.hads (isS bs))
          have hn2 := hide (Rk.out.hads (isS fs))
          have hs1 := Rk.out.sum (isS bs)
          have hs2 := Rk.out.sum (isS fs)
          have hq1 := hide (length_hadL (isS bs) l C)
          have hq2 := hide (length_hadL (isS fs) l C)
          generalize hadL (isS bs) l C = xs at ht1 hg1 hn1 hs1 hq1 hRa6
          generalize hadL (isS fs) l C = ys at ht2 hg2 hn2 hs2 hq2 hRb
          generalize hLa : lostS (isS bs) l = L1 at *
          generalize hLb : lostS (isS fs) l = L2 at *
          clear hLa hLb
          go_wp2_with fail
          clear p0 f1
          go_loopw [14, 15, 16] (fun s o i wr => ∃ t : Nat, t ≤ C ∧ i = .int .i64 t ∧ s = .int .i64 (L1 + (xs.take t).sum) ∧ o = .int .i64 (L2 + (ys.take t).sum) ∧ Below w6.heap.size w6 wr) (fun s o i _ => C - (intOf i).toNat)
          case atStart => exact ⟨0, Nat.zero_le _, rfl, by simp, by simp, Below.refl _ _⟩
          case round =>
            obtain ⟨t, ht, rfl, rfl, rfl, hb⟩ := hrel
            have hPr := hP6.below hb hP6.lt
            have p0 := hPr.cell 0
            by_cases hlt : t < C
            · obtain ⟨b1, off1, v1, rfl, hc1, _, hat1, _⟩ := (hRa6.below hb).step hlt
              obtain ⟨b2, off2, v2, rfl, hc2, _, hat2, _⟩ := (hRb.below hb).step hlt
              obtain rfl : v1 = hadS (isS bs) l t := by have e := hg1.out t hlt; rw [hat1.out] at e; exact Option.some.inj e
              obtain rfl : v2 = hadS (isS fs) l t := by have e := hg2.out t hlt; rw [hat2.out] at e; exact Option.some.inj e
              have hx1 := hide (sum_take_succ' hat1.out)
              have hx2 := hide (sum_take_succ' hat2.out)
              have k1 := sum_take_bd (fun x hx => (hn1.out x hx).1) t
              have k2 := sum_take_bd (fun x hx => (hn2.out x hx).1) t
              have k3 : 0 ≤ (xs.take t).sum ∧ (xs.take t).sum ≤ 1000000 := ⟨k1.1, by omega⟩
              have k4 : 0 ≤ (ys.take t).sum ∧ (ys.take t).sum ≤ 1000000 := ⟨k2.1, by omega⟩
              have k5 := Rk.out.had (isS bs) t
              have k6 := Rk.out.had (isS fs) t
              clear k1 k2 hat1 hat2 ht1 ht2
              have hlf := HW.out t
              cases his : isS bs (t : Int) with
              | false =>
                have z1 := had_none (l := l) his
                have z2 := had_none (l := l) (φ := isS fs) (x := (t : Int)) (by rw [hlf, his]; rfl)
                rw [z1] at hx1 hc1 k5
                rw [z2] at hx2 hc2 k6
                clear hlf z1 z2 k5 k6
                by_cases hgt : (t : Int) = gone
                · have g1 : ((t : Int) == gone) = true := by simp [hgt]
                  have g2 : ((t : Int) != gone) = false := by simp [hgt]
                  clear hgt
                  have hgd : Hid (bs.getD t false = isS bs (t : Int)) := (isS_getD bs t).symm
                  go_upto_region 14 with fail
                  refine wp_region_more (by kernel_rfl) (by kernel_rfl) ?_
                  repeat (go_big_quiet_step (fail))
                  refine wpQuiet_nil ?_
                  rintro w7 ⟨qw7, hww7⟩
                  have hbw7 := below_of_eq hww7
                  clear hww7 qw7
                  have hc17 := keep_cell hbw7 hc1
                  have hc27 := keep_cell hbw7 hc2
                  have hb7 := Below_trans' hb hb.size hbw7
                  clear hc1 hc2 p0
                  by_cases htn : t < n'
                  · obtain ⟨b3, off3, e3, hc3⟩ := (h'.below (Below_trans' hbF6 hbF6.size hb7)).at htn
                    subst e3
                    rw [hgd.out, his] at hc3
                    clear his
                    go_upto_region 16 with fail
                    refine wp_region_more (by kernel_rfl) (by kernel_rfl) ?_
                    repeat (go_big_quiet_step (fail))
                    refine wpQuiet_nil ?_
                    rintro w8 ⟨qw8, hww8⟩
                    have hbw8 := below_of_eq hww8
                    clear hww8 qw8
                    go_wp2
                    go_roundw
                    case rel => exact ⟨t + 1, by omega, by go_num, congrArg (Value.int .i64) (by rw [hx1.out]; omega), congrArg (Value.int .i64) (by rw [hx2.out]; omega), Below_trans' hb7 hb7.size hbw8⟩
                    case measure => simp [intOf] <;> omega
                  · clear his
                    go_upto_region 16 with fail
                    refine wp_region_more (by kernel_rfl) (by kernel_rfl) ?_
                    repeat (go_big_quiet_step (fail))
                    refine wpQuiet_nil ?_
                    rintro w8 ⟨qw8, hww8⟩
                    have hbw8 := below_of_eq hww8
                    clear hww8 qw8
                    go_wp2
                    go_roundw
                    case rel => exact ⟨t + 1, by omega, by go_num, congrArg (Value.int .i64) (by rw [hx1.out]; omega), congrArg (Value.int .i64) (by rw [hx2.out]; omega), Below_trans' hb7 hb7.size hbw8⟩
                    case measure => simp [intOf] <;> omega
                · have g1 : ((t : Int) == gone) = false := by simp [hgt]
                  have g2 : ((t : Int) != gone) = true := by simp [hgt]
                  clear hgt
                  have hgd : Hid (bs.getD t false = isS bs (t : Int)) := (isS_getD bs t).symm
                  go_upto_region 14 with fail
                  refine wp_region_more (by kernel_rfl) (by kernel_rfl) ?_
                  repeat (go_big_quiet_step (fail))
                  refine wpQuiet_nil ?_
                  rintro w7 ⟨qw7, hww7⟩
                  have hbw7 := below_of_eq hww7
                  clear hww7 qw7
                  have hc17 := keep_cell hbw7 hc1
                  have hc27 := keep_cell hbw7 hc2
                  have hb7 := Below_trans' hb hb.size hbw7
                  clear hc1 hc2 p0
                  by_cases htn : t < n'
                  · obtain ⟨b3, off3, e3, hc3⟩ := (h'.below (Below_trans' hbF6 hbF6.size hb7)).at htn
                    subst e3
                    rw [hgd.out, his] at hc3
                    clear his
                    go_upto_region 16 with fail
                    refine wp_region_more (by kernel_rfl) (by kernel_rfl) ?_
                    repeat (go_big_quiet_step (fail))
                    refine wpQuiet_nil ?_
                    rintro w8 ⟨qw8, hww8⟩
                    have hbw8 := below_of_eq hww8
                    clear hww8 qw8
                    go_wp2
                    go_roundw
                    case rel => exact ⟨t + 1, by omega, by go_num, congrArg (Value.int .i64) (by rw [hx1.out]; omega), congrArg (Value.int .i64) (by rw [hx2.out]; omega), Below_trans' hb7 hb7.size hbw8⟩
                    case measure => simp [intOf] <;> omega
                  · clear his
                    go_upto_region 16 with fail
                    refine wp_region_more (by kernel_rfl) (by kernel_rfl) ?_
                    repeat (go_big_quiet_step (fail))
                    refine wpQuiet_nil ?_
                    rintro w8 ⟨qw8, hww8⟩
                    have hbw8 := below_of_eq hww8
                    clear hww8 qw8
                    go_wp2
                    go_roundw
                    case rel => exact ⟨t + 1, by omega, by go_num, congrArg (Value.int .i64) (by rw [hx1.out]; omega), congrArg (Value.int .i64) (by rw [hx2.out]; omega), Below_trans' hb7 hb7.size hbw8⟩
                    case measure => simp [intOf] <;> omega
              | true =>
                by_cases hgt : (t : Int) = gone
                · have z2 := had_none (l := l) (φ := isS fs) (x := (t : Int)) (by rw [hlf, hgt]; simp)
                  rw [z2] at hx2 hc2 k6
                  clear hlf z2 k6
                  have g1 : ((t : Int) == gone) = true := by simp [hgt]
                  have g2 : ((t : Int) != gone) = false := by simp [hgt]
                  clear hgt
                  have hgd : Hid (bs.getD t false = isS bs (t : Int)) := (isS_getD bs t).symm
                  go_upto_region 14 with fail
                  refine wp_region_more (by kernel_rfl) (by kernel_rfl) ?_
                  repeat (go_big_quiet_step (fail))
                  refine wpQuiet_nil ?_
                  rintro w7 ⟨qw7, hww7⟩
                  have hbw7 := below_of_eq hww7
                  clear hww7 qw7
                  have hc17 := keep_cell hbw7 hc1
                  have hc27 := keep_cell hbw7 hc2
                  have hb7 := Below_trans' hb hb.size hbw7
                  clear hc1 hc2 p0
                  have htn : t < n' := by have e := hgd.out; rw [his] at e; have := hlb.out; refine Decidable.byContradiction fun hx => ?_; rw [List.getD, List.getElem?_eq_none (by omega)] at e; cases e
                  obtain ⟨b3, off3, e3, hc3⟩ := (h'.below (Below_trans' hbF6 hbF6.size hb7)).at htn
                  subst e3
                  rw [hgd.out, his] at hc3
                  clear his
                  go_upto_region 16 with fail
                  refine wp_region_more (by kernel_rfl) (by kernel_rfl) ?_
                  repeat (go_big_quiet_step (fail))
                  refine wpQuiet_nil ?_
                  rintro w8 ⟨qw8, hww8⟩
                  have hbw8 := below_of_eq hww8
                  clear hww8 qw8
                  go_wp2
                  go_roundw
                  case rel => exact ⟨t + 1, by omega, by go_num, congrArg (Value.int .i64) (by rw [hx1.out]; omega), congrArg (Value.int .i64) (by rw [hx2.out]; omega), Below_trans' hb7 hb7.size hbw8⟩
                  case measure => simp [intOf] <;> omega
                · have z3 := had_le (φ := isS bs) (ψ := isS fs) (x := (t : Int)) Rk.out.pos (fun x hx => HW.out.sub hx) (by rw [hlf, his]; simp [hgt])
                  have z4 : ¬ hadS (isS fs) l t < hadS (isS bs) l t := by omega
                  clear hlf z3
                  have g1 : ((t : Int) == gone) = false := by simp [hgt]
                  have g2 : ((t : Int) != gone) = true := by simp [hgt]
                  clear hgt
                  have hgd : Hid (bs.getD t false = isS bs (t : Int)) := (isS_getD bs t).symm
                  go_upto_region 14 with fail
                  refine wp_region_more (by kernel_rfl) (by kernel_rfl) ?_
                  repeat (go_big_quiet_step (fail))
                  refine wpQuiet_nil ?_
                  rintro w7 ⟨qw7, hww7⟩
                  have hbw7 := below_of_eq hww7
                  clear hww7 qw7
                  have hc17 := keep_cell hbw7 hc1
                  have hc27 := keep_cell hbw7 hc2
                  have hb7 := Below_trans' hb hb.size hbw7
                  clear hc1 hc2 p0
                  have htn : t < n' := by have e := hgd.out; rw [his] at e; have := hlb.out; refine Decidable.byContradiction fun hx => ?_; rw [List.getD, List.getElem?_eq_none (by omega)] at e; cases e
                  obtain ⟨b3, off3, e3, hc3⟩ := (h'.below (Below_trans' hbF6 hbF6.size hb7)).at htn
                  subst e3
                  rw [hgd.out, his] at hc3
                  clear his
                  go_upto_region 16 with fail
                  refine wp_region_more (by kernel_rfl) (by kernel_rfl) ?_
                  repeat (go_big_quiet_step (fail))
                  refine wpQuiet_nil ?_
                  rintro w8 ⟨qw8, hww8⟩
                  have hbw8 := below_of_eq hww8
                  clear hww8 qw8
                  go_wp2
                  go_roundw
                  case rel => exact ⟨t + 1, by omega, by go_num, congrArg (Value.int .i64) (by rw [hx1.out]; omega), congrArg (Value.int .i64) (by rw [hx2.out]; omega), Below_trans' hb7 hb7.size hbw8⟩
                  case measure => simp [intOf] <;> omega
            · have e1 : xs.take t = xs := List.take_of_length_le (by rw [hq1.out]; omega)
              have e2 : ys.take t = ys := List.take_of_length_le (by rw [hq2.out]; omega)
              rw [e1, e2, show L1 + xs.sum = totS l by omega, show L2 + ys.sum = totS l by omega]
              clear e1 e2 ht1 ht2 hs1 hs2
              have p1 := hPr.cell 1
              have p2 := hPr.cell 2
              have hbe := Below_trans' hbF6 hbF6.size hb
              go_wp2_with fail
              refine (many_any C 1 A n cp l wr (h.below hbe)).mono ?_
              rintro e w8 ⟨rfl, hb8⟩
              rw [cntV_tot HE.out, HE.out]
              have hbe8 := Below_trans' hbe hbe.size hb8
              clear p0 p1 p2
              go_wp2_with fail
              refine (wakes15_any _).mono ?_
              rintro e w9 ⟨rfl, hb9⟩
              go_wp2
              go_ret
              exact ⟨rfl, Below_trans' hbe8 (hbe8).size hb9⟩
    · have e2 : (k != 1) = true := by simp [hk]
      clear hE hk
      go_wp2_with fail
      refine (wakes15_any _).mono ?_
      rintro e w9 ⟨rfl, hb9⟩
      go_wp2
      go_ret
      exact ⟨rfl, Below_trans' hb01 (hb01).size hb9⟩
  · have e1 : (checkS c k l != 0) = true := by simp [hE]
    clear hE
    go_wp2_with fail
    refine (wakes15_any _).mono ?_
    rintro e w9 ⟨rfl, hb9⟩
    go_wp2
    go_ret
    exact ⟨rfl, Below_trans' hb01 (hb01).size hb9⟩
end Go.Proofs.YtcmoekkaakkpjaaGreat
