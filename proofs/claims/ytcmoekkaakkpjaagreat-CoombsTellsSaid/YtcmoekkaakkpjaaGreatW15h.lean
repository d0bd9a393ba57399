/-
  Count, by the reference of the runoff.
-/
import Derived.Test.YtcmoekkaakkpjaaGreatW15e
namespace Go.Proofs.YtcmoekkaakkpjaaGreat
open Go.RowKit Go.Proofs Go.Shelf
attribute [local go_sem] cell?_alt cell?_more cell?_alloc_some cell?_setCell_far frozen?_alloc_some frozen?_more

theorem app_put_at {α : Type} {E : World → List Value → α → Prop} {e : TypeId} {size : Nat} {tS : TypeId} {z : Value} {bytes : Nat} (hinfo : (Tryz.prog.info? e).map (fun i => (i.zero, i.size, i.bytes)) = some (some z, size, bytes)) (htS : Tryz.prog.underlying tS = some (.slice e)) (hzs : z.cells.size = size) (hsz : 0 < size) (hby : bytes ≤ 1000)
    {W W1 : World} {g : Nat} (i : Nat) {t : TypeId} {C : Array Value} {B : Nat} {rn : Value} {l : List α} {fr fx : Nat → Prop} {us : List Value} {x : α} (hg : Has W g t C) (hO : OAgg E e size fr W B rn l) (hx : On fx W fun W' => E W' us x) (h6 : us.length = size) (h1 : ∀ u ∈ us, u.oneCell' = true)
    (hfx : ∀ b, rn.ownBlock = some b → ¬ fx b) (g1 : ¬ fr g) (g2 : ¬ fx g) (g3 : rn.ownBlock ≠ some g) (hs : B ≤ W.heap.size) (hn : l.length ≤ 1000) (hb : Below W.heap.size W W1) (hN : Has W1 W.heap.size e us.toArray) :
    ∃ v' w', (Builtin.append_ #[tS, tS] tS #[rn, .slice (some ⟨W.heap.size, 0, none⟩) 1 1]).run Tryz.prog W1 = .ok v' w' ∧ AppPost E e size W g i t C B rn v' (l ++ [x]) (fun b => fr b ∨ fx b) w' := by
  obtain ⟨v', w', k1, k2, k3, k4⟩ := run_appAgg hinfo htS hzs hsz hby tS (hO.below hb) (fun j u hj => by rw [hN.cell j]; simpa using hj) h6 h1 (hx.below hb) hfx (by omega) (by have := hb.size; omega)
  have hg1 : Has w' g t C := (k3.block g (hg.below hb hg.lt).lt (fun e => g3 e.symm)).trans (hg.below hb hg.lt)
  have hvg : v'.ownBlock ≠ some g := by
    rcases k4 with h | h
    · rw [h]; exact g3
    · rw [h]; intro e; have e' := Option.some.inj e; have h1 := hg.lt; have h2 := hb.size; omega
  have f1 : Frame' (fun b => rn.ownBlock = some b) W w' := (Frame'.of_below hb).trans ((Frame'.of_grown k3).mono fun k _ h => h.symm)
  have f2 : Frame' (fun b => b = g) w' (w'.setCell ⟨g, i, none⟩ v') := Frame'.setCell (p := ⟨g, i, none⟩) (Frame'.refl (fun b => b = g) w') (.inl rfl) _
  refine ⟨v', w', k1, hg1, hg1.put i v', k2.frame f2 (fun b hb e => ?_) (fun b hb e => hvg (by rw [hb, e])), f1, (f1.mono fun k _ h => .inr h).trans (f2.mono fun k _ h => .inl h), k4.imp id fun h => ⟨_, h, hb.size⟩⟩
  subst e
  exact hb.elim g1 g2

/-- Does x win? -/
def winB (left had : List Int) (x : Int) : Bool := decide (left.length = 1) || decide (had.sum < 2 * getI had x)
theorem winS_eq (left had : List Int) : winS left had = left.find? (winB left had) := rfl
theorem winB_only {left had : List Int} {C i j : Nat} {x y : Int} (hn : left.Nodup) (h0 : ∀ x ∈ had, 0 ≤ x) (hl : had.length = C) (hm : ∀ x ∈ left, 0 ≤ x ∧ x < C) (hi : left[i]? = some x) (hj : left[j]? = some y) (hij : i < j) (hx : winB left had x = true) : winB left had y = false := by
  cases hy : winB left had y with
  | false => rfl
  | true =>
    exfalso
    have hjl := (List.getElem?_eq_some_iff.1 hj).1
    unfold winB at hx hy
    have h1 : left.length ≠ 1 := by omega
    simp [h1] at hx hy
    have e := win_one h0 hl (hm x (List.mem_of_getElem? hi)) (hm y (List.mem_of_getElem? hj)) hx hy
    subst e
    obtain ⟨hi', e1⟩ := List.getElem?_eq_some_iff.1 hi
    obtain ⟨hj', e2⟩ := List.getElem?_eq_some_iff.1 hj
    have := (List.getElem_inj (h₀ := hi') (h₁ := hj') hn).1 (by rw [e1, e2])
    omega
/-- The state of the reference's count. -/
structure RSt (S0 g : Nat) (w0 w : World) (rn vt : Value) (Al : Option Addr) (nl cl : Nat) (left : List Int) (rs : List Rnd) (ts : List Row) (fr ft : Nat → Prop) : Prop where
  hb : Below w0.heap.size w0 w
  bS : S0 ≤ w.heap.size
  hG : Has w g 33 #[.slice none 0 0, rn, vt]
  hL : RInts w Al nl cl left
  lS : ∀ b, fpS Al nl b → S0 ≤ b
  hR : OAgg ERnd 54 6 fr w S0 rn rs
  hT : OAgg ETie 86 2 ft w S0 vt ts
  frS : ∀ b, fr b → S0 ≤ b
  ftS : ∀ b, ft b → S0 ≤ b
  y1 : ∀ b, rn.ownBlock = some b → ¬ ft b ∧ ¬ fpS Al nl b
  y2 : ∀ b, vt.ownBlock = some b → ¬ fr b ∧ ¬ fpS Al nl b
  y3 : ∀ b, rn.ownBlock = some b → vt.ownBlock ≠ some b
/-- What the inner loop has found. -/
def Found (left had : List Int) (i g gr : Nat) (rn vt r0 r1 r2 r3 : Value) (w5 w : World) : Prop :=
  (Hid ((left.take i).find? (winB left had) = none) ∧ w = w5) ∨
  ∃ (x : Int) (j ge : Nat), Hid (left[j]? = some x) ∧ j < i ∧ Hid (winB left had x = true) ∧ Hid ((left.take i).find? (winB left had) = some x) ∧ Has w g 33 #[.slice (some ⟨ge, 0, none⟩) 1 1, rn, vt] ∧ Has w gr 54 #[r0, r1, r2, r3, .slice (some ⟨ge, 0, none⟩) 1 1, .slice none 0 0] ∧
    Has w ge 3 #[.int .i64 x] ∧ w5.heap.size ≤ ge ∧ Frame' (fun b => b = g ∨ b = gr) w5 w

set_option maxRecDepth 100000 in
set_option maxHeartbeats 4000000 in
theorem rcount_any (c k : Int) (A : Option Addr) (n cp : Nat) (l : List Row) (seats : Int) (At : Option Addr) (nt ct : Nat) (lot : List Int) (w : World) (h : RRows w A n cp l) (h' : RInts w At nt ct lot) :
    Calls Tryz.prog 19 #[.agg #[.int .i64 c, .int .u8 k, .slice A n cp], .int .i64 seats, .slice At nt ct] w (OutPost w (runO c k l seats lot) (mayS c k l 1 seats 1 lot)) := by
  have hb0 : Below w.heap.size w (w.alloc (.cells #[.int .i64 c, .int .u8 k, .slice A n cp] 24)) := below_allocN
  have hH0 := Has.new w 24 #[.int .i64 c, .int .u8 k, .slice A n cp]
  generalize hV : World.alloc w _ = V at hb0 hH0
  have hbv : Below V.heap.size V (V.alloc (.cells #[.slice none 0 0, .slice none 0 0, .slice none 0 0] 33)) := below_allocN
  have hR0 := Has.new V 33 #[.slice none 0 0, .slice none 0 0, .slice none 0 0]
  have hP0 := hH0.below hbv hH0.lt
  have hb00 := Below_trans' hb0 hb0.size hbv
  generalize hW : World.alloc V _ = W0 at hbv hR0 hP0 hb00
  have hgw : w.heap.size < V.heap.size := hH0.lt
  have s0 := hP0.cell 0
  have s1 := hP0.cell 1
  have s2 := hP0.cell 2
  go_enter Tryz.func19, Tryz.ntmps19
  go_wp2_with fail
  try simp only [hV, hW]
  clear hV hW
  refine (may_any c k A n cp l 1 seats 1 At nt ct lot W0 (h.below hb00) (h'.below hb00)).mono ?_
  rintro e w1 ⟨rfl, hb1⟩
  have hb01 := Below_trans' hb00 hb00.size hb1
  have hP1 := hP0.below hb1 hP0.lt
  have hR1 := hR0.below hb1 hR0.lt
  clear s0 s1 s2 hH0 hP0 hR0
  by_cases hE : mayS c k l 1 seats 1 lot = 0
  · have e1 : (mayS c k l 1 seats 1 lot != 0) = false := by simp [hE]
    obtain ⟨hc0, hk0, hs1, hs2, hs3, hlot⟩ := may_zero hE
    subst hk0
    have hcs := check_ok hc0
    obtain ⟨C, rfl⟩ : ∃ C : Nat, c = (C : Int) := ⟨c.toNat, by omega⟩
    have hRk := hide (rank_ok hc0)
    have Hlot := hide hlot
    have hro := hide (runO_ok hE)
    have hE0 := hide hE
    have hC10 : C ≤ 10 := (rank_ok hc0).c10
    have hC1 : 1 ≤ C := (rank_ok hc0).c1
    clear hcs hE hc0 hlot
    go_upto_region 5 with fail
    have hb2 : Below w1.heap.size w1 (w1.alloc (.cells #[.slice none 0 0, .slice none 0 0, .slice none 0 0] 33)) := below_allocN
    have hG2 := Has.new w1 33 #[.slice none 0 0, .slice none 0 0, .slice none 0 0]
    generalize World.alloc w1 _ = w2 at hb2 hG2 ⊢
    have hP2 := hP1.below hb2 hP1.lt
    have p0 := hP2.cell 0
    go_wp2_with fail
    refine (rall_any C w2 (by omega)).mono ?_
    rintro e w3 ⟨vl, rfl, hO3, hb3⟩
    obtain ⟨Al, cl, rfl⟩ := hO3.slice
    rw [length_rangeI] at hO3 ⊢
    clear p0
    have hg1 := hG2.lt
    have hst : RSt (w1.heap.size + 1) w1.heap.size w1 w3 (.slice none 0 0) (.slice none 0 0) Al C cl (rangeI C) [] [] (fun _ => False) (fun _ => False) := {
      hb := Below_trans' hb2 hb2.size hb3
      bS := by have := hb3.size; omega
      hG := hG2.below hb3 hG2.lt
      hL := hO3.ints (fun x hx => by have := mem_rangeI.1 hx; omega)
      lS := fun b hb => by have := (hO3.own_lt (hO3.fps hb)).1; omega
      hR := OAgg.nil_ _ _ _ _ _
      hT := OAgg.nil_ _ _ _ _ _
      frS := fun _ h => h.elim
      ftS := fun _ h => h.elim
      y1 := fun _ e => by cases e
      y2 := fun _ e => by cases e
      y3 := fun _ e => by cases e }
    have hci := CtInv.start l lot hC1
    have hbp : w.heap.size < w1.heap.size := hP1.lt
    have hbr : V.heap.size < w1.heap.size := hR1.lt
    have Hrow := h.below hb01
    have Hlo := h'.below hb01
    generalize hS : w1.heap.size + 1 = S0 at hst
    clear hG2 hO3 hb2 hb3 hP2
    generalize hg0 : w1.heap.size = g at hst ⊢
    go_wp2
    go_loopg [10] C (fun kk v wr => ∃ left rs ts rn vt Al nl cl fr ft, kk = left.length ∧ CtInv l C lot left rs ts ∧ v = .slice Al nl cl ∧ RSt S0 g w1 wr rn vt Al nl cl left rs ts fr ft)
    case atStart => exact ⟨rangeI C, [], [], _, _, _, _, _, _, _, (length_rangeI C).symm, hci, rfl, hst⟩
    case round =>
      clear hst hci
      obtain ⟨left, rs, ts, rn, vt, Al', nl', cl', fr, ft, rfl, hci', rfl, st⟩ := hrel
      have Hci := hide hci'
      have hne := hide hci'.ne
      have hsub := hide hci'.sub
      have hnd := hide ((nodup_rangeI C).sublist hci'.sub)
      have hmem := hide (fun x (hx : x ∈ left) => mem_rangeI.1 (hci'.sub.subset hx))
      have hnl : left.length = nl' := st.hL.len
      have hnl10 : nl' ≤ 10 := by have := hci'.nrs; omega
      have Hnl := hide hnl
      have hrs1 : rs.length ≤ 100 := by have := hci'.nrs; omega
      have hts1 : ts.length ≤ 100 := by have := hci'.nts; omega
      clear hci' hnl
      have hPr := hP1.below st.hb hP1.lt
      have q0 := hPr.cell 0
      have q1 := hPr.cell 1
      have q2 := hPr.cell 2
      obtain ⟨wo, rfl⟩ : ∃ wo : World, wo = wr := ⟨_, rfl⟩
      go_wp2_with fail
      refine (rhad_any C A n cp l Al' nl' cl' left wo (Hrow.below st.hb) hRk.out st.hL).mono ?_
      rintro e w4 ⟨v4, rfl, hO4, hb4⟩
      clear q0 q1 q2
      obtain ⟨A4, c4, rfl⟩ := hO4.slice
      have hR4 := hO4.ints (fun x hx => by have := hRk.out.hads _ x hx; omega)
      have hlen4 := length_hadL (inL left) l C
      rw [hlen4] at hR4 hO4 ⊢
      have hA4b := hide (fun b (hb : fpS A4 C b) => hO4.own_lt (hO4.fps hb))
      have hsum := hide (hRk.out.sum (inL left))
      have hlost := hide (hRk.out.lost (inL left))
      have hhads := hide (hRk.out.hads (inL left))
      generalize hHad : hadL (inL left) l C = had at *
      generalize hLost : lostS (inL left) l = lost at *
      have HHad := hide hHad
      have HLost := hide hLost
      have Hlen4 := hide hlen4
      clear hHad hLost hlen4 hO4
      have hP4 := hPr.below hb4 hPr.lt
      have p0 := hP4.cell 0
      go_wp2
      go_loop [13, 14] (fun all i => ∃ t : Nat, t ≤ C ∧ i = .int .i64 t ∧ all = .int .i64 ((had.take t).sum)) (fun all i => C - (intOf i).toNat)
      case atStart => exact ⟨0, Nat.zero_le _, rfl, rfl⟩
      case round =>
        obtain ⟨t, ht, rfl, rfl⟩ := hrel
        by_cases hlt : t < C
        · obtain ⟨b, off, v, rfl, hc, _, hat, _⟩ := hR4.step hlt
          have hsb := sum_take_bd (fun x hx => (hhads.out x hx).1) t
          have hvb := hhads.out v (List.mem_of_getElem? hat.out)
          have hsn : Hid ((had.take (t + 1)).sum = (had.take t).sum + v) := by unfold Hid; rw [List.take_add_one, hat.out, List.sum_append]; simp
          have hbb : 0 ≤ (had.take t).sum ∧ (had.take t).sum ≤ 1000000 := ⟨hsb.1, by have := hsum.out; omega⟩
          clear hat hsb
          go_wp2
          go_round
          case rel => exact ⟨t + 1, by omega, by go_num, by rw [hsn.out]⟩
          case measure => simp [intOf] <;> omega
        · have e : Hid (had.take t = had) := List.take_of_length_le (by rw [Hlen4.out]; omega)
          rw [e.out]
          clear e
          go_wp2_with fail
          clear p0
          refine (rwholes_any A4 C c4 had w4 hR4 (by omega) (fun x hx => by have := hhads.out x hx; omega)).mono ?_
          rintro e w5 ⟨v5, fp5, rfl, hO5, hf5, hb5⟩
          have Hf5 := hide hf5
          obtain ⟨A5, n5, c5, rfl⟩ : ∃ A n c, v5 = .slice A n c := let ⟨A, c, e⟩ := hO5.slice; ⟨A, _, c, e⟩
          clear hf5
          go_wp2_with fail
          refine (rwhole_any lost w5 hlost.out.1 (by have := hlost.out.2; omega)).mono ?_
          rintro e w6 ⟨An, nn, cn, Ad, nd, cd, rfl, hn6, hd6, hb6, hf6⟩
          have Hf6 := hide hf6
          clear hf6
          go_upto_region 13 with fail
          have hb7 : Below w6.heap.size w6 (w6.alloc (.cells #[.slice A5 n5 c5, .bool false, .slice An nn cn, .slice Ad nd cd, .slice none 0 0, .slice none 0 0] 54)) := below_allocN
          have hD7 := Has.new w6 54 #[.slice A5 n5 c5, .bool false, .slice An nn cn, .slice Ad nd cd, .slice none 0 0, .slice none 0 0]
          generalize World.alloc w6 _ = w7 at hb7 hD7 ⊢
          have hb47 := Below_trans' (Below_trans' hb5 hb5.size hb6) (Below_trans' hb5 hb5.size hb6).size hb7
          have hb07 : Below wo.heap.size wo w7 := Below_trans' hb4 hb4.size hb47
          have hG7 := st.hG.below hb07 st.hG.lt
          have hL7 := st.hL.below hb07
          have hR47 := hR4.below hb47
          have hz0 := st.bS
          have hg0 : g < S0 := by omega
          have hz7 := hb07.size
          have hgr : g < w6.heap.size := by have h1 := hb4.size; have h2 := hb5.size; have h3 := hb6.size; omega
          have hz6 : wo.heap.size ≤ w6.heap.size := by have h1 := hb4.size; have h2 := hb5.size; have h3 := hb6.size; omega
          generalize hgrr : w6.heap.size = gr at hD7 hgr hz6 ⊢
          have hgr7 : gr < w7.heap.size := hD7.lt
          go_wp2
          go_loopw [16] (fun i wr => ∃ t : Nat, t ≤ nl' ∧ i = .int .i64 t ∧ Found left had t g gr rn vt (.slice A5 n5 c5) (.bool false) (.slice An nn cn) (.slice Ad nd cd) w7 wr) (fun i _ => nl' - (intOf i).toNat)
          case atStart => exact ⟨0, Nat.zero_le _, rfl, .inl ⟨rfl, rfl⟩⟩
          case round =>
            obtain ⟨t, ht, rfl, hF⟩ := hrel
            by_cases hlt : t < nl'
            · have hLw : RInts wr Al' nl' cl' left ∧ RInts wr A4 C c4 had := by
                rcases hF with ⟨_, rfl⟩ | ⟨x, j, ge, _, _, _, _, _, _, _, _, hFr⟩
                · exact ⟨hL7, hR47⟩
                · refine ⟨(hL7.on.frame hFr (fun b hb e => ?_)).get, (hR47.on.frame hFr (fun b hb e => ?_)).get⟩
                  · have h1 := st.lS b hb; have h2 := st.hL.on.1 b hb; omega
                  · have h1 := hA4b.out b hb; have h2 := hb5.size; have h3 := hb6.size; omega
              obtain ⟨b, off, y, rfl, hcy, _, haty, _⟩ := hLw.1.step hlt
              have hyb := hmem.out y (List.mem_of_getElem? haty.out)
              obtain ⟨Y, rfl⟩ : ∃ Y : Nat, y = Y := ⟨y.toNat, by omega⟩
              obtain ⟨b2, off2, vy, rfl, hcv, _, hatv, _⟩ := hLw.2.step (show Y < C by omega)
              have hgy := hide (getI_of hatv.out)
              have hvyb := hhads.out vy (List.mem_of_getElem? hatv.out)
              have hwB := hide (show winB left had (Y : Int) = (decide (nl' = 1) || decide (had.sum < 2 * vy)) by unfold winB; rw [hgy.out, Hnl.out])
              have hsn := hide hsum.out
              have htk : Hid (left.take (t + 1) = left.take t ++ [(Y : Int)]) := by unfold Hid; rw [List.take_add_one, haty.out]; rfl
              clear hatv hLw
              by_cases h1 : nl' = 1
              · have f1 : ((nl' : Int) == 1) = true := by simp [h1]
                have hp : winB left had (Y : Int) = true := by rw [hwB.out]; simp [h1]
                clear h1
                rcases hF with ⟨hn, rfl⟩ | ⟨x, j, ge, hx, hj, hpx, _⟩
                · have Hp := hide hp
                  have Haty := hide haty.out
                  clear hp haty
                  have d4 := hD7.cell 4
                  have d5 := hD7.free 4
                  have g0 := hG7.cell 0
                  have g1 := hG7.free 0
                  have nne : Hid (gr ≠ g) := fun e => by omega
                  have hz8 : gr ≠ wr.heap.size := by omega
                  go_wp2
                  have hG8 := ((hG7.far (p := ⟨gr, 4, none⟩) (fun e => nne.out (Eq.symm e)) (.slice (some ⟨wr.heap.size, 0, none⟩) 1 1)).alloc (.cells #[.int .i64 (Y : Int)] 3)).put 0 (.slice (some ⟨wr.heap.size, 0, none⟩) 1 1)
                  have hD8 := ((hD7.put 4 (.slice (some ⟨wr.heap.size, 0, none⟩) 1 1)).alloc (.cells #[.int .i64 (Y : Int)] 3)).far (p := ⟨g, 0, none⟩) nne.out (.slice (some ⟨wr.heap.size, 0, none⟩) 1 1)
                  have hE8 := (Has.new (wr.setCell ⟨gr, 4, none⟩ (.slice (some ⟨wr.heap.size, 0, none⟩) 1 1)) 3 #[.int .i64 (Y : Int)]).far (p := ⟨g, 0, none⟩) (fun e => by have e : (wr.setCell ⟨gr, 4, none⟩ (.slice (some ⟨wr.heap.size, 0, none⟩) 1 1)).heap.size = g := e; simp [World.setCell] at e; omega) (.slice (some ⟨wr.heap.size, 0, none⟩) 1 1)
                  have hE8' : Has (((wr.setCell ⟨gr, 4, none⟩ (.slice (some ⟨wr.heap.size, 0, none⟩) 1 1)).alloc (.cells #[.int .i64 (Y : Int)] 3)).setCell ⟨g, 0, none⟩ (.slice (some ⟨wr.heap.size, 0, none⟩) 1 1)) wr.heap.size 3 #[.int .i64 (Y : Int)] := by
                    have e : (wr.setCell ⟨gr, 4, none⟩ (.slice (some ⟨wr.heap.size, 0, none⟩) 1 1)).heap.size = wr.heap.size := by simp [World.setCell]
                    rw [e] at hE8
                    exact hE8
                  have hF8 : Frame' (fun b => b = g ∨ b = gr) wr (((wr.setCell ⟨gr, 4, none⟩ (.slice (some ⟨wr.heap.size, 0, none⟩) 1 1)).alloc (.cells #[.int .i64 (Y : Int)] 3)).setCell ⟨g, 0, none⟩ (.slice (some ⟨wr.heap.size, 0, none⟩) 1 1)) :=
                    (((Frame'.refl (fun b => b = g ∨ b = gr) wr).setCell (p := ⟨gr, 4, none⟩) (.inl (.inr rfl)) _).alloc _).setCell (p := ⟨g, 0, none⟩) (.inl (.inl rfl)) _
                  clear hE8 d4 d5 g0 g1
                  go_roundw
                  case rel => exact ⟨t + 1, by omega, by go_num, .inr ⟨Y, t, wr.heap.size, Haty, by omega, Hp, by unfold Hid; rw [htk.out, List.find?_append, hn.out]; simp [Hp.out], hG8, hD8, hE8', Nat.le_refl _, hF8⟩⟩
                  case measure => simp [intOf] <;> omega
                · exfalso
                  have := winB_only hnd.out (fun x hx => (hhads.out x hx).1) Hlen4.out hmem.out hx.out haty.out hj hpx.out
                  rw [hp] at this
                  cases this
              · have f1 : ((nl' : Int) == 1) = false := by simp; omega
                by_cases h2 : had.sum < 2 * vy
                · have hp : winB left had (Y : Int) = true := by rw [hwB.out]; simp [h2]
                  clear h1
                  rcases hF with ⟨hn, rfl⟩ | ⟨x, j, ge, hx, hj, hpx, _⟩
                  · have Hp := hide hp
                    have Haty := hide haty.out
                    clear hp haty
                    have d4 := hD7.cell 4
                    have d5 := hD7.free 4
                    have g0 := hG7.cell 0
                    have g1 := hG7.free 0
                    have nne : Hid (gr ≠ g) := fun e => by omega
                    have hz8 : gr ≠ wr.heap.size := by omega
                    go_wp2
                    have hG8 := ((hG7.far (p := ⟨gr, 4, none⟩) (fun e => nne.out (Eq.symm e)) (.slice (some ⟨wr.heap.size, 0, none⟩) 1 1)).alloc (.cells #[.int .i64 (Y : Int)] 3)).put 0 (.slice (some ⟨wr.heap.size, 0, none⟩) 1 1)
                    have hD8 := ((hD7.put 4 (.slice (some ⟨wr.heap.size, 0, none⟩) 1 1)).alloc (.cells #[.int .i64 (Y : Int)] 3)).far (p := ⟨g, 0, none⟩) nne.out (.slice (some ⟨wr.heap.size, 0, none⟩) 1 1)
                    have hE8 := (Has.new (wr.setCell ⟨gr, 4, none⟩ (.slice (some ⟨wr.heap.size, 0, none⟩) 1 1)) 3 #[.int .i64 (Y : Int)]).far (p := ⟨g, 0, none⟩) (fun e => by have e : (wr.setCell ⟨gr, 4, none⟩ (.slice (some ⟨wr.heap.size, 0, none⟩) 1 1)).heap.size = g := e; simp [World.setCell] at e; omega) (.slice (some ⟨wr.heap.size, 0, none⟩) 1 1)
                    have hE8' : Has (((wr.setCell ⟨gr, 4, none⟩ (.slice (some ⟨wr.heap.size, 0, none⟩) 1 1)).alloc (.cells #[.int .i64 (Y : Int)] 3)).setCell ⟨g, 0, none⟩ (.slice (some ⟨wr.heap.size, 0, none⟩) 1 1)) wr.heap.size 3 #[.int .i64 (Y : Int)] := by
                      have e : (wr.setCell ⟨gr, 4, none⟩ (.slice (some ⟨wr.heap.size, 0, none⟩) 1 1)).heap.size = wr.heap.size := by simp [World.setCell]
                      rw [e] at hE8
                      exact hE8
                    have hF8 : Frame' (fun b => b = g ∨ b = gr) wr (((wr.setCell ⟨gr, 4, none⟩ (.slice (some ⟨wr.heap.size, 0, none⟩) 1 1)).alloc (.cells #[.int .i64 (Y : Int)] 3)).setCell ⟨g, 0, none⟩ (.slice (some ⟨wr.heap.size, 0, none⟩) 1 1)) :=
                      (((Frame'.refl (fun b => b = g ∨ b = gr) wr).setCell (p := ⟨gr, 4, none⟩) (.inl (.inr rfl)) _).alloc _).setCell (p := ⟨g, 0, none⟩) (.inl (.inl rfl)) _
                    clear hE8 d4 d5 g0 g1
                    go_roundw
                    case rel => exact ⟨t + 1, by omega, by go_num, .inr ⟨Y, t, wr.heap.size, Haty, by omega, Hp, by unfold Hid; rw [htk.out, List.find?_append, hn.out]; simp [Hp.out], hG8, hD8, hE8', Nat.le_refl _, hF8⟩⟩
                    case measure => simp [intOf] <;> omega
                  · exfalso
                    have := winB_only hnd.out (fun x hx => (hhads.out x hx).1) Hlen4.out hmem.out hx.out haty.out hj hpx.out
                    rw [hp] at this
                    cases this
                · have hp : winB left had (Y : Int) = false := by rw [hwB.out]; simp [h1, h2]
                  clear h1
                  have Hp := hide hp
                  have HF := hide hF
                  clear hp hF
                  go_wp2
                  go_roundw
                  case rel =>
                    refine ⟨t + 1, by omega, by go_num, ?_⟩
                    rcases HF.out with ⟨hn, rfl⟩ | ⟨x, j, ge, q1, q2, q3, q4, q5, q6, q7, q8, q9⟩
                    · exact .inl ⟨by unfold Hid; rw [htk.out, List.find?_append, hn.out]; simp [Hp.out], rfl⟩
                    · exact .inr ⟨x, j, ge, q1, by omega, q3, by unfold Hid; rw [htk.out, List.find?_append, q4.out]; rfl, q5, q6, q7, q8, q9⟩
                  case measure => simp [intOf] <;> omega
            · have htn : left.take t = left := List.take_of_length_le (by rw [Hnl.out]; omega)
              rcases hF with ⟨hn, rfl⟩ | ⟨x, j, ge, hx, hj, hpx, hfx, hGx, hDx, hEx, hgex, hFx⟩
              · have hwn := hide (show winS left had = none by have e := hn.out; rw [htn] at e; exact e)
                clear htn hn
                have g0 := hG7.cell 0
                have hxm : Hid (lastS lot (leastS had left) ∈ leastS had left) := hide (lastS_mem (lot := lot) (bestS_ne (f := fun c => - getI had c) hne.out) (fun x hx => lot_in Hlot.out (hsub.out.subset ((bestS_sub _ _).subset hx))))
                go_wp2_with fail
                refine (least_any Al' nl' cl' left A4 C c4 had wr hL7 hR47 (by omega) hsub.out (fun x hx => (hhads.out x hx).1)).mono ?_
                rintro e w8 ⟨v8, rfl, hO8, hb8⟩
                clear g0
                obtain ⟨A8, c8, rfl⟩ := hO8.slice
                have hsl : (leastS had left).Sublist left := bestS_sub _ _
                have hR8 := hO8.ints (fun x hx => by have := hmem.out x (hsl.subset hx); omega)
                have hA8b := hide (fun b (hb : fpS A8 (leastS had left).length b) => hO8.own_lt (hO8.fps hb))
                clear hO8
                go_wp2_with fail
                refine (rlast_any At nt ct lot A8 _ c8 (leastS had left) w8 (Hlo.below (Below_trans' (Below_trans' st.hb st.hb.size hb07) (Below_trans' st.hb st.hb.size hb07).size hb8)) hR8).mono ?_
                rintro e w' ⟨rfl, rfl⟩
                have hxb := hmem.out _ (hsl.subset hxm.out)
                have hb08 := Below_trans' hb07 hb07.size hb8
                have hG8 := hG7.below hb8 hG7.lt
                have hD8 := hD7.below hb8 hD7.lt
                have g2 := hG8.cell 2
                have htied := tied_any S0 vt ft ts A8 _ c8 (leastS had left) (lastS lot (leastS had left)) w8 (by have := hb08.size; omega) (st.hT.below hb08) hR8 (fun b hv hb => by have h1 := (st.hT.lt hv).2; have h2 := hA8b.out b hb; omega) ⟨by omega, by omega⟩ (by omega)
                clear g2
                have g2 := hG8.cell 2
                have gf2 := hG8.free 2
                obtain ⟨Avt, nvt, cvt, rfl⟩ : ∃ A n c, vt = .slice A n c := let ⟨A, c, e⟩ := st.hT.slice; ⟨A, _, c, e⟩
                generalize hx : lastS lot (leastS had left) = x at htied hxb ⊢
                have Hx := hide hx
                clear hx
                go_wp2_with fail
                refine htied.mono ?_
                rintro e w9 ⟨vt', ft', rfl, hT9, hft9, hvt9, hF9⟩
                clear htied g2 gf2
                have hvo : ∀ b, (Value.slice Avt nvt cvt).ownBlock = some b → S0 ≤ b ∧ b < wo.heap.size := fun b e => st.hT.lt e
                have hG9 := hF9.has hG8 (fun e => by have := hvo _ e; omega)
                have hD9 := hF9.has hD8 (fun e => by have := hvo _ e; omega)
                have g2 := hG9.cell 2
                have gf2 := hG9.free 2
                obtain ⟨Aw, nw, cw, rfl⟩ : ∃ A n c, vt' = .slice A n c := let ⟨A, c, e⟩ := hT9.slice; ⟨A, _, c, e⟩
                go_upto_region 23 with fail
                have hG10 := hG9.put 2 (.slice Aw nw cw)
                have k10 : Frame' (fun b => b = g) w9 (w9.setCell ⟨g, 2, none⟩ (.slice Aw nw cw)) := Frame'.setCell (p := ⟨g, 2, none⟩) (Frame'.refl (fun b => b = g) w9) (.inl rfl) _
                generalize World.setCell w9 _ _ = w10 at hG10 k10 ⊢
                clear g2 gf2
                have hz8 := hb08.size
                have hz9 := hF9.size
                have hz7w := hb8.size
                have hft8 : ∀ b, ft' b → S0 ≤ b ∧ (b < wo.heap.size ∧ ft b ∨ wr.heap.size ≤ b ∧ b < w8.heap.size) := fun b hb => by
                  rcases hft9 b hb with h1 | h1
                  · exact ⟨st.ftS b h1, .inl ⟨st.hT.fp_lt h1, h1⟩⟩
                  · have h2 := hA8b.out b h1; exact ⟨by omega, .inr (by omega)⟩
                have hvw9 : ∀ b, (Value.slice Aw nw cw).ownBlock = some b → (Value.slice Avt nvt cvt).ownBlock = some b ∧ b < wo.heap.size ∨ w8.heap.size ≤ b ∧ b < w9.heap.size := fun b e => by
                  have h2 := (hT9.lt e).2
                  rcases hvt9 with h1 | ⟨b', h1, h3⟩
                  · rw [h1] at e; exact .inl ⟨e, (hvo b e).2⟩
                  · rw [h1] at e; cases e; exact .inr ⟨h3, h2⟩
                have hT10 := hT9.frame k10 (fun b hb e => by have := hft8 b hb; omega) (fun b hb e => by have := hT9.lt hb; omega)
                have kk : Frame' (fun b => b = g ∨ (Value.slice Avt nvt cvt).ownBlock = some b) w8 w10 := (hF9.mono fun _ _ e => .inr e).trans (k10.mono fun _ _ e => .inl e)
                have hD10 := k10.has hD9 (fun e => by omega)
                have hL10 := ((hL7.below hb8).on.frame kk (fun b hb e => by have h1 := st.lS b hb; rcases e with e | e; omega; exact (st.y2 b e).2 hb)).get
                go_wp2_with fail
                refine (without_any Al' nl' cl' left x w10 hL10 (by omega)).mono ?_
                rintro e w11 ⟨v11, rfl, hO11, hb11⟩
                obtain ⟨A11, c11, rfl⟩ := hO11.slice
                have hG11 := hG10.below hb11 hG10.lt
                have hD11 := hD10.below hb11 hD10.lt
                have d4 := hD11.cell 5
                have d5 := hD11.free 5
                go_upto_region 25 with fail
                have hO12 : Has ((w11.alloc (.cells #[.int .i64 x] 3)).setCell ⟨gr, 5, none⟩ (.slice (some ⟨w11.heap.size, 0, none⟩) 1 1)) w11.heap.size 3 #[.int .i64 x] := (Has.new w11 3 #[.int .i64 x]).far (p := ⟨gr, 5, none⟩) (Ne.symm (Nat.ne_of_lt hD11.lt)) _
                have k12 : Frame' (fun b => b = gr) w11 ((w11.alloc (.cells #[.int .i64 x] 3)).setCell ⟨gr, 5, none⟩ (.slice (some ⟨w11.heap.size, 0, none⟩) 1 1)) := Frame'.setCell (p := ⟨gr, 5, none⟩) ((Frame'.refl (fun b => b = gr) w11).alloc (.cells #[.int .i64 x] 3)) (.inl rfl) _
                have HD := (hD11.alloc (.cells #[.int .i64 x] 3)).put 5 (.slice (some ⟨w11.heap.size, 0, none⟩) 1 1)
                have HD : Has ((w11.alloc (.cells #[.int .i64 x] 3)).setCell ⟨gr, 5, none⟩ (.slice (some ⟨w11.heap.size, 0, none⟩) 1 1)) gr 54 #[.slice A5 n5 c5, .bool false, .slice An nn cn, .slice Ad nd cd, .slice none 0 0, .slice (some ⟨w11.heap.size, 0, none⟩) 1 1] := HD
                generalize World.setCell _ _ _ = WA at hO12 k12 HD ⊢
                clear d4 d5
                have kb : Frame' (fun b => b = g ∨ (Value.slice Avt nvt cvt).ownBlock = some b ∨ b = gr) w8 WA := ((kk.mono fun _ _ e => e.imp id .inl).trans (Frame'.of_below hb11)).trans (k12.mono fun _ _ e => .inr (.inr e))
                have kw : Frame' (fun b => b < wo.heap.size ∨ b = gr) wr WA := (Frame'.of_below hb8).trans (kb.mono fun b _ e => by rcases e with e | e | e; omega; have := hvo b e; omega; omega)
                have hz11 := hb11.size
                have hz10 := k10.size
                have HG := k12.has hG11 (fun e => by omega)
                have hel := RInts.nil_ WA
                have hou := lit_ints hO12 (x := x) ⟨by omega, by omega⟩
                have hw11 : w8.heap.size ≤ w11.heap.size := by omega
                have hfe : ∀ b, fpS (none : Option Addr) 0 b → wo.heap.size ≤ b ∧ b ≠ g := fun b hb => (fpS_none 0 b hb).elim
                have hfo : ∀ b, fpS (some ⟨w11.heap.size, 0, none⟩) 1 b → wo.heap.size ≤ b ∧ b ≠ g := fun b hb => by have e := fpS_some hb; omega
                have HOR := (st.hR.below hb08).frame kb (fun b hb e => by have h1 := st.frS b hb; have h2 := st.hR.fp_lt hb; rcases e with e | e | e; omega; exact (st.y2 b e).1 hb; omega) (fun b hb e => by have h1 := st.hR.lt hb; rcases e with e | e | e; omega; exact st.y3 b hb e; omega)
                have HOT := (hT10.below hb11).frame k12 (fun b hb e => by have := hft8 b hb; omega) (fun b hb e => by have := hvw9 b hb; omega)
                have hb67 := hb7
                have HO5 := (hO5.below (Below_trans' hb6 hb6.size hb7)).frame kw (fun b hb e => by have h1 := Hf5.out b hb; have h2 := hO5.fp_lt hb; have h3 := hb6.size; have h4 := hb4.size; omega) (fun b hb e => by have h1 := hO5.lt hb; have h3 := hb6.size; have h4 := hb4.size; omega)
                have HN := (hn6.below hb7).frame kw (fun b hb e => by have h1 := Hf6.out b (.inl hb); have h2 := hn6.on.1 b hb; have h3 := hb5.size; have h4 := hb4.size; omega)
                have HDn := (hd6.below hb7).frame kw (fun b hb e => by have h1 := Hf6.out b (.inr hb); have h2 := hd6.on.1 b hb; have h3 := hb5.size; have h4 := hb4.size; omega)
                have hEr := rnd_on HO5 HN HDn hel hou
                have hfp : ∀ b, fpR fp5 An nn Ad nd _ _ _ _ (.slice A5 n5 c5) b → wo.heap.size ≤ b ∧ b ≠ g := fun b hb => by
                  have h4 := hb4.size
                  have h5 := hb5.size
                  rcases hb with ((hb | hb) | hb | hb) | hb | hb
                  · have h1 := Hf5.out b hb; omega
                  · have h1 := (hO5.lt hb).1; omega
                  · have h1 := Hf6.out b (.inl hb); omega
                  · have h1 := Hf6.out b (.inr hb); omega
                  · exact hfe b hb
                  · exact hfo b hb
                obtain ⟨v', w', h41, hA⟩ := app_put_at infoRnd Tryz.underlying30 rfl (by decide) (by decide) 1 HG HOR hEr rfl (by simp [Value.oneCell']) (fun b hb e => by have h1 := st.hR.lt hb; have h2 := hfp b e; omega) (fun e => by have h1 := st.frS g e; omega) (fun e => (hfp g e).2 rfl) (fun e => by have h1 := st.hR.lt e; omega) (by have h1 := kw.size; omega) (by omega) (W1 := WA.alloc (.cells #[.slice A5 n5 c5, .bool false, .slice An nn cn, .slice Ad nd cd, _, _] 54)) below_allocN (Has.new _ _ _)
                have p2 := HG.cell 1
                have r0 := HD.cell 0
                have r1 := HD.cell 1
                have r2 := HD.cell 2
                have r3 := HD.cell 3
                have r4 := HD.cell 4
                have r5 := HD.cell 5
                obtain ⟨Arn, nrn, crn, rfl⟩ : ∃ Arn nrn crn, rn = .slice Arn nrn crn := let ⟨A, c, e⟩ := st.hR.slice; ⟨A, _, c, e⟩
                obtain ⟨Av, nv, cv, rfl⟩ : ∃ Av nv cv, v' = .slice Av nv cv := let ⟨A, c, e⟩ := hA.own.slice; ⟨A, _, c, e⟩
                have q1 := hA.hg.cell 1
                have f9 := hA.hg.free 1
                have q4 := hA.put.cell 0
                go_upto_region 26 with (at_builtin; refine list_app rfl rfl rfl rfl h41 ?_)
                clear p2 r0 r1 r2 r3 r4 r5 q1 f9
                have hnx := Hci.out.next Hlot.out (by rw [HHad.out]; exact hwn.out)
                rw [HHad.out, HLost.out, Hx.out] at hnx
                have hlt' := hnx.2
                have hnx' := hide hnx.1
                have hWA := k12.size
                have hwb : w11.heap.size < WA.heap.size := hO12.lt
                have hrnlt : ∀ b, (Value.slice Arn nrn crn).ownBlock = some b → S0 ≤ b ∧ b < wo.heap.size := fun b e => st.hR.lt e
                have hfp2 : ∀ b, fpR fp5 An nn Ad nd none 0 (some ⟨w11.heap.size, 0, none⟩) 1 (.slice A5 n5 c5) b → wo.heap.size ≤ b ∧ (b < wr.heap.size ∨ b = w11.heap.size) := fun b hb => by
                  refine ⟨(hfp b hb).1, ?_⟩
                  have h6 := hb6.size
                  have h7 := hb7.size
                  rcases hb with ((hb | hb) | hb | hb) | hb | hb
                  · have h1 := hO5.fp_lt hb; omega
                  · have h1 := (hO5.lt hb).2; omega
                  · have h1 := hn6.on.1 b hb; omega
                  · have h1 := hd6.on.1 b hb; omega
                  · exact (fpS_none 0 b hb).elim
                  · exact .inr (fpS_some hb)
                have hL11 := hO11.ints (fun y hy => by have := hmem.out y ((outS_sub _ _).subset hy); omega)
                have hA11 : ∀ b, fpS A11 (outS left x).length b → w10.heap.size ≤ b ∧ b < w11.heap.size := fun b hb => hO11.own_lt (hO11.fps hb)
                have HOT2 := HOT.frame hA.fr2 (fun b hb e => by
                  have h1 := hft8 b hb
                  rcases e with e | e
                  · omega
                  · have h2 := hrnlt b e
                    rcases h1.2 with h3 | h3
                    · exact (st.y1 b e).1 h3.2
                    · omega) (fun b hb e => by
                  have h1 := HOT.lt hb
                  rcases e with e | e
                  · omega
                  · have h2 := hrnlt b e
                    rcases hvw9 b hb with h3 | h3
                    · exact st.y3 b e h3.1
                    · omega)
                have HB0 : Below w1.heap.size w1 WA := Frame'.below (Below_trans' st.hb st.hb.size hb08) kb (fun b e => by rcases e with e | e | e; omega; have := hvo b e; omega; have := st.hb.size; omega) (by have := st.hb.size; omega)
                have Hst : RSt S0 g w1 (w'.setCell ⟨g, 1, none⟩ (.slice Av nv cv)) (.slice Av nv cv) (.slice Aw nw cw) A11 (outS left x).length c11 (outS left x) (rs ++ [rndS had lost [] [x]]) (tiedS ts (leastS had left) x) (fun b => fr b ∨ fpR fp5 An nn Ad nd none 0 (some ⟨w11.heap.size, 0, none⟩) 1 (.slice A5 n5 c5) b) ft' := {
                  hb := Frame'.below HB0 hA.fr2 (fun b e => by rcases e with e | e; omega; have := hrnlt b e; omega) (by have h1 := HB0.size; exact Nat.le_trans (Nat.le_refl _) h1)
                  bS := by have := hA.fr2.size; omega
                  hG := hA.put
                  hL := (((hL11.on.frame k12 (fun b hb e => by have := hA11 b hb; omega)).frame hA.fr2 (fun b hb e => by have h1 := hA11 b hb; rcases e with e | e; omega; have := hrnlt b e; omega))).get
                  lS := fun b hb => by have := hA11 b hb; omega
                  hR := hA.own
                  hT := HOT2
                  frS := fun b hb => by rcases hb with hb | hb; exact st.frS b hb; have := hfp2 b hb; omega
                  ftS := fun b hb => (hft8 b hb).1
                  y1 := fun b e => by
                    rcases hA.blk with h1 | ⟨b', h1, h2⟩
                    · rw [h1] at e
                      have h3 := hrnlt b e
                      refine ⟨fun hb => ?_, fun hb => by have := hA11 b hb; omega⟩
                      rcases (hft8 b hb).2 with h4 | h4
                      · exact (st.y1 b e).1 h4.2
                      · omega
                    · rw [h1] at e; cases e
                      refine ⟨fun hb => by have := hft8 _ hb; omega, fun hb => by have := hA11 _ hb; omega⟩
                  y2 := fun b e => by
                    have h3 := hvw9 b e
                    refine ⟨fun hb => ?_, fun hb => by have := hA11 b hb; have := k10.size; omega⟩
                    rcases hb with hb | hb
                    · rcases h3 with h4 | h4
                      · exact (st.y2 b h4.1).1 hb
                      · have := st.hR.fp_lt hb; omega
                    · have h5 := hfp2 b hb; omega
                  y3 := fun b e e2 => by
                    have h3 := hvw9 b e2
                    rcases hA.blk with h1 | ⟨b', h1, h2⟩
                    · rw [h1] at e
                      have h4 := hrnlt b e
                      rcases h3 with h5 | h5
                      · exact st.y3 b e h5.1
                      · omega
                    · rw [h1] at e; cases e; omega }
                have HSt := hide Hst
                clear Hst hnx st HOT2 hA
                go_wp2
                go_roundg (outS left x).length
                case measure => exact hlt'
                case rel => exact ⟨_, _, _, _, _, _, _, _, _, _, rfl, hnx'.out, rfl, HSt.out⟩
              · have hwn := hide (show winS left had = some x by have e := hfx.out; rw [htn] at e; exact e)
                clear htn hfx
                have k7 := hFx
                have hz7 := hFx.size
                have kw : Frame' (fun b => b < wo.heap.size ∨ b = gr) w7 wr := hFx.mono fun b _ e => by omega
                have HG := hGx
                have HD := hDx
                have hel := lit_ints hEx (x := x) (by have hm := hmem.out x (List.mem_of_getElem? hx.out); exact ⟨by omega, by omega⟩)
                have hou := RInts.nil_ wr
                have hfe : ∀ b, fpS (some ⟨ge, 0, none⟩) 1 b → wo.heap.size ≤ b ∧ b ≠ g := fun b hb => by have e := fpS_some hb; have := hb07.size; omega
                have hfo : ∀ b, fpS (none : Option Addr) 0 b → wo.heap.size ≤ b ∧ b ≠ g := fun b hb => (fpS_none 0 b hb).elim
                have HOR := (st.hR.below hb07).frame hFx (fun b hb e => by have h1 := st.frS b hb; have h2 := st.hR.fp_lt hb; omega) (fun b hb e => by have h1 := st.hR.lt hb; omega)
                have HOT := (st.hT.below hb07).frame hFx (fun b hb e => by have h1 := st.ftS b hb; have h2 := st.hT.fp_lt hb; omega) (fun b hb e => by have h1 := st.hT.lt hb; omega)
                have g0 := hGx.cell 0
                have HBx : Below w1.heap.size w1 wr := Frame'.below (Below_trans' st.hb st.hb.size hb07) hFx (fun b e => by have := st.hb.size; omega) (by have h1 := st.hb.size; have h2 := hb07.size; omega)
                have hb67 := hb7
                have HO5 := (hO5.below (Below_trans' hb6 hb6.size hb7)).frame kw (fun b hb e => by have h1 := Hf5.out b hb; have h2 := hO5.fp_lt hb; have h3 := hb6.size; have h4 := hb4.size; omega) (fun b hb e => by have h1 := hO5.lt hb; have h3 := hb6.size; have h4 := hb4.size; omega)
                have HN := (hn6.below hb7).frame kw (fun b hb e => by have h1 := Hf6.out b (.inl hb); have h2 := hn6.on.1 b hb; have h3 := hb5.size; have h4 := hb4.size; omega)
                have HDn := (hd6.below hb7).frame kw (fun b hb e => by have h1 := Hf6.out b (.inr hb); have h2 := hd6.on.1 b hb; have h3 := hb5.size; have h4 := hb4.size; omega)
                have hEr := rnd_on HO5 HN HDn hel hou
                have hfp : ∀ b, fpR fp5 An nn Ad nd _ _ _ _ (.slice A5 n5 c5) b → wo.heap.size ≤ b ∧ b ≠ g := fun b hb => by
                  have h4 := hb4.size
                  have h5 := hb5.size
                  rcases hb with ((hb | hb) | hb | hb) | hb | hb
                  · have h1 := Hf5.out b hb; omega
                  · have h1 := (hO5.lt hb).1; omega
                  · have h1 := Hf6.out b (.inl hb); omega
                  · have h1 := Hf6.out b (.inr hb); omega
                  · exact hfe b hb
                  · exact hfo b hb
                obtain ⟨v', w', h41, hA⟩ := app_put_at infoRnd Tryz.underlying30 rfl (by decide) (by decide) 1 HG HOR hEr rfl (by simp [Value.oneCell']) (fun b hb e => by have h1 := st.hR.lt hb; have h2 := hfp b e; omega) (fun e => by have h1 := st.frS g e; omega) (fun e => (hfp g e).2 rfl) (fun e => by have h1 := st.hR.lt e; omega) (by have h1 := kw.size; omega) (by omega) (W1 := wr.alloc (.cells #[.slice A5 n5 c5, .bool false, .slice An nn cn, .slice Ad nd cd, _, _] 54)) below_allocN (Has.new _ _ _)
                have p2 := HG.cell 1
                have r0 := HD.cell 0
                have r1 := HD.cell 1
                have r2 := HD.cell 2
                have r3 := HD.cell 3
                have r4 := HD.cell 4
                have r5 := HD.cell 5
                obtain ⟨Arn, nrn, crn, rfl⟩ : ∃ Arn nrn crn, rn = .slice Arn nrn crn := let ⟨A, c, e⟩ := st.hR.slice; ⟨A, _, c, e⟩
                obtain ⟨Av, nv, cv, rfl⟩ : ∃ Av nv cv, v' = .slice Av nv cv := let ⟨A, c, e⟩ := hA.own.slice; ⟨A, _, c, e⟩
                have q1 := hA.hg.cell 1
                have f9 := hA.hg.free 1
                have q4 := hA.put.cell 0
                go_upto_region 26 with (at_builtin; refine list_app rfl rfl rfl rfl h41 ?_)
                clear p2 r0 r1 r2 r3 r4 r5 q1 f9
                obtain ⟨Avt, nvt, cvt, rfl⟩ : ∃ A n c, vt = .slice A n c := let ⟨A, c, e⟩ := st.hT.slice; ⟨A, _, c, e⟩
                clear g0 q4
                have hrnlt : ∀ b, (Value.slice Arn nrn crn).ownBlock = some b → S0 ≤ b ∧ b < wo.heap.size := fun b e => st.hR.lt e
                have HB2 : Below w1.heap.size w1 (w'.setCell ⟨g, 1, none⟩ (.slice Av nv cv)) := Frame'.below HBx hA.fr2 (fun b e => by rcases e with e | e; omega; have := hrnlt b e; omega) HBx.size
                have HOT2 := HOT.frame hA.fr2 (fun b hb e => by
                  rcases e with e | e
                  · have := st.ftS b hb; omega
                  · exact (st.y1 b e).1 hb) (fun b hb e => by
                  rcases e with e | e
                  · have := st.hT.lt hb; omega
                  · exact st.y3 b e hb)
                have hOn := ((hel.on.frame hA.fr2 (fun b hb e => by have h1 := hfe b hb; rcases e with e | e; omega; have := hrnlt b e; omega)).and (hA.own.on.and HOT2.on)).imp (R' := fun W => ROut W (some ⟨ge, 0, none⟩) 1 1 Av nv cv Avt nvt cvt ([x], rs ++ [rndS had lost [x] []], ts)) fun W hW => ⟨hW.1, hW.2.1, hW.2.2⟩
                have hRf := hR1.below HB2 hR1.lt
                have q0 := hA.put.cell 0
                have q1 := hA.put.cell 1
                have q2 := hA.put.cell 2
                have r0 := hRf.cell 0
                have r1 := hRf.cell 1
                have r2 := hRf.cell 2
                have f0 := hRf.free 0
                have f1 := hRf.free 1
                have f2 := hRf.free 2
                have hz1 := st.hb.size
                have hfin := hide (Hci.out.won (by rw [HHad.out]; exact hwn.out))
                have hbnd : Hid (∀ b, (fpS (some ⟨ge, 0, none⟩) 1 b ∨ ((fr b ∨ fpR fp5 An nn Ad nd (some ⟨ge, 0, none⟩) 1 none 0 (.slice A5 n5 c5) b) ∨ (Value.slice Av nv cv).ownBlock = some b) ∨ ft b ∨ (Value.slice Avt nvt cvt).ownBlock = some b) → w1.heap.size ≤ b) := by
                  rintro b (hb | (((hb | hb) | hb) | hb | hb))
                  · have := hfe b hb; omega
                  · have := st.frS b hb; omega
                  · have := hfp b hb; omega
                  · have := (hA.own.lt hb).1; omega
                  · have := st.ftS b hb; omega
                  · have := st.hT.lt hb; omega
                go_wp2
                have hfr : Frame' (fun b => b = V.heap.size) (w'.setCell ⟨g, 1, none⟩ (.slice Av nv cv)) ((((w'.setCell ⟨g, 1, none⟩ (.slice Av nv cv)).setCell ⟨V.heap.size, 0, none⟩ (.slice (some ⟨ge, 0, none⟩) 1 1)).setCell ⟨V.heap.size, 1, none⟩ (.slice Av nv cv)).setCell ⟨V.heap.size, 2, none⟩ (.slice Avt nvt cvt)) := ((Frame'.refl (fun b => b = V.heap.size) _).setCell (p := ⟨V.heap.size, 0, none⟩) (.inl rfl) _ |>.setCell (p := ⟨V.heap.size, 1, none⟩) (.inl rfl) _).setCell (p := ⟨V.heap.size, 2, none⟩) (.inl rfl) _
                refine retOut2 rfl rfl rfl (put3 hRf) rfl rfl ⟨_, _, _, Av, nv, cv, Avt, nvt, cvt, by rw [hE0.out]; rfl, ?_, below3 (Below_trans' hb01 hb01.size HB2) (by omega) _ _ _⟩
                have ho : runO C 1 l seats lot = ([x], rs ++ [rndS had lost [x] []], ts) := by rw [hro.out, Int.toNat_natCast, hfin.out, HHad.out, HLost.out]
                rw [ho]
                exact (hOn.frame hfr (fun b hb e => by have := hbnd.out b hb; omega)).get
  · have e1 : (mayS c k l 1 seats 1 lot != 0) = true := by simp [hE]
    have hro := hide (runO_bad hE)
    have q0 := hR1.cell 0
    have q1 := hR1.cell 1
    have q2 := hR1.cell 2
    have f0 := hR1.free 0
    have f1 := hR1.free 1
    have f2 := hR1.free 2
    go_wp2
    refine retOut2 rfl rfl rfl (put3 hR1) rfl rfl ⟨none, 0, 0, none, 0, 0, none, 0, 0, rfl, ?_, below3 hb01 (by omega) _ _ _⟩
    rw [hro.out]
    exact ROut.nil_ _
end Go.Proofs.YtcmoekkaakkpjaaGreat
