/-
  A round of the program's runoff.
-/
import Derived.Test.YthkkadmgcicedaaGreatW15c
import Derived.Test.YthkkadmgcicedaaGreatFlow
import Derived.Deep.CutRange
namespace Go.Proofs.YthkkadmgcicedaaGreat
open Go.RowKit Go.Proofs Go.Shelf
attribute [local go_sem] cell?_alt cell?_more cell?_alloc_some cell?_setCell_far frozen?_alloc_some frozen?_more
theorem find_only {p : Int → Bool} {l : List Int} {o : Int} (ho : o ∈ l) (hp : p o = true) (hu : ∀ c ∈ l, p c = true → c = o) : l.find? p = some o := by
  cases hf : l.find? p with
  | none => exact absurd hp (List.find?_eq_none.1 hf o ho)
  | some c => rw [hu c (List.mem_of_find?_eq_some hf) (List.find?_some hf)]
theorem win_single {left had : List Int} {o : Int} {r : List Int} (hb : bestS (getI had) left = o :: r) (h1 : left.length = 1) : winS left had = some o := by
  have ho := (mem_bestS.1 (show o ∈ bestS (getI had) left by rw [hb]; simp)).1
  obtain ⟨a, rfl⟩ := List.length_eq_one_iff.1 h1
  simp at ho
  subst ho
  simp [winS]
theorem win_major {left had : List Int} {o : Int} {r : List Int} {C : Nat} (hb : bestS (getI had) left = o :: r) (h0 : ∀ x ∈ had, 0 ≤ x) (hl : had.length = C) (hm : ∀ x ∈ left, 0 ≤ x ∧ x < C) (h : had.sum < 2 * getI had o) : winS left had = some o := by
  have ho := mem_bestS.1 (show o ∈ bestS (getI had) left by rw [hb]; simp)
  refine find_only ho.1 (by simp [h]) fun c hc hp => ?_
  by_cases h1 : left.length = 1
  · obtain ⟨a, rfl⟩ := List.length_eq_one_iff.1 h1
    have e := ho.1
    simp at e hc
    rw [e, hc]
  · simp [h1] at hp
    exact win_one h0 hl (hm c hc) (hm o ho.1) hp h
theorem win_none {left had : List Int} {o : Int} {r : List Int} (hb : bestS (getI had) left = o :: r) (h1 : left.length ≠ 1) (h : ¬ had.sum < 2 * getI had o) : winS left had = none := by
  have ho := mem_bestS.1 (show o ∈ bestS (getI had) left by rw [hb]; simp)
  refine List.find?_eq_none.2 fun c hc => ?_
  have := ho.2 c hc
  simp [h1]
  omega
theorem lot_len {lot : List Int} {C : Nat} (h : lotS lot C = true) : lot.length = C := by
  unfold lotS at h
  simp only [Bool.and_eq_true, decide_eq_true_eq] at h
  omega
theorem lot_in {lot : List Int} {C : Nat} (h : lotS lot C = true) {x : Int} (hx : x ∈ rangeI C) : x ∈ lot := by
  have e := lot_len h
  unfold lotS at h
  simp only [Bool.and_eq_true, decide_eq_true_eq] at h
  rw [← e] at hx
  exact (turned_perm.1 h.2).2.2.subset hx
theorem pairwise_rangeI (n : Nat) : (rangeI n).Pairwise (· ≤ ·) := by
  unfold rangeI
  rw [List.pairwise_map]
  exact (List.pairwise_lt_range).imp fun h => by omega
theorem lastS_mem {lot among : List Int} (h : among ≠ []) (hin : ∀ x ∈ among, x ∈ lot) : lastS lot among ∈ among := by
  unfold lastS
  cases hf : lot.reverse.find? (inL among) with
  | none =>
    obtain ⟨a, r, rfl⟩ := List.exists_cons_of_ne_nil h
    have := List.find?_eq_none.1 hf a (List.mem_reverse.2 (hin a (List.mem_cons_self ..)))
    exact absurd (inL_iff.2 (List.mem_cons_self ..)) this
  | some m => exact inL_iff.1 (List.find?_some hf)
theorem lit_ints {w : World} {g : Nat} {t : TypeId} {x : Int} (h : Has w g t #[.int .i64 x]) (hx : I64 x) : RInts w (some ⟨g, 0, none⟩) 1 1 [x] := by
  refine ⟨rfl, Nat.le_refl _, by omega, fun y hy => by simp at hy; subst hy; exact hx, fun _ => ⟨g, 0, rfl, fun i hi => ?_⟩⟩
  obtain rfl : i = 0 := by omega
  rw [h.cell]; rfl
theorem cell_frame {S : Nat → Prop} {w w' : World} (k : Frame' S w w') {a : Addr} {v : Value} (h : w.cell? a = some v) (hn : ¬ S a.block) : w'.cell? a = some v :=
  (World.cell?_of_block (k.block a.block (World.block_lt_of_cell? w _ h) hn)).trans h
theorem TellPost.later {w : World} {g B : Nat} {el rn vt vl : Value} {fp : Nat → Prop} {ts : List Row} {among : List Int} {x : Int} {e : Ending} {w' w'' : World} (h : TellPost w g B el rn vt vl fp ts among x e w') (hb : Below w'.heap.size w' w'') : TellPost w g B el rn vt vl fp ts among x e w'' := by
  obtain ⟨h1, vt', fp', h2, h3, h4, h5, h6⟩ := h
  exact ⟨h1, vt', fp', h2.below hb h2.lt, h3.below hb, h4, h5, h6.trans (Frame'.of_below hb)⟩
theorem TellPost.far {w8 w : World} {g g10 B : Nat} {el rn vt vl u : Value} {fp : Nat → Prop} {ts : List Row} {among : List Int} {x : Int} {e : Ending} {w' : World} (hb : Below w8.heap.size w8 w) (h : TellPost w g B el rn vt vl fp ts among x e w') (h10 : w8.heap.size ≤ g10) (h11 : g10 < w.heap.size) (hg : g < w8.heap.size) (hf : ∀ b, fp b → b < w8.heap.size) (hv : ∀ b, vt.ownBlock = some b → b < w8.heap.size) :
    TellPost w8 g B el rn vt vl fp ts among x e (w'.setCell ⟨g10, 0, none⟩ u) := by
  obtain ⟨h1, vt', fp', h2, h3, h4, h5, h6⟩ := TellPost.start hb h
  obtain ⟨_, vt1, fp1, k2, k3, k4, k5, k6⟩ := h
  have f : Frame' (fun b => b = g10) w' (w'.setCell ⟨g10, 0, none⟩ u) := Frame'.setCell (p := ⟨g10, 0, none⟩) (Frame'.refl (fun b => b = g10) w') (.inl rfl) _
  have f8 : Frame' (fun b => b = g ∨ vt.ownBlock = some b) w8 (w'.setCell ⟨g10, 0, none⟩ u) := h6.setCell (p := ⟨g10, 0, none⟩) (.inr h10) _
  refine ⟨h1, vt1, fp1, f.has k2 (fun e => by omega), k3.frame f (fun b hb' e => ?_) (fun b hb' e => ?_), fun b hb' => (k4 b hb').imp id fun h => Nat.le_trans hb.size h, k5.imp id fun ⟨b, e, h⟩ => ⟨b, e, Nat.le_trans hb.size h⟩, f8⟩
  · rcases k4 b hb' with h | h
    · have := hf b h; omega
    · omega
  · rcases k5 with h | ⟨b', e', h⟩
    · rw [h] at hb'; have := hv b hb'; omega
    · rw [e'] at hb'; cases hb'; omega
/-- Somebody is elected. -/
def Won (B h g : Nat) (At : Option Addr) (nt ct : Nat) (w0 w' : World) (x : Int) (rs : List Rnd) (ts : List Row) : Prop :=
  ∃ Ae ne ce Ar nr cr Av nv cv y1 y2 y3 y4, Has w' g 73 #[.slice Ae ne ce, .slice Ar nr cr, .slice Av nv cv, .slice At nt ct] ∧ (∃ fp : Nat → Prop, (∀ b, fp b → B ≤ b) ∧ On fp w' fun W => ROut W Ae ne ce Ar nr cr Av nv cv ([x], rs, ts)) ∧ Has w' h 71 #[.pointer (some ⟨g, 0, none⟩), y1, y2, y3, y4] ∧ Below B w0 w'
/-- What a round leaves. -/
def RoundPost (B S0 h g q C : Nat) (A : Option Addr) (n cp : Nat) (At : Option Addr) (nt ct : Nat) (lot : List Int) (w0 : World) (left : List Int) (rs : List Rnd) (ts : List Row) (l : List Row) (e : Ending) (w' : World) : Prop :=
  (∃ x, winS left (hadL (inL left) l C) = some x ∧ e = .returned (.bool true) ∧ Won B h g At nt ct w0 w' x (rs ++ [rndS (hadL (inL left) l C) (lostS (inL left) l) [x] []]) ts) ∨
  (winS left (hadL (inL left) l C) = none ∧ e = .returned (.bool false) ∧ ∃ rn vt Al nl cl fr ft, PSt B S0 h g q C A n cp At nt ct lot w0 w' (.slice none 0 0) rn vt Al nl cl (outS left (lastS lot (leastS (hadL (inL left) l C) left)))
    (rs ++ [rndS (hadL (inL left) l C) (lostS (inL left) l) [] [lastS lot (leastS (hadL (inL left) l C) left)]]) (tiedS ts (leastS (hadL (inL left) l C) left) (lastS lot (leastS (hadL (inL left) l C) left))) fr ft)
set_option maxRecDepth 100000 in
set_option maxHeartbeats 4000000 in
theorem round_any (B S0 h g q C : Nat) (A : Option Addr) (n cp : Nat) (At : Option Addr) (nt ct : Nat) (lot : List Int) (w0 w : World) (rn vt : Value) (Al : Option Addr) (nl cl : Nat) (left : List Int) (rs : List Rnd) (ts : List Row) (fr ft : Nat → Prop) (l : List Row)
    (st : PSt B S0 h g q C A n cp At nt ct lot w0 w (.slice none 0 0) rn vt Al nl cl left rs ts fr ft) (hrow : RRows w0 A n cp l) (hB : B = w0.heap.size) (hk : RankOK l C) (hsub : left.Sublist (rangeI C)) (hne : left ≠ []) (hlot : lotS lot C = true) (hrs : rs.length ≤ 100) (hts : ts.length ≤ 100) :
    Calls Tryz.prog 32 #[.pointer (some ⟨h, 0, none⟩)] w (RoundPost w0.heap.size S0 h g q C A n cp At nt ct lot w0 left rs ts l) := by
  subst hB
  have HK := hide hk
  have hmem := hide (fun x (hx : x ∈ left) => mem_rangeI.1 (hsub.subset hx))
  have hC10 := hk.c10
  have hlL := hide (st.hL.slice)
  have hnl : left.length = nl := by obtain ⟨A', c', e⟩ := st.hL.slice; cases e; rfl
  have hnl10 : nl ≤ 10 := by have := hsub.length_le; rw [length_rangeI] at this; omega
  have hnl0 : 0 < nl := by have := List.length_pos_iff.2 hne; omega
  have Hnl := hide hnl
  have Hne := hide hne
  have Hsub := hide hsub
  have hltc := hide (lot_len hlot)
  have Hlin := hide (fun x (hx : x ∈ left) => lot_in hlot (hsub.subset hx))
  have hRL : RInts w Al nl cl left := st.hL.ints (fun x hx => by have := hmem.out x hx; omega)
  clear hk hsub hlL
  have hb1 : Below w.heap.size w (w.alloc (.cells #[.pointer (some ⟨h, 0, none⟩)] 66)) := (Below.refl _ _).alloc (Nat.le_refl _) _
  have hX1 := Has.new w 66 #[.pointer (some ⟨h, 0, none⟩)]
  have hP1 := st.hP.below hb1 st.hP.lt
  generalize hW : World.alloc w _ = W1 at hb1 hX1 hP1
  have s0 := hX1.cell 0
  have c0 := hP1.cell 0
  have c1 := hP1.cell 1
  have c2 := hP1.cell 2
  have c3 := hP1.cell 3
  have c4 := hP1.cell 4
  have eg1 : ∀ args w, (callFunc 51 args).run Tryz.prog w = .ok (.enter 51 args) w := enters_of Tryz.func51 (by kernel_rfl) rfl
  have eg2 : ∀ args w, (callFunc 54 args).run Tryz.prog w = .ok (.enter 54 args) w := enters_of Tryz.func54 (by kernel_rfl) rfl
  have eg3 : ∀ args w, (callFunc 59 args).run Tryz.prog w = .ok (.enter 59 args) w := enters_of Tryz.func59 (by kernel_rfl) rfl
  have eg4 : ∀ args w, (callFunc 61 args).run Tryz.prog w = .ok (.enter 61 args) w := enters_of Tryz.func61 (by kernel_rfl) rfl
  have hb01 : Below w0.heap.size w0 W1 := Below_trans' st.hb st.hb.size hb1
  have hfi := firsts_at 51 eg1 (inL left) #[.pointer (some ⟨w.heap.size, 0, none⟩)] C A n cp l W1 (hrow.below hb01) HK.out (fun W hb x _ _ => by
    refine (round1_any x w.heap.size h g _ _ _ Al nl cl left W ((hX1.below hb hX1.lt).cell 0) (hP1.below hb hP1.lt) (hRL.below (Below_trans' hb1 hb1.size hb))).mono ?_
    rintro e w' ⟨rfl, rfl⟩
    exact ⟨rfl, Below.refl _ _⟩)
  clear hnl hne
  go_enter Tryz.func32, Tryz.ntmps32
  go_wp2_with fail
  try simp only [hW]
  clear hW
  refine hfi.mono ?_
  rintro e w2 ⟨v2, rfl, hO2, hb2⟩
  clear hfi s0 c0 c1 c2 c3 c4
  obtain ⟨A2, c2, rfl⟩ := hO2.slice
  have hR2 := hO2.ints (fun x hx => by have := HK.out.hads _ x hx; omega)
  have hlen2 := length_hadL (inL left) l C
  rw [hlen2] at hR2 hO2 ⊢
  have hb02 := Below_trans' hb1 hb1.size hb2
  have hb3 : Below w2.heap.size w2 (w2.alloc (.cells #[.slice A2 C c2] 25)) := (Below.refl _ _).alloc (Nat.le_refl _) _
  have hV3 := Has.new w2 25 #[.slice A2 C c2]
  have hR3 := hR2.below hb3
  have hb03 := Below_trans' hb02 hb02.size hb3
  have hX3 := (hX1.below hb2 hX1.lt).below hb3 (hX1.below hb2 hX1.lt).lt
  have hsum := hide (HK.out.sum (inL left))
  have hlost := hide (HK.out.lost (inL left))
  have hhads := hide (HK.out.hads (inL left))
  generalize hHad : hadL (inL left) l C = had at *
  generalize hLost : lostS (inL left) l = lost at *
  have HHad := hide hHad
  have HLost := hide hLost
  have Hlen2 := hide hlen2
  clear hHad hLost hlen2 hO2 hR2
  generalize hW : World.alloc w2 _ = W3 at hb3 hV3 hR3 hb03 hX3
  have s3 := hV3.cell 0
  go_wp2
  try simp only [hW]
  clear hW
  go_loop [5, 22] (fun all i => ∃ t : Nat, t ≤ C ∧ i = .int .i64 t ∧ all = .int .i64 ((had.take t).sum)) (fun all i => C - (intOf i).toNat)
  case atStart => exact ⟨0, Nat.zero_le _, rfl, rfl⟩
  case round =>
    obtain ⟨t, ht, rfl, rfl⟩ := hrel
    by_cases hlt : t < C
    · obtain ⟨b, off, v, rfl, hc, _, hat, _⟩ := hR3.step hlt
      have hsb := sum_take_bd (fun x hx => (hhads.out x hx).1) t
      have hvb := hhads.out v (List.mem_of_getElem? hat.out)
      have hs := hide hsum.out
      have hsn : Hid ((had.take (t + 1)).sum = (had.take t).sum + v) := by unfold Hid; rw [List.take_add_one, hat.out, List.sum_append]; simp
      have hsb2 := hide hsb
      have hbb : 0 ≤ (had.take t).sum ∧ (had.take t).sum ≤ 1000000 := ⟨hsb.1, by have := hsum.out; omega⟩
      clear hat hsb
      go_wp2
      go_round
      case rel => exact ⟨t + 1, by omega, by go_num, by rw [hsn.out]⟩
      case measure => simp [intOf] <;> omega
    · have e : Hid (had.take t = had) := List.take_of_length_le (by rw [Hlen2.out]; omega)
      rw [e.out]
      clear e
      have hb13 := Below_trans' hb2 hb2.size hb3
      have hP3 := hP1.below hb13 hP1.lt
      have hRL3 := hRL.below hb03
      have s0 := hX3.cell 0
      have q4 := hP3.cell 4
      have hbest := best_at 54 eg2 (getI had) #[.pointer (some ⟨w2.heap.size, 0, none⟩)] Al nl cl left W3 hRL3 (by omega) (fun W hb x hx => by
        have hx2 := hmem.out x hx
        obtain ⟨X, rfl⟩ : ∃ X : Nat, x = X := ⟨x.toNat, by omega⟩
        refine (round2_any X w2.heap.size A2 C c2 had W ((hV3.below hb hV3.lt).cell 0) (hR3.below hb) (by omega)).mono ?_
        rintro e w' ⟨rfl, rfl⟩
        exact ⟨rfl, Below.refl _ _⟩)
      go_wp2_with fail
      refine hbest.mono ?_
      rintro e w4 ⟨v4, rfl, hO4, hb4⟩
      clear hbest s0 q4 s3
      obtain ⟨o, r, hbo⟩ : ∃ o r, bestS (getI had) left = o :: r := by
        rcases h0 : bestS (getI had) left with _ | ⟨o, r⟩
        · exact absurd h0 (bestS_ne Hne.out)
        · exact ⟨o, r, rfl⟩
      rw [hbo] at hO4
      have Hbo := hide hbo
      have homem := hide ((mem_bestS.1 (show o ∈ bestS (getI had) left by rw [hbo]; simp)))
      have hob := hmem.out o homem.out.1
      obtain ⟨A4, c4, rfl⟩ := hO4.slice
      have hR4 := hO4.ints (fun x hx => by have h1 := hmem.out x ((bestS_sub (getI had) left).subset (by rw [Hbo.out]; exact hx)); omega)
      have h4pos : 0 < (o :: r).length := by simp
      obtain ⟨b4, off4, o', rfl, hc4, _, hat4, _⟩ := hR4.step h4pos
      obtain rfl : o = o' := by simpa using hat4.out
      simp only [Nat.add_zero] at hc4
      generalize hn4 : (o :: r).length = n4 at hO4 hR4 h4pos ⊢
      clear hbo hat4 hn4
      have hb04 := Below_trans' hb03 hb03.size hb4
      have hV4 := hV3.below hb4 hV3.lt
      have hR24 := hR3.below hb4
      have s3 := hV4.cell 0
      go_wp2_with fail
      refine (pwholes_any A2 C c2 had w4 hR24 (by omega) (fun x hx => by have := hhads.out x hx; omega)).mono ?_
      rintro e w5 ⟨v5, fp5, rfl, hO5, hf5, hb5⟩
      have Hf5 := hide hf5
      obtain ⟨A5, n5, c5, rfl⟩ : ∃ A n c, v5 = .slice A n c := let ⟨A, c, e⟩ := hO5.slice; ⟨A, _, c, e⟩
      clear hf5 s3
      go_wp2_with fail
      refine (pwhole_any lost w5 hlost.out.1 (by have := hlost.out.2; omega)).mono ?_
      rintro e w6 ⟨An, nn, cn, Ad, nd, cd, rfl, hn6, hd6, hb6, hf6⟩
      have Hf6 := hide hf6
      clear hf6
      have hb7 : Below w6.heap.size w6 (w6.alloc (.cells #[.slice A5 n5 c5, .bool false, .slice An nn cn, .slice Ad nd cd, .slice none 0 0, .slice none 0 0] 41)) := (Below.refl _ _).alloc (Nat.le_refl _) _
      have hD7 := Has.new w6 41 #[.slice A5 n5 c5, .bool false, .slice An nn cn, .slice Ad nd cd, .slice none 0 0, .slice none 0 0]
      go_upto_region 10 with fail
      generalize hW : World.alloc w6 _ = W7 at hb7 hD7 ⊢
      clear hW
      have hb47 := Below_trans' (Below_trans' hb5 hb5.size hb6) (Below_trans' hb5 hb5.size hb6).size hb7
      have hb07 := Below_trans' hb04 hb04.size hb47
      have hb02' : Below w.heap.size w W7 := Below_trans' hb1 hb1.size (Below_trans' hb13 hb13.size (Below_trans' hb4 hb4.size hb47))
      have hb37 := Below_trans' hb4 hb4.size hb47
      have hX7 := hX3.below hb37 hX3.lt
      have hP7 := hP3.below hb37 hP3.lt
      have hV7 := hV4.below hb47 hV4.lt
      have hR27 := hR24.below hb47
      have s0 := hX7.cell 0
      have q4 := hP7.cell 4
      have s3 := hV7.cell 0
      have hc47 := keep_cell hb47 hc4
      obtain ⟨O, rfl⟩ : ∃ O : Nat, o = O := ⟨o.toNat, by omega⟩
      obtain ⟨b2, off2, vo, rfl, hc2, _, hat2, _⟩ := hR27.step (show O < C by omega)
      have hgo := hide (getI_of hat2.out)
      have hvob := hhads.out vo (List.mem_of_getElem? hat2.out)
      clear hat2
      have f4 : (0 : Int) < (n4 : Int) := by omega
      by_cases h1 : nl = 1
      · have f1 : ((nl : Int) == 1) = true := by simp [h1]
        have Hw := hide (win_single (o := (O : Int)) (r := r) (had := had) Hbo.out (by rw [Hnl.out, h1]))
        clear h1
        refine wp_region_more (by kernel_rfl) (by kernel_rfl) ?_
        repeat (go_big_quiet_step (fail))
        refine wpQuiet_nil ?_
        rintro w8 ⟨qq, hw8⟩
        have hb8 := below_of_eq hw8
        clear hw8 qq s0 q4 s3 hc47 hc2
        have hb08 := Below_trans' hb07 hb07.size hb8
        have hX8 := hX7.below hb8 hX7.lt
        have hP8 := hP7.below hb8 hP7.lt
        have hG8 := st.hG.below (Below_trans' hb02' hb02'.size hb8) st.hG.lt
        have s0 := hX8.cell 0
        have q0 := hP8.cell 0
        have g0 := hG8.cell 0
        have k0 := hG8.free 0
        have hc48 := keep_cell (Below_trans' hb47 hb47.size hb8) hc4
        have hD8 := hD7.below hb8 hD7.lt
        have hz6 : w.heap.size < w6.heap.size := by have h1 := hX1.lt; have h2 := hb2.size; have h3 := hb3.size; have h4 := hb4.size; have h5 := hb5.size; have h6 := hb6.size; omega
        have hz4 : w.heap.size ≤ w4.heap.size := by have h1 := hX1.lt; have h2 := hb2.size; have h3 := hb3.size; have h4 := hb4.size; omega
        have hgS : g < S0 := st.dis.2.2.2.2.1
        have hSw := st.bS
        have hgr : ¬ w6.heap.size = g := by omega
        have hb4g : ¬ b4 = g := by
          obtain ⟨b, off, e, hb⟩ := hO4.new h4pos
          cases e
          have h1 := hX1.lt; have h2 := hb2.size; have h3 := hb3.size
          omega
        go_upto_region 11 with fail
        refine wp_region_flow [0, 1, 2, 3, 4, 5, 6] (fun w' => ∃ q, w' = Alt w8 [w.heap.size, h, b4] q) (by kernel_rfl) (by kernel_rfl) (altC_drew _ _) ?_
        simp only [pickOps, List.getElem?_cons_zero, List.getElem?_cons_succ]
        repeat (go_big_quiet_step (fail))
        refine wpQuiet_nil ?_
        refine flow_one 7 (by kernel_rfl) rfl ?_
        go_wp2
        have hlw : ∀ b ∈ [w.heap.size, h, b4], b < w8.heap.size := by
          intro b hb
          simp only [List.mem_cons, List.not_mem_nil, or_false] at hb
          rcases hb with rfl | rfl | rfl
          · exact hX8.lt
          · exact hP8.lt
          · exact World.block_lt_of_cell? _ _ hc48
        refine FlowPost.mk ⟨altC_below (((Below.refl _ _).alloc (Nat.le_refl _) _).drew) hlw, ?_⟩
        refine flow_rest [8, 9, 10, 11] (by kernel_rfl) ?_
        simp only [pickOps, List.getElem?_cons_zero, List.getElem?_cons_succ]
        go_upto_region 12 with fail
        have hG9 : Has (((w8.alloc (.cells #[.int .i64 (O : Int)] 3)).setCell ⟨g, 0, none⟩ (.slice (some ⟨w8.heap.size, 0, none⟩) 1 1)).drew) g 73 #[.slice (some ⟨w8.heap.size, 0, none⟩) 1 1, rn, vt, .slice At nt ct] := ((hG8.alloc (.cells #[.int .i64 (O : Int)] 3)).put 0 (.slice (some ⟨w8.heap.size, 0, none⟩) 1 1)).drew
        have k9 : Frame' (fun b => b = g) w8 (((w8.alloc (.cells #[.int .i64 (O : Int)] 3)).setCell ⟨g, 0, none⟩ (.slice (some ⟨w8.heap.size, 0, none⟩) 1 1)).drew) := (Frame'.setCell (p := ⟨g, 0, none⟩) ((Frame'.refl (fun b => b = g) w8).alloc (.cells #[.int .i64 (O : Int)] 3)) (.inl rfl) _).trans (Frame'.of_below (Below.refl _ _).drew)
        have hE9 : Has (((w8.alloc (.cells #[.int .i64 (O : Int)] 3)).setCell ⟨g, 0, none⟩ (.slice (some ⟨w8.heap.size, 0, none⟩) 1 1)).drew) w8.heap.size 3 #[.int .i64 (O : Int)] := ((Has.new w8 3 #[.int .i64 (O : Int)]).far (p := ⟨g, 0, none⟩) (Ne.symm (Nat.ne_of_lt hG8.lt)) _).drew
        generalize World.drew _ = W9 at hG9 k9 hE9 ⊢
        clear s0 q0 g0 k0 hlw
        have hc49 := cell_frame k9 hc48 hb4g
        have hD9 := k9.has hD8 hgr
        have d4 := hD9.cell 4
        have f5 := hD9.free 4
        go_upto_region 16 with fail
        have hE10 : Has ((W9.alloc (.cells #[.int .i64 (O : Int)] 3)).setCell ⟨w6.heap.size, 4, none⟩ (.slice (some ⟨W9.heap.size, 0, none⟩) 1 1)) W9.heap.size 3 #[.int .i64 (O : Int)] := (Has.new W9 3 #[.int .i64 (O : Int)]).far (p := ⟨w6.heap.size, 4, none⟩) (Ne.symm (Nat.ne_of_lt hD9.lt)) _
        have k10 : Frame' (fun b => b = w6.heap.size) W9 ((W9.alloc (.cells #[.int .i64 (O : Int)] 3)).setCell ⟨w6.heap.size, 4, none⟩ (.slice (some ⟨W9.heap.size, 0, none⟩) 1 1)) := Frame'.setCell (p := ⟨w6.heap.size, 4, none⟩) ((Frame'.refl (fun b => b = w6.heap.size) W9).alloc (.cells #[.int .i64 (O : Int)] 3)) (.inl rfl) _
        have hD10 : Has ((W9.alloc (.cells #[.int .i64 (O : Int)] 3)).setCell ⟨w6.heap.size, 4, none⟩ (.slice (some ⟨W9.heap.size, 0, none⟩) 1 1)) w6.heap.size 41 #[.slice A5 n5 c5, .bool false, .slice An nn cn, .slice Ad nd cd, .slice (some ⟨W9.heap.size, 0, none⟩) 1 1, .slice none 0 0] := (hD9.alloc (.cells #[.int .i64 (O : Int)] 3)).put 4 (.slice (some ⟨W9.heap.size, 0, none⟩) 1 1)
        generalize World.setCell _ _ _ = WA at hE10 k10 hD10 ⊢
        have kk : Frame' (fun b => b = g ∨ b = w6.heap.size) w8 WA := (k9.mono fun _ _ h => .inl h).trans (k10.mono fun _ _ h => .inr h)
        have kw : Frame' (fun b => b < w.heap.size ∨ b = w6.heap.size) w8 WA := kk.mono fun b _ h => by omega
        have hEg := k10.has hE9 (fun e => by have h1 := hD8.lt; omega)
        have hfe : ∀ b, fpS (some ⟨W9.heap.size, 0, none⟩) 1 b → w.heap.size < b ∧ b ≠ g := fun b hb => by
          have e := fpS_some hb
          have h1 := hD9.lt
          have h2 := hX1.lt
          omega
        have hel := lit_ints hE10 (x := (O : Int)) ⟨by omega, by omega⟩
        have hou := RInts.nil_ WA
        have hgt8 : ∀ b, b < w8.heap.size → b ≠ g → b ≠ w6.heap.size → WA.heap[b]? = w8.heap[b]? := fun b h1 h2 h3 => kk.block b h1 (fun h => h.elim h2 h3)
        have HX := kk.has hX8 (fun h => h.elim (fun e => by omega) (fun e => by omega))
        have HP := kk.has hP8 (fun h => h.elim (fun e => by have := st.dis; omega) (fun e => by have := st.dis; omega))
        have HG := k10.has hG9 (fun e => hgr e.symm)
        have HOR := (st.hR.below (Below_trans' hb02' hb02'.size hb8)).frame kk (fun b hb h => by have h1 := st.frS b hb; have h2 := st.hR.fp_lt hb; omega) (fun b hb h => by have h1 := st.hR.lt hb; omega)
        have HOT := (st.hT.below (Below_trans' hb02' hb02'.size hb8)).frame kk (fun b hb h => by have h1 := st.ftS b hb; have h2 := st.hT.fp_lt hb; omega) (fun b hb h => by have h1 := st.hT.lt hb; omega)
        have HLOT := (((st.hlot.below (Below_trans' hb02' hb02'.size hb8))).on.frame kk (fun b hb h => by have h1 := st.lotb b hb; omega)).get
        have HB : Below w0.heap.size w0 WA := Frame'.below (Below_trans' st.hb st.hb.size (Below_trans' hb02' hb02'.size hb8)) kk (fun b h => by have h1 := st.dis; have h2 := st.hb.size; omega) (by have h1 := st.hb.size; have h2 := (Below_trans' hb02' hb02'.size hb8).size; omega)
        have hfo : ∀ b, fpS (none : Option Addr) 0 b → w.heap.size < b ∧ b ≠ g := fun b hb => (fpS_none 0 b hb).elim
        have hb68 := Below_trans' hb7 hb7.size hb8
        have HO5 := (hO5.below (Below_trans' hb6 hb6.size hb68)).frame kw (fun b hb h => by have h1 := Hf5.out b hb; have h2 := hO5.fp_lt hb; have h3 := hb6.size; omega) (fun b hb h => by have h1 := hO5.lt hb; have h3 := hb6.size; omega)
        have HN := (hn6.below hb68).frame kw (fun b hb h => by have h1 := Hf6.out b (.inl hb); have h2 := hn6.on.1 b hb; have h3 := hb5.size; omega)
        have HDn := (hd6.below hb68).frame kw (fun b hb h => by have h1 := Hf6.out b (.inr hb); have h2 := hd6.on.1 b hb; have h3 := hb5.size; omega)
        have hEr := rnd_on HO5 HN HDn hel hou
        have hfp : ∀ b, fpR fp5 An nn Ad nd _ _ _ _ (.slice A5 n5 c5) b → w.heap.size ≤ b ∧ b ≠ g := fun b hb => by
          rcases hb with ((hb | hb) | hb | hb) | hb | hb
          · have h1 := Hf5.out b hb; omega
          · have h1 := (hO5.lt hb).1; omega
          · have h1 := Hf6.out b (.inl hb); have h3 := hb5.size; omega
          · have h1 := Hf6.out b (.inr hb); have h3 := hb5.size; omega
          · have h1 := hfe b hb; omega
          · have h1 := hfo b hb; omega
        obtain ⟨v', w', h41, hA⟩ := app_put infoRnd Tryz.underlying28 rfl (by decide) (by decide) 1 HG HOR hEr rfl (by simp [Value.oneCell']) (fun b hb h => by have h1 := st.hR.lt hb; have h2 := hfp b h; omega) (fun h => by have h1 := st.frS g h; omega) (fun h => (hfp g h).2 rfl) (fun h => by have h1 := st.hR.lt h; omega) (by have h1 := kw.size; have h2 := (Below_trans' hb02' hb02'.size hb8).size; omega) (by omega)
        have p0 := HX.cell 0
        have p1 := HP.cell 0
        have p2 := HG.cell 1
        have r0 := hD10.cell 0
        have r1 := hD10.cell 1
        have r2 := hD10.cell 2
        have r3 := hD10.cell 3
        have r4 := hD10.cell 4
        have r5 := hD10.cell 5
        refine wp_region_flow [0, 1, 2, 3, 4, 5, 6, 7, 8, 9, 10, 11, 12] (fun w' => ∃ q, w' = Alt WA [w.heap.size, h, g, w6.heap.size] q) (by kernel_rfl) (by kernel_rfl) (altC_drew _ _) ?_
        simp only [pickOps, List.getElem?_cons_zero, List.getElem?_cons_succ]
        repeat (go_big_quiet_step (fail))
        refine wpQuiet_nil ?_
        clear p0 p1 p2 r0 r1 r2 r3 r4 r5
        have hDl : ∀ b ∈ [w.heap.size, h, g, w6.heap.size], b < WA.heap.size ∧ ¬ rn.ownBlock = some b := by
          intro b hb
          simp only [List.mem_cons, List.not_mem_nil, or_false] at hb
          rcases hb with rfl | rfl | rfl | rfl
          · exact ⟨HX.lt, fun e => by have h1 := st.hR.lt e; omega⟩
          · exact ⟨HP.lt, fun e => by have h1 := st.hR.lt e; have h2 := st.dis; omega⟩
          · exact ⟨HG.lt, fun e => by have h1 := st.hR.lt e; omega⟩
          · exact ⟨hD10.lt, fun e => by have h1 := st.hR.lt e; omega⟩
        refine flow_one 13 (by kernel_rfl) rfl ?_
        go_wp2
        refine FlowPost.mk ⟨altC_below (((Below.refl _ _).alloc (Nat.le_refl _) _).drew) (fun b hb => (hDl b hb).1), ?_⟩
        refine flow_one 14 (by kernel_rfl) rfl ?_
        obtain ⟨Arn, nrn, crn, rfl⟩ : ∃ Arn nrn crn, rn = .slice Arn nrn crn := let ⟨A, c, e⟩ := st.hR.slice; ⟨A, _, c, e⟩
        obtain ⟨Avt, nvt, cvt, rfl⟩ : ∃ Avt nvt cvt, vt = .slice Avt nvt cvt := let ⟨A, c, e⟩ := HOT.slice; ⟨A, _, c, e⟩
        go_wp2_with (at_builtin; refine list_app rfl rfl rfl rfl h41 ?_)
        refine FlowPost.mk ⟨altC_frame hA.fr1 hDl, ?_⟩
        refine flow_rest [15, 16, 17, 18] (by kernel_rfl) ?_
        simp only [pickOps, List.getElem?_cons_zero, List.getElem?_cons_succ]
        obtain ⟨Av, nv, cv, rfl⟩ : ∃ Av nv cv, v' = .slice Av nv cv := let ⟨A, c, e⟩ := hA.own.slice; ⟨A, _, c, e⟩
        have q1 := hA.hg.cell 1
        have f9 := hA.hg.free 1
        have HX2 := hA.fr2.has HX (fun h => h.elim (fun e => by omega) (fun e => (hDl _ (by simp)).2 e))
        have HP2 := hA.fr2.has HP (fun h' => h'.elim (fun e => by have := st.dis; omega) (fun e => (hDl h (by simp)).2 e))
        have q2 := HX2.cell 0
        have q3 := HP2.cell 0
        have q4 := hA.put.cell 0
        go_upto_region 17 with fail
        go_wp2
        have HB2 := Frame'.below HB hA.fr2 (fun b h' => by have h1 := st.dis; have h2 := st.hb.size; have h3 := st.bS; rcases h' with h' | h'; omega; have h4 := (st.hR.lt h').1; omega) (Nat.le_trans st.hb.size (Nat.le_trans (Below_trans' hb02' hb02'.size hb8).size kw.size))
        have HOT2 := HOT.frame hA.fr2 (fun b hb h' => h'.elim (fun e => (by have h1 := st.ftS b hb; omega)) (fun e => (st.x1 b e hb))) (fun b hb h' => h'.elim (fun e => (by have h1 := st.hT.lt hb; omega)) (fun e => (st.x3 b e hb)))
        go_ret
        refine .inl ⟨(O : Int), by rw [HHad.out]; exact Hw.out, rfl, ?_⟩
        rw [HHad.out, HLost.out]
        have hEl := (lit_ints hEg (x := (O : Int)) ⟨by omega, by omega⟩).on.frame hA.fr2 (fun b hb h' => by have e1 := fpS_some hb; have h3 := hD8.lt; rcases h' with e | e; omega; have h1 := st.hR.lt e; omega)
        refine ⟨_, _, _, Av, nv, cv, Avt, nvt, cvt, _, _, _, _, hA.put, ⟨_, ?_, (hEl.and (hA.own.on.and HOT2.on)).imp fun W hW => ⟨hW.1, hW.2.1, hW.2.2⟩⟩, HP2, HB2⟩
        have hwB : w0.heap.size ≤ S0 := by have := st.dis; omega
        rintro b (hb | (hb | hb) | hb | hb)
        · have e1 := fpS_some hb; have h3 := hD8.lt; omega
        · rcases hb with hb | hb
          · have := st.frS b hb; omega
          · have := (hfp b hb).1; omega
        · have := (hA.own.lt hb).1; omega
        · have := st.ftS b hb; omega
        · have := (HOT2.lt hb).1; omega
      · have f1 : ((nl : Int) == 1) = false := by simp; omega
        by_cases h2 : had.sum < 2 * vo
        · have Hw := hide (win_major (o := (O : Int)) (r := r) (had := had) Hbo.out (fun x hx => (hhads.out x hx).1) Hlen2.out (fun x hx => hmem.out x hx) (by rw [hgo.out]; exact h2))
          clear h1
          refine wp_region_more (by kernel_rfl) (by kernel_rfl) ?_
          repeat (go_big_quiet_step (fail))
          refine wpQuiet_nil ?_
          rintro w8 ⟨qq, hw8⟩
          have hb8 := below_of_eq hw8
          clear hw8 qq s0 q4 s3 hc47 hc2
          have hb08 := Below_trans' hb07 hb07.size hb8
          have hX8 := hX7.below hb8 hX7.lt
          have hP8 := hP7.below hb8 hP7.lt
          have hG8 := st.hG.below (Below_trans' hb02' hb02'.size hb8) st.hG.lt
          have s0 := hX8.cell 0
          have q0 := hP8.cell 0
          have g0 := hG8.cell 0
          have k0 := hG8.free 0
          have hc48 := keep_cell (Below_trans' hb47 hb47.size hb8) hc4
          have hD8 := hD7.below hb8 hD7.lt
          have hz6 : w.heap.size < w6.heap.size := by have h1 := hX1.lt; have h2 := hb2.size; have h3 := hb3.size; have h4 := hb4.size; have h5 := hb5.size; have h6 := hb6.size; omega
          have hz4 : w.heap.size ≤ w4.heap.size := by have h1 := hX1.lt; have h2 := hb2.size; have h3 := hb3.size; have h4 := hb4.size; omega
          have hgS : g < S0 := st.dis.2.2.2.2.1
          have hSw := st.bS
          have hgr : ¬ w6.heap.size = g := by omega
          have hb4g : ¬ b4 = g := by
            obtain ⟨b, off, e, hb⟩ := hO4.new h4pos
            cases e
            have h1 := hX1.lt; have h2 := hb2.size; have h3 := hb3.size
            omega
          go_upto_region 11 with fail
          refine wp_region_flow [0, 1, 2, 3, 4, 5, 6] (fun w' => ∃ q, w' = Alt w8 [w.heap.size, h, b4] q) (by kernel_rfl) (by kernel_rfl) (altC_drew _ _) ?_
          simp only [pickOps, List.getElem?_cons_zero, List.getElem?_cons_succ]
          repeat (go_big_quiet_step (fail))
          refine wpQuiet_nil ?_
          refine flow_one 7 (by kernel_rfl) rfl ?_
          go_wp2
          have hlw : ∀ b ∈ [w.heap.size, h, b4], b < w8.heap.size := by
            intro b hb
            simp only [List.mem_cons, List.not_mem_nil, or_false] at hb
            rcases hb with rfl | rfl | rfl
            · exact hX8.lt
            · exact hP8.lt
            · exact World.block_lt_of_cell? _ _ hc48
          refine FlowPost.mk ⟨altC_below (((Below.refl _ _).alloc (Nat.le_refl _) _).drew) hlw, ?_⟩
          refine flow_rest [8, 9, 10, 11] (by kernel_rfl) ?_
          simp only [pickOps, List.getElem?_cons_zero, List.getElem?_cons_succ]
          go_upto_region 12 with fail
          have hG9 : Has (((w8.alloc (.cells #[.int .i64 (O : Int)] 3)).setCell ⟨g, 0, none⟩ (.slice (some ⟨w8.heap.size, 0, none⟩) 1 1)).drew) g 73 #[.slice (some ⟨w8.heap.size, 0, none⟩) 1 1, rn, vt, .slice At nt ct] := ((hG8.alloc (.cells #[.int .i64 (O : Int)] 3)).put 0 (.slice (some ⟨w8.heap.size, 0, none⟩) 1 1)).drew
          have k9 : Frame' (fun b => b = g) w8 (((w8.alloc (.cells #[.int .i64 (O : Int)] 3)).setCell ⟨g, 0, none⟩ (.slice (some ⟨w8.heap.size, 0, none⟩) 1 1)).drew) := (Frame'.setCell (p := ⟨g, 0, none⟩) ((Frame'.refl (fun b => b = g) w8).alloc (.cells #[.int .i64 (O : Int)] 3)) (.inl rfl) _).trans (Frame'.of_below (Below.refl _ _).drew)
          have hE9 : Has (((w8.alloc (.cells #[.int .i64 (O : Int)] 3)).setCell ⟨g, 0, none⟩ (.slice (some ⟨w8.heap.size, 0, none⟩) 1 1)).drew) w8.heap.size 3 #[.int .i64 (O : Int)] := ((Has.new w8 3 #[.int .i64 (O : Int)]).far (p := ⟨g, 0, none⟩) (Ne.symm (Nat.ne_of_lt hG8.lt)) _).drew
          generalize World.drew _ = W9 at hG9 k9 hE9 ⊢
          clear s0 q0 g0 k0 hlw
          have hc49 := cell_frame k9 hc48 hb4g
          have hD9 := k9.has hD8 hgr
          have d4 := hD9.cell 4
          have f5 := hD9.free 4
          go_upto_region 16 with fail
          have hE10 : Has ((W9.alloc (.cells #[.int .i64 (O : Int)] 3)).setCell ⟨w6.heap.size, 4, none⟩ (.slice (some ⟨W9.heap.size, 0, none⟩) 1 1)) W9.heap.size 3 #[.int .i64 (O : Int)] := (Has.new W9 3 #[.int .i64 (O : Int)]).far (p := ⟨w6.heap.size, 4, none⟩) (Ne.symm (Nat.ne_of_lt hD9.lt)) _
          have k10 : Frame' (fun b => b = w6.heap.size) W9 ((W9.alloc (.cells #[.int .i64 (O : Int)] 3)).setCell ⟨w6.heap.size, 4, none⟩ (.slice (some ⟨W9.heap.size, 0, none⟩) 1 1)) := Frame'.setCell (p := ⟨w6.heap.size, 4, none⟩) ((Frame'.refl (fun b => b = w6.heap.size) W9).alloc (.cells #[.int .i64 (O : Int)] 3)) (.inl rfl) _
          have hD10 : Has ((W9.alloc (.cells #[.int .i64 (O : Int)] 3)).setCell ⟨w6.heap.size, 4, none⟩ (.slice (some ⟨W9.heap.size, 0, none⟩) 1 1)) w6.heap.size 41 #[.slice A5 n5 c5, .bool false, .slice An nn cn, .slice Ad nd cd, .slice (some ⟨W9.heap.size, 0, none⟩) 1 1, .slice none 0 0] := (hD9.alloc (.cells #[.int .i64 (O : Int)] 3)).put 4 (.slice (some ⟨W9.heap.size, 0, none⟩) 1 1)
          generalize World.setCell _ _ _ = WA at hE10 k10 hD10 ⊢
          have kk : Frame' (fun b => b = g ∨ b = w6.heap.size) w8 WA := (k9.mono fun _ _ h => .inl h).trans (k10.mono fun _ _ h => .inr h)
          have kw : Frame' (fun b => b < w.heap.size ∨ b = w6.heap.size) w8 WA := kk.mono fun b _ h => by omega
          have hEg := k10.has hE9 (fun e => by have h1 := hD8.lt; omega)
          have hfe : ∀ b, fpS (some ⟨W9.heap.size, 0, none⟩) 1 b → w.heap.size < b ∧ b ≠ g := fun b hb => by
            have e := fpS_some hb
            have h1 := hD9.lt
            have h2 := hX1.lt
            omega
          have hel := lit_ints hE10 (x := (O : Int)) ⟨by omega, by omega⟩
          have hou := RInts.nil_ WA
          have hgt8 : ∀ b, b < w8.heap.size → b ≠ g → b ≠ w6.heap.size → WA.heap[b]? = w8.heap[b]? := fun b h1 h2 h3 => kk.block b h1 (fun h => h.elim h2 h3)
          have HX := kk.has hX8 (fun h => h.elim (fun e => by omega) (fun e => by omega))
          have HP := kk.has hP8 (fun h => h.elim (fun e => by have := st.dis; omega) (fun e => by have := st.dis; omega))
          have HG := k10.has hG9 (fun e => hgr e.symm)
          have HOR := (st.hR.below (Below_trans' hb02' hb02'.size hb8)).frame kk (fun b hb h => by have h1 := st.frS b hb; have h2 := st.hR.fp_lt hb; omega) (fun b hb h => by have h1 := st.hR.lt hb; omega)
          have HOT := (st.hT.below (Below_trans' hb02' hb02'.size hb8)).frame kk (fun b hb h => by have h1 := st.ftS b hb; have h2 := st.hT.fp_lt hb; omega) (fun b hb h => by have h1 := st.hT.lt hb; omega)
          have HLOT := (((st.hlot.below (Below_trans' hb02' hb02'.size hb8))).on.frame kk (fun b hb h => by have h1 := st.lotb b hb; omega)).get
          have HB : Below w0.heap.size w0 WA := Frame'.below (Below_trans' st.hb st.hb.size (Below_trans' hb02' hb02'.size hb8)) kk (fun b h => by have h1 := st.dis; have h2 := st.hb.size; omega) (by have h1 := st.hb.size; have h2 := (Below_trans' hb02' hb02'.size hb8).size; omega)
          have hfo : ∀ b, fpS (none : Option Addr) 0 b → w.heap.size < b ∧ b ≠ g := fun b hb => (fpS_none 0 b hb).elim
          have hb68 := Below_trans' hb7 hb7.size hb8
          have HO5 := (hO5.below (Below_trans' hb6 hb6.size hb68)).frame kw (fun b hb h => by have h1 := Hf5.out b hb; have h2 := hO5.fp_lt hb; have h3 := hb6.size; omega) (fun b hb h => by have h1 := hO5.lt hb; have h3 := hb6.size; omega)
          have HN := (hn6.below hb68).frame kw (fun b hb h => by have h1 := Hf6.out b (.inl hb); have h2 := hn6.on.1 b hb; have h3 := hb5.size; omega)
          have HDn := (hd6.below hb68).frame kw (fun b hb h => by have h1 := Hf6.out b (.inr hb); have h2 := hd6.on.1 b hb; have h3 := hb5.size; omega)
          have hEr := rnd_on HO5 HN HDn hel hou
          have hfp : ∀ b, fpR fp5 An nn Ad nd _ _ _ _ (.slice A5 n5 c5) b → w.heap.size ≤ b ∧ b ≠ g := fun b hb => by
            rcases hb with ((hb | hb) | hb | hb) | hb | hb
            · have h1 := Hf5.out b hb; omega
            · have h1 := (hO5.lt hb).1; omega
            · have h1 := Hf6.out b (.inl hb); have h3 := hb5.size; omega
            · have h1 := Hf6.out b (.inr hb); have h3 := hb5.size; omega
            · have h1 := hfe b hb; omega
            · have h1 := hfo b hb; omega
          obtain ⟨v', w', h41, hA⟩ := app_put infoRnd Tryz.underlying28 rfl (by decide) (by decide) 1 HG HOR hEr rfl (by simp [Value.oneCell']) (fun b hb h => by have h1 := st.hR.lt hb; have h2 := hfp b h; omega) (fun h => by have h1 := st.frS g h; omega) (fun h => (hfp g h).2 rfl) (fun h => by have h1 := st.hR.lt h; omega) (by have h1 := kw.size; have h2 := (Below_trans' hb02' hb02'.size hb8).size; omega) (by omega)
          have p0 := HX.cell 0
          have p1 := HP.cell 0
          have p2 := HG.cell 1
          have r0 := hD10.cell 0
          have r1 := hD10.cell 1
          have r2 := hD10.cell 2
          have r3 := hD10.cell 3
          have r4 := hD10.cell 4
          have r5 := hD10.cell 5
          refine wp_region_flow [0, 1, 2, 3, 4, 5, 6, 7, 8, 9, 10, 11, 12] (fun w' => ∃ q, w' = Alt WA [w.heap.size, h, g, w6.heap.size] q) (by kernel_rfl) (by kernel_rfl) (altC_drew _ _) ?_
          simp only [pickOps, List.getElem?_cons_zero, List.getElem?_cons_succ]
          repeat (go_big_quiet_step (fail))
          refine wpQuiet_nil ?_
          clear p0 p1 p2 r0 r1 r2 r3 r4 r5
          have hDl : ∀ b ∈ [w.heap.size, h, g, w6.heap.size], b < WA.heap.size ∧ ¬ rn.ownBlock = some b := by
            intro b hb
            simp only [List.mem_cons, List.not_mem_nil, or_false] at hb
            rcases hb with rfl | rfl | rfl | rfl
            · exact ⟨HX.lt, fun e => by have h1 := st.hR.lt e; omega⟩
            · exact ⟨HP.lt, fun e => by have h1 := st.hR.lt e; have h2 := st.dis; omega⟩
            · exact ⟨HG.lt, fun e => by have h1 := st.hR.lt e; omega⟩
            · exact ⟨hD10.lt, fun e => by have h1 := st.hR.lt e; omega⟩
          refine flow_one 13 (by kernel_rfl) rfl ?_
          go_wp2
          refine FlowPost.mk ⟨altC_below (((Below.refl _ _).alloc (Nat.le_refl _) _).drew) (fun b hb => (hDl b hb).1), ?_⟩
          refine flow_one 14 (by kernel_rfl) rfl ?_
          obtain ⟨Arn, nrn, crn, rfl⟩ : ∃ Arn nrn crn, rn = .slice Arn nrn crn := let ⟨A, c, e⟩ := st.hR.slice; ⟨A, _, c, e⟩
          obtain ⟨Avt, nvt, cvt, rfl⟩ : ∃ Avt nvt cvt, vt = .slice Avt nvt cvt := let ⟨A, c, e⟩ := HOT.slice; ⟨A, _, c, e⟩
          go_wp2_with (at_builtin; refine list_app rfl rfl rfl rfl h41 ?_)
          refine FlowPost.mk ⟨altC_frame hA.fr1 hDl, ?_⟩
          refine flow_rest [15, 16, 17, 18] (by kernel_rfl) ?_
          simp only [pickOps, List.getElem?_cons_zero, List.getElem?_cons_succ]
          obtain ⟨Av, nv, cv, rfl⟩ : ∃ Av nv cv, v' = .slice Av nv cv := let ⟨A, c, e⟩ := hA.own.slice; ⟨A, _, c, e⟩
          have q1 := hA.hg.cell 1
          have f9 := hA.hg.free 1
          have HX2 := hA.fr2.has HX (fun h => h.elim (fun e => by omega) (fun e => (hDl _ (by simp)).2 e))
          have HP2 := hA.fr2.has HP (fun h' => h'.elim (fun e => by have := st.dis; omega) (fun e => (hDl h (by simp)).2 e))
          have q2 := HX2.cell 0
          have q3 := HP2.cell 0
          have q4 := hA.put.cell 0
          go_upto_region 17 with fail
          go_wp2
          have HB2 := Frame'.below HB hA.fr2 (fun b h' => by have h1 := st.dis; have h2 := st.hb.size; have h3 := st.bS; rcases h' with h' | h'; omega; have h4 := (st.hR.lt h').1; omega) (Nat.le_trans st.hb.size (Nat.le_trans (Below_trans' hb02' hb02'.size hb8).size kw.size))
          have HOT2 := HOT.frame hA.fr2 (fun b hb h' => h'.elim (fun e => (by have h1 := st.ftS b hb; omega)) (fun e => (st.x1 b e hb))) (fun b hb h' => h'.elim (fun e => (by have h1 := st.hT.lt hb; omega)) (fun e => (st.x3 b e hb)))
          go_ret
          refine .inl ⟨(O : Int), by rw [HHad.out]; exact Hw.out, rfl, ?_⟩
          rw [HHad.out, HLost.out]
          have hEl := (lit_ints hEg (x := (O : Int)) ⟨by omega, by omega⟩).on.frame hA.fr2 (fun b hb h' => by have e1 := fpS_some hb; have h3 := hD8.lt; rcases h' with e | e; omega; have h1 := st.hR.lt e; omega)
          refine ⟨_, _, _, Av, nv, cv, Avt, nvt, cvt, _, _, _, _, hA.put, ⟨_, ?_, (hEl.and (hA.own.on.and HOT2.on)).imp fun W hW => ⟨hW.1, hW.2.1, hW.2.2⟩⟩, HP2, HB2⟩
          have hwB : w0.heap.size ≤ S0 := by have := st.dis; omega
          rintro b (hb | (hb | hb) | hb | hb)
          · have e1 := fpS_some hb; have h3 := hD8.lt; omega
          · rcases hb with hb | hb
            · have := st.frS b hb; omega
            · have := (hfp b hb).1; omega
          · have := (hA.own.lt hb).1; omega
          · have := st.ftS b hb; omega
          · have := (HOT2.lt hb).1; omega
        · have Hw := hide (win_none (o := (O : Int)) (r := r) (had := had) Hbo.out (by rw [Hnl.out]; exact h1) (by rw [hgo.out]; exact h2))
          refine wp_region_more (by kernel_rfl) (by kernel_rfl) ?_
          repeat (go_big_quiet_step (fail))
          refine wpQuiet_nil ?_
          rintro w8 ⟨qq, hw8⟩
          have hb8 := below_of_eq hw8
          clear hw8 qq s0 q4 s3 hc47 hc2
          have hb08 := Below_trans' hb07 hb07.size hb8
          have hX8 := hX7.below hb8 hX7.lt
          have hP8 := hP7.below hb8 hP7.lt
          have hG8 := st.hG.below (Below_trans' hb02' hb02'.size hb8) st.hG.lt
          have s0 := hX8.cell 0
          have q0 := hP8.cell 0
          have g0 := hG8.cell 0
          have k0 := hG8.free 0
          have hc48 := keep_cell (Below_trans' hb47 hb47.size hb8) hc4
          have hD8 := hD7.below hb8 hD7.lt
          have hz6 : w.heap.size < w6.heap.size := by have h1 := hX1.lt; have h2 := hb2.size; have h3 := hb3.size; have h4 := hb4.size; have h5 := hb5.size; have h6 := hb6.size; omega
          have hz4 : w.heap.size ≤ w4.heap.size := by have h1 := hX1.lt; have h2 := hb2.size; have h3 := hb3.size; have h4 := hb4.size; omega
          have hgS : g < S0 := st.dis.2.2.2.2.1
          have hSw := st.bS
          have hgr : ¬ w6.heap.size = g := by omega
          have hb4g : ¬ b4 = g := by
            obtain ⟨b, off, e, hb⟩ := hO4.new h4pos
            cases e
            have h1 := hX1.lt; have h2 := hb2.size; have h3 := hb3.size
            omega
          have q4 := hP8.cell 4
          have hV8 := hV7.below hb8 hV7.lt
          have hR28 := hR27.below hb8
          have hRL8 := hRL.below (Below_trans' hb02' hb02'.size hb8)
          have hwbb := Below_trans' hb02' hb02'.size hb8
          have hle8 : ∀ W, Below w8.heap.size w8 W → Calls Tryz.prog 58 #[.slice Al nl cl, .func (.func 59) #[] #[.pointer (some ⟨w2.heap.size, 0, none⟩)]] W (IPost W (leastS had left)) := fun W hbW => by
            refine least_at 59 eg3 (getI had) (fun x => by have := getI_bd (φ := inL left) HK.out x; rw [HHad.out] at this; omega) #[.pointer (some ⟨w2.heap.size, 0, none⟩)] Al nl cl left W (hRL8.below hbW) (by omega) (fun W' hb' x hx => ?_)
            have hx2 := hmem.out x hx
            obtain ⟨X, rfl⟩ : ∃ X : Nat, x = X := ⟨x.toNat, by omega⟩
            have hbb := Below_trans' hbW hbW.size hb'
            refine (round3_any X w2.heap.size (some ⟨b2, off2, none⟩) C c2 had W' ((hV8.below hbb hV8.lt).cell 0) (hR28.below hbb) (by omega)).mono ?_
            rintro e w' ⟨rfl, rfl⟩
            exact ⟨rfl, Below.refl _ _⟩
          have hla8 : ∀ W, Below w8.heap.size w8 W → ∀ v, Own W w8.heap.size v (leastS had left) → Calls Tryz.prog 57 #[.pointer (some ⟨g, 0, none⟩), v] W (TellPost W g S0 (.slice none 0 0) rn vt (.slice At nt ct) ft ts (leastS had left) (lastS lot (leastS had left))) := fun W hbW v hO => by
            obtain ⟨Ale, cle, rfl⟩ := hO.slice
            have hbwW := Below_trans' hwbb hwbb.size hbW
            have hsl : (leastS had left).Sublist left := bestS_sub _ _
            have hln := hsl.length_le
            have hne2 : leastS had left ≠ [] := bestS_ne Hne.out
            have hp2 := List.length_pos_iff.2 hne2
            exact plast_any g S0 (.slice none 0 0) rn vt At nt ct lot ft ts Ale _ cle (leastS had left) W (st.hG.below hbwW st.hG.lt) (Nat.le_trans st.bS hbwW.size) (st.hT.below hbwW) (fun h => by have := st.ftS g h; omega) (fun h => by have := st.hT.lt h; omega) (st.hlot.below hbwW) (by have h1 := st.hlot.len; have h2 := hltc.out; omega)
              (hO.ints (fun x hx => by have := hmem.out x (hsl.subset hx); omega)) (by rw [Hnl.out] at hln; omega) hp2 (((pairwise_rangeI C).sublist Hsub.out).sublist hsl) (fun x hx => Hlin.out x (hsl.subset hx)) (by omega)
          go_upto_region 13 with fail
          go_cut [10] from 74 to 84 (fun v wx => ∃ g10, v = .pointer (some ⟨g10, 0, none⟩) ∧ Has wx g10 3 #[.int .i64 (lastS lot (leastS had left))] ∧ w8.heap.size ≤ g10 ∧ TellPost w8 g S0 (.slice none 0 0) rn vt (.slice At nt ct) ft ts (leastS had left) (lastS lot (leastS had left)) (.returned (.int .i64 (lastS lot (leastS had left)))) wx)
          case first =>
            refine wp_region_flow [0, 1, 2, 3, 4, 5, 6, 7, 8] (fun w' => ∃ q, w' = Alt w8 [w.heap.size, h] q) (by kernel_rfl) (by kernel_rfl) (altC_drew _ _) ?_
            simp only [pickOps, List.getElem?_cons_zero, List.getElem?_cons_succ]
            repeat (go_big_quiet_step (fail))
            refine wpQuiet_nil ?_
            have hlw : ∀ b ∈ [w.heap.size, h], b < w8.heap.size ∧ ¬ (b = g ∨ vt.ownBlock = some b) := by
              intro b hb
              have h1 := hX8.lt
              have h2 := hP8.lt
              have h3 := st.dis
              have h4 := st.bS
              simp only [List.mem_cons, List.not_mem_nil, or_false] at hb
              rcases hb with rfl | rfl
              · exact ⟨h1, fun e => by rcases e with e | e; omega; have h5 := st.hT.lt e; omega⟩
              · exact ⟨h2, fun e => by rcases e with e | e; omega; have h5 := st.hT.lt e; omega⟩
            have hf8 : ∀ b, ft b → b < w8.heap.size := fun b hb => by have h1 := st.hT.fp_lt hb; have h2 := hwbb.size; omega
            have hv8 : ∀ b, vt.ownBlock = some b → b < w8.heap.size := fun b hb => by have h1 := st.hT.lt hb; have h2 := hwbb.size; omega
            have hwz := hwbb.size
            refine flow_two 9 11 (by kernel_rfl) rfl rfl ?_ ?_
            · go_wp2_with fail
              refine (hle8 _ (Below.refl _ _).drew).mono ?_
              rintro e wl ⟨vl, rfl, hOl, hbl⟩
              have hbl8 : Below w8.heap.size w8 wl := Below_trans' (Below.refl _ _).drew (Nat.le_refl _) hbl
              obtain ⟨All, cll, rfl⟩ := hOl.slice
              have hOl' := hOl.mono (Nat.le_refl w8.heap.size)
              have hla := hla8 wl hbl8 _ hOl'
              have hba : Below wl.heap.size wl (wl.alloc (.cells #[.int .i64 0] 3)) := (Below.refl _ _).alloc (Nat.le_refl _) _
              have hlb := hla8 _ (Below_trans' hbl8 hbl8.size hba) _ (hOl'.below hba)
              have hNa := Has.new wl 3 #[.int .i64 0]
              have hba8 := Below_trans' hbl8 hbl8.size hba
              have hbs := hbl8.size
              generalize (leastS had left).length = nll at hla hlb ⊢
              clear hOl hOl' hle8 hla8
              go_wp2
              refine FlowPost.mk ⟨altC_below hbl8 (fun b hb => (hlw b hb).1), ?_⟩
              refine flow_two 10 11 (by kernel_rfl) rfl rfl ?_ ?_
              · go_wp2_with fail
                refine hla.mono ?_
                intro e wm hp
                have hT := TellPost.start hbl8 hp
                obtain ⟨rfl, hr⟩ := hp
                have hwm : w8.heap.size ≤ wm.heap.size := by obtain ⟨_, _, _, _, _, _, _, hF⟩ := hT; exact hF.size
                clear hla hlb hr
                go_wp2
                refine FlowPost.mk ⟨?_, ?_⟩
                · obtain ⟨_, _, _, _, _, _, _, hF⟩ := hT
                  exact altC_frame hF hlw
                refine flow_one 11 (by kernel_rfl) rfl ?_
                go_wp2
                refine FlowPost.mk ⟨?_, ?_⟩
                · obtain ⟨_, _, _, _, _, _, _, hF⟩ := hT
                  exact altC_frame (hF.alloc _) hlw
                refine flow_rest [12] (by kernel_rfl) ?_
                simp only [pickOps, List.getElem?_cons_zero, List.getElem?_cons_succ]
                go_wp2
                go_meet
                exact ⟨_, rfl, Has.new _ _ _, hwm, hT.later ((Below.refl _ _).alloc (Nat.le_refl _) _)⟩
              · generalize hWm : World.alloc wl _ = wn at hba hlb hNa hba8
                go_wp2
                try simp only [hWm]
                clear hWm hla
                refine FlowPost.mk ⟨altC_below hba8 (fun b hb => (hlw b hb).1), ?_⟩
                refine flow_one 10 (by kernel_rfl) rfl ?_
                go_wp2_with fail
                refine hlb.mono ?_
                intro e wm hp
                have hT := TellPost.start hba8 hp
                have hT2 := TellPost.far (g10 := wl.heap.size) (u := .int .i64 (lastS lot (leastS had left))) hba8 hp hbs hNa.lt (by omega) hf8 hv8
                have hNm : Has wm wl.heap.size 3 #[.int .i64 0] := by
                  obtain ⟨_, _, _, _, _, _, _, hF⟩ := hp
                  exact hF.has hNa (fun h' => by rcases h' with h' | h'; omega; have h9 := hv8 _ h'; omega)
                obtain ⟨rfl, hr⟩ := hp
                have n0 := hNm.cell 0
                have n1 := hNm.free 0
                clear hr hlb
                go_wp2
                refine FlowPost.mk ⟨?_, ?_⟩
                · obtain ⟨_, _, _, _, _, _, _, hF⟩ := hT
                  exact altC_frame hF hlw
                refine flow_rest [12] (by kernel_rfl) ?_
                simp only [pickOps, List.getElem?_cons_zero, List.getElem?_cons_succ]
                go_wp2
                go_meet
                exact ⟨_, rfl, hNm.put 0 _, hbs, hT2⟩
            · have hba : Below w8.heap.size w8 (w8.alloc (.cells #[.int .i64 0] 3)).drew := ((Below.refl _ _).alloc (Nat.le_refl _) _).drew
              have hNa : Has (w8.alloc (.cells #[.int .i64 0] 3)).drew w8.heap.size 3 #[.int .i64 0] := (Has.new w8 3 #[.int .i64 0]).drew
              go_wp2
              generalize World.drew _ = wn at hba hNa ⊢
              refine FlowPost.mk ⟨altC_below hba (fun b hb => (hlw b hb).1), ?_⟩
              refine flow_one 9 (by kernel_rfl) rfl ?_
              go_wp2_with fail
              refine (hle8 _ hba).mono ?_
              rintro e wl ⟨vl, rfl, hOl, hbl⟩
              have hbl8 : Below w8.heap.size w8 wl := Below_trans' hba hba.size hbl
              obtain ⟨All, cll, rfl⟩ := hOl.slice
              have hlb := hla8 _ hbl8 _ (hOl.mono hba.size)
              have hNl := hNa.below hbl hNa.lt
              have hbs := Nat.le_refl w8.heap.size
              generalize (leastS had left).length = nll at hlb ⊢
              clear hOl hle8 hla8
              go_wp2
              refine FlowPost.mk ⟨altC_below hbl8 (fun b hb => (hlw b hb).1), ?_⟩
              refine flow_one 10 (by kernel_rfl) rfl ?_
              go_wp2_with fail
              refine hlb.mono ?_
              intro e wm hp
              have hT := TellPost.start hbl8 hp
              have hT2 := TellPost.far (g10 := w8.heap.size) (u := .int .i64 (lastS lot (leastS had left))) hbl8 hp hbs hNl.lt (by omega) hf8 hv8
              have hNm : Has wm w8.heap.size 3 #[.int .i64 0] := by
                obtain ⟨_, _, _, _, _, _, _, hF⟩ := hp
                exact hF.has hNl (fun h' => by rcases h' with h' | h'; omega; have h9 := hv8 _ h'; omega)
              obtain ⟨rfl, hr⟩ := hp
              have n0 := hNm.cell 0
              have n1 := hNm.free 0
              clear hr hlb
              go_wp2
              refine FlowPost.mk ⟨?_, ?_⟩
              · obtain ⟨_, _, _, _, _, _, _, hF⟩ := hT
                exact altC_frame hF hlw
              refine flow_rest [12] (by kernel_rfl) ?_
              simp only [pickOps, List.getElem?_cons_zero, List.getElem?_cons_succ]
              go_wp2
              go_meet
              exact ⟨_, rfl, hNm.put 0 _, hbs, hT2⟩
          case rest =>
            clear hle8 hla8 s0 q0 g0 k0 q4 hc48
            obtain ⟨g10, rfl, hN, hg10, hT⟩ := hcut
            obtain ⟨_, vt', ft', hGc, hTc, hfc, hvc, hFc⟩ := hT
            have hwz := hwbb.size
            have hxm := hide (lastS_mem (lot := lot) (bestS_ne (f := fun c => - getI had c) Hne.out) (fun x hx => Hlin.out x ((bestS_sub _ _).subset hx)))
            have hxb : 0 ≤ lastS lot (leastS had left) ∧ lastS lot (leastS had left) < C := hmem.out _ ((bestS_sub _ _).subset hxm.out)
            generalize hx : lastS lot (leastS had left) = x at hN hTc hxb
            have Hx := hide hx
            clear hx
            have hnF : ∀ b, S0 ≤ b ∨ b ≠ g → b < S0 ∨ vt.ownBlock ≠ some b → b = g ∨ vt.ownBlock = some b → False := fun b h1 h2 h3 => by
              rcases h3 with h3 | h3
              · omega
              · have := st.hT.lt h3; rcases h2 with h2 | h2; omega; exact h2 h3
            have hXc := hFc.has hX8 (fun h' => by have := st.bS; rcases h' with h' | h'; omega; have := st.hT.lt h'; omega)
            have hPc := hFc.has hP8 (fun h' => by have := st.dis; rcases h' with h' | h'; omega; have := st.hT.lt h'; omega)
            have hDc := hFc.has hD8 (fun h' => by rcases h' with h' | h'; omega; have := st.hT.lt h'; omega)
            have hLc := (st.hL.below hwbb).frame hFc (fun b hb h' => by have h1 := st.dis; have h2 := st.hq; rw [hb] at h2; cases h2; rcases h' with h' | h'; omega; have := st.hT.lt h'; omega)
            have hq1 := st.hq
            have hdl := deleteFunc_at 61 eg4 (fun y => decide (y = x)) #[.pointer (some ⟨g10, 0, none⟩)] w0.heap.size Al nl cl left wc.drew (hLc.below (Below.refl _ _).drew) (fun y hy => by have := hmem.out y hy; omega) (fun W hW y => by
              refine (round4_any 0 g10 y x W ?_).mono ?_
              · rw [(hW.has (hN.drew) (fun e => by rw [hq1] at e; cases e; have := st.dis; have := st.bS; omega)).cell]; rfl
              · rintro e w' ⟨rfl, rfl⟩
                exact ⟨rfl, Below.refl _ _⟩)
            have s0 := hXc.cell 0
            have q4 := hPc.cell 4
            go_upto_region 14 with fail
            refine wp_region_flow [0, 1, 2, 3, 4, 5] (fun w' => ∃ q, w' = Alt wc [w.heap.size, h] q) (by kernel_rfl) (by kernel_rfl) (altC_drew _ _) ?_
            simp only [pickOps, List.getElem?_cons_zero, List.getElem?_cons_succ]
            repeat (go_big_quiet_step (fail))
            refine wpQuiet_nil ?_
            refine flow_one 6 (by kernel_rfl) rfl ?_
            go_wp2_with fail
            refine hdl.mono ?_
            rintro e wd ⟨Ad', nd', cd', rfl, hLd, hqd, hFd⟩
            clear hdl s0 q4
            have hFd : Frame' (fun b => b = q) wc wd := ((Frame'.of_below (Below.refl _ _).drew).trans hFd).mono fun b _ e => by rw [hq1] at e; cases e; rfl
            go_wp2
            refine FlowPost.mk ⟨altC_frame hFd (fun b hb => ?_), ?_⟩
            · have h1 := hXc.lt
              have h2 := hPc.lt
              have h3 := st.dis
              have h4 := st.bS
              simp only [List.mem_cons, List.not_mem_nil, or_false] at hb
              rcases hb with rfl | rfl <;> omega
            refine flow_rest [7, 8, 9] (by kernel_rfl) ?_
            simp only [pickOps, List.getElem?_cons_zero, List.getElem?_cons_succ]
            have hPd := hFd.has hPc (fun e => by have h3 := st.dis; omega)
            have q4 := hPd.cell 4
            have f4' := hPd.free 4
            go_upto_region 15 with fail
            have hPe := hPd.put 4 (.slice Ad' nd' cd')
            have kE : Frame' (fun b => b = h) wd (wd.setCell ⟨h, 4, none⟩ (.slice Ad' nd' cd')) := Frame'.setCell (p := ⟨h, 4, none⟩) (Frame'.refl (fun b => b = h) wd) (.inl rfl) _
            generalize World.setCell wd _ _ = we at hPe kE ⊢
            have kde : Frame' (fun b => b = q ∨ b = h) wc we := (hFd.mono fun _ _ h' => .inl h').trans (kE.mono fun _ _ h' => .inr h')
            have hst := st.dis
            have hsS := st.bS
            have hNe := kde.has hN (fun h' => by omega)
            have hDe := kde.has hDc (fun h' => by omega)
            have n0 := hNe.cell 0
            have nn5 := hDe.cell 5
            have nn6 := hDe.free 5
            clear q4 f4'
            go_upto_region 16 with fail
            have hO10 : Has ((we.alloc (.cells #[.int .i64 x] 3)).setCell ⟨w6.heap.size, 5, none⟩ (.slice (some ⟨we.heap.size, 0, none⟩) 1 1)) we.heap.size 3 #[.int .i64 x] := (Has.new we 3 #[.int .i64 x]).far (p := ⟨w6.heap.size, 5, none⟩) (Ne.symm (Nat.ne_of_lt hDe.lt)) _
            have k10 : Frame' (fun b => b = w6.heap.size) we ((we.alloc (.cells #[.int .i64 x] 3)).setCell ⟨w6.heap.size, 5, none⟩ (.slice (some ⟨we.heap.size, 0, none⟩) 1 1)) := Frame'.setCell (p := ⟨w6.heap.size, 5, none⟩) ((Frame'.refl (fun b => b = w6.heap.size) we).alloc (.cells #[.int .i64 x] 3)) (.inl rfl) _
            have hD10 : Has ((we.alloc (.cells #[.int .i64 x] 3)).setCell ⟨w6.heap.size, 5, none⟩ (.slice (some ⟨we.heap.size, 0, none⟩) 1 1)) w6.heap.size 41 #[.slice A5 n5 c5, .bool false, .slice An nn cn, .slice Ad nd cd, .slice none 0 0, .slice (some ⟨we.heap.size, 0, none⟩) 1 1] := (hDe.alloc (.cells #[.int .i64 x] 3)).put 5 (.slice (some ⟨we.heap.size, 0, none⟩) 1 1)
            generalize World.setCell _ _ _ = WA at hO10 k10 hD10 ⊢
            clear n0 nn5 nn6
            have ke : Frame' (fun b => b = q ∨ b = h ∨ b = w6.heap.size) wc WA := (kde.mono fun _ _ h' => by omega).trans (k10.mono fun _ _ h' => by omega)
            have hvtw : ∀ b, vt.ownBlock = some b → b < w.heap.size := fun b e => (st.hT.lt e).2
            have kw : Frame' (fun b => b < w.heap.size ∨ b = w6.heap.size) w8 WA := (hFc.mono fun b _ h' => by rcases h' with h' | h'; omega; have := hvtw b h'; omega).trans (ke.mono fun b _ h' => by omega)
            have hvc8 : ∀ b, vt'.ownBlock = some b → (vt.ownBlock = some b ∧ b < w.heap.size) ∨ (w8.heap.size ≤ b ∧ b < wc.heap.size) := fun b e => by
              rcases hvc with h' | ⟨b', h', h''⟩
              · rw [h'] at e; exact .inl ⟨e, hvtw b e⟩
              · have h3 := (hTc.lt e).2; rw [h'] at e; cases e; exact .inr ⟨h'', h3⟩
            have hwc8 := hFc.size
            have hwe := kde.size
            have hel := RInts.nil_ WA
            have hou := lit_ints hO10 (x := x) ⟨by omega, by omega⟩
            have hfe : ∀ b, fpS (none : Option Addr) 0 b → w.heap.size < b ∧ b ≠ g := fun b hb => (fpS_none 0 b hb).elim
            have hfo : ∀ b, fpS (some ⟨we.heap.size, 0, none⟩) 1 b → w.heap.size < b ∧ b ≠ g := fun b hb => by
              have e := fpS_some hb
              have h1 := hDe.lt
              omega
            have HX := ke.has hXc (fun h' => by have := hX1.lt; omega)
            have HP := k10.has hPe (fun h' => by omega)
            have HG := ke.has hGc (fun h' => by omega)
            have HOR := ((st.hR.below hwbb).frame hFc (fun b hb h' => by have h1 := st.frS b hb; rcases h' with h' | h'; omega; exact st.x2 b h' hb) (fun b hb h' => by have h1 := st.hR.lt hb; rcases h' with h' | h'; omega; exact st.x3 b hb h')).frame ke (fun b hb h' => by have h1 := st.frS b hb; have h2 := st.hR.fp_lt hb; omega) (fun b hb h' => by have h1 := st.hR.lt hb; omega)
            have hft' : ∀ b, ft' b → (ft b ∧ b < w.heap.size) ∨ (w8.heap.size ≤ b ∧ b < wc.heap.size) := fun b hb => (hfc b hb).imp (fun h' => ⟨h', st.hT.fp_lt h'⟩) fun h' => ⟨h', hTc.fp_lt hb⟩
            have hD8lt := hD8.lt
            have HOT := hTc.frame ke (fun b hb h' => by rcases hft' b hb with h1 | h1; have h2 := st.ftS b h1.1; omega; omega) (fun b hb h' => by have h1 := hTc.lt hb; rcases hvc8 b hb with h2 | h2 <;> omega)
            have HLOT := (((st.hlot.below hwbb).on.frame hFc (fun b hb h' => by have h1 := st.lotb b hb; rcases h' with h' | h'; omega; have := st.hT.lt h'; omega)).frame ke (fun b hb h' => by have h1 := st.lotb b hb; omega)).get
            have HL := (hLd.frame kE (fun b hb h' => by rw [hqd, hq1] at hb; cases hb; omega)).frame k10 (fun b hb h' => by rw [hqd, hq1] at hb; cases hb; omega)
            have HB : Below w0.heap.size w0 WA := by
              have hz0 := (Below_trans' st.hb st.hb.size hwbb).size
              refine Frame'.below (Frame'.below (Below_trans' st.hb st.hb.size hwbb) hFc (fun b h' => by rcases h' with h' | h'; omega; have := st.hT.lt h'; omega) hz0) ke (fun b h' => by omega) (by omega)
            have hb68 := Below_trans' hb7 hb7.size hb8
            have HO5 := (hO5.below (Below_trans' hb6 hb6.size hb68)).frame kw (fun b hb h => by have h1 := Hf5.out b hb; have h2 := hO5.fp_lt hb; have h3 := hb6.size; omega) (fun b hb h => by have h1 := hO5.lt hb; have h3 := hb6.size; omega)
            have HN := (hn6.below hb68).frame kw (fun b hb h => by have h1 := Hf6.out b (.inl hb); have h2 := hn6.on.1 b hb; have h3 := hb5.size; omega)
            have HDn := (hd6.below hb68).frame kw (fun b hb h => by have h1 := Hf6.out b (.inr hb); have h2 := hd6.on.1 b hb; have h3 := hb5.size; omega)
            have hEr := rnd_on HO5 HN HDn hel hou
            have hfp : ∀ b, fpR fp5 An nn Ad nd _ _ _ _ (.slice A5 n5 c5) b → w.heap.size ≤ b ∧ b ≠ g := fun b hb => by
              rcases hb with ((hb | hb) | hb | hb) | hb | hb
              · have h1 := Hf5.out b hb; omega
              · have h1 := (hO5.lt hb).1; omega
              · have h1 := Hf6.out b (.inl hb); have h3 := hb5.size; omega
              · have h1 := Hf6.out b (.inr hb); have h3 := hb5.size; omega
              · have h1 := hfe b hb; omega
              · have h1 := hfo b hb; omega
            obtain ⟨v', w', h41, hA⟩ := app_put infoRnd Tryz.underlying28 rfl (by decide) (by decide) 1 HG HOR hEr rfl (by simp [Value.oneCell']) (fun b hb h => by have h1 := st.hR.lt hb; have h2 := hfp b h; omega) (fun h => by have h1 := st.frS g h; omega) (fun h => (hfp g h).2 rfl) (fun h => by have h1 := st.hR.lt h; omega) (by have h1 := kw.size; have h2 := (Below_trans' hb02' hb02'.size hb8).size; omega) (by omega)
            have p0 := HX.cell 0
            have p1 := HP.cell 0
            have p2 := HG.cell 1
            have r0 := hD10.cell 0
            have r1 := hD10.cell 1
            have r2 := hD10.cell 2
            have r3 := hD10.cell 3
            have r4 := hD10.cell 4
            have r5 := hD10.cell 5
            refine wp_region_flow [0, 1, 2, 3, 4, 5, 6, 7, 8, 9, 10, 11, 12] (fun w' => ∃ q, w' = Alt WA [w.heap.size, h, g, w6.heap.size] q) (by kernel_rfl) (by kernel_rfl) (altC_drew _ _) ?_
            simp only [pickOps, List.getElem?_cons_zero, List.getElem?_cons_succ]
            repeat (go_big_quiet_step (fail))
            refine wpQuiet_nil ?_
            clear p0 p1 p2 r0 r1 r2 r3 r4 r5
            have hDl : ∀ b ∈ [w.heap.size, h, g, w6.heap.size], b < WA.heap.size ∧ ¬ rn.ownBlock = some b := by
              intro b hb
              simp only [List.mem_cons, List.not_mem_nil, or_false] at hb
              rcases hb with rfl | rfl | rfl | rfl
              · exact ⟨HX.lt, fun e => by have h1 := st.hR.lt e; omega⟩
              · exact ⟨HP.lt, fun e => by have h1 := st.hR.lt e; have h2 := st.dis; omega⟩
              · exact ⟨HG.lt, fun e => by have h1 := st.hR.lt e; omega⟩
              · exact ⟨hD10.lt, fun e => by have h1 := st.hR.lt e; omega⟩
            refine flow_one 13 (by kernel_rfl) rfl ?_
            go_wp2
            refine FlowPost.mk ⟨altC_below (((Below.refl _ _).alloc (Nat.le_refl _) _).drew) (fun b hb => (hDl b hb).1), ?_⟩
            refine flow_one 14 (by kernel_rfl) rfl ?_
            obtain ⟨Arn, nrn, crn, rfl⟩ : ∃ Arn nrn crn, rn = .slice Arn nrn crn := let ⟨A, c, e⟩ := st.hR.slice; ⟨A, _, c, e⟩
            obtain ⟨Avt, nvt, cvt, rfl⟩ : ∃ Avt nvt cvt, vt' = .slice Avt nvt cvt := let ⟨A, c, e⟩ := HOT.slice; ⟨A, _, c, e⟩
            go_wp2_with (at_builtin; refine list_app rfl rfl rfl rfl h41 ?_)
            refine FlowPost.mk ⟨altC_frame hA.fr1 hDl, ?_⟩
            refine flow_rest [15, 16, 17, 18] (by kernel_rfl) ?_
            simp only [pickOps, List.getElem?_cons_zero, List.getElem?_cons_succ]
            obtain ⟨Av, nv, cv, rfl⟩ : ∃ Av nv cv, v' = .slice Av nv cv := let ⟨A, c, e⟩ := hA.own.slice; ⟨A, _, c, e⟩
            have q1 := hA.hg.cell 1
            have f9 := hA.hg.free 1
            have HX2 := hA.fr2.has HX (fun h => h.elim (fun e => by omega) (fun e => (hDl _ (by simp)).2 e))
            have HP2 := hA.fr2.has HP (fun h' => h'.elim (fun e => by have := st.dis; omega) (fun e => (hDl h (by simp)).2 e))
            have q2 := HX2.cell 0
            have q3 := HP2.cell 0
            have q4 := hA.put.cell 0
            go_upto_region 17 with fail
            go_wp2
            have HB2 := Frame'.below HB hA.fr2 (fun b h' => by have h1 := st.dis; have h2 := st.hb.size; have h3 := st.bS; rcases h' with h' | h'; omega; have h4 := (st.hR.lt h').1; omega) (Nat.le_trans st.hb.size (Nat.le_trans (Below_trans' hb02' hb02'.size hb8).size kw.size))
            have HOT2 := HOT.frame hA.fr2 (fun b hb h' => h'.elim (fun e => (by rcases hft' b hb with h1 | h1; have h2 := st.ftS b h1.1; omega; omega)) (fun e => (by rcases hft' b hb with h1 | h1; exact st.x1 b e h1.1; have h2 := st.hR.lt e; omega))) (fun b hb h' => h'.elim (fun e => (by have h1 := hTc.lt hb; omega)) (fun e => (by rcases hvc8 b hb with h1 | h1; exact st.x3 b e h1.1; have h2 := st.hR.lt e; omega)))
            go_ret
            refine .inr ⟨by rw [HHad.out]; exact Hw.out, rfl, ?_⟩
            rw [HHad.out, HLost.out, Hx.out]
            have hrnlt : ∀ b, (Value.slice Arn nrn crn).ownBlock = some b → S0 ≤ b ∧ b < w.heap.size := fun b e => st.hR.lt e
            have hw5 : w5.heap.size ≤ w8.heap.size := Nat.le_trans hb6.size hb68.size
            have hw6 : w6.heap.size ≤ w8.heap.size := hb68.size
            have hWA : we.heap.size ≤ WA.heap.size := k10.size
            have hWel : we.heap.size < WA.heap.size := hO10.lt
            have hfp2 : ∀ b, fpR fp5 An nn Ad nd _ _ _ _ (.slice A5 n5 c5) b → w.heap.size ≤ b ∧ (b < w8.heap.size ∨ b = we.heap.size) := fun b hb => by
              refine ⟨(hfp b hb).1, ?_⟩
              rcases hb with ((hb | hb) | hb | hb) | hb | hb
              · have h1 := hO5.fp_lt hb; omega
              · have h1 := (hO5.lt hb).2; omega
              · have h1 := hn6.on.1 b hb; omega
              · have h1 := hd6.on.1 b hb; omega
              · exact (fpS_none 0 b hb).elim
              · exact .inr (fpS_some hb)
            refine ⟨.slice Av nv cv, .slice Avt nvt cvt, Ad', nd', cd', (fun b => fr b ∨ fpR fp5 An nn Ad nd none 0 (some ⟨we.heap.size, 0, none⟩) 1 (.slice A5 n5 c5) b), ft', ?_⟩
            exact {
              hb := HB2
              bS := by have := hA.fr2.size; omega
              hP := HP2
              hG := hA.put
              hL := HL.frame hA.fr2 (fun b hb h' => by rw [hqd, hq1] at hb; cases hb; rcases h' with h' | h'; omega; have := hrnlt _ h'; omega)
              hq := hqd.trans hq1
              hlot := (HLOT.on.frame hA.fr2 (fun b hb h' => by have h1 := st.lotb b hb; rcases h' with h' | h'; omega; have := hrnlt b h'; omega)).get
              lotb := st.lotb
              hR := hA.own
              hT := HOT2
              frS := fun b hb => by rcases hb with hb | hb; exact st.frS b hb; have := hfp2 b hb; omega
              ftS := fun b hb => by rcases hft' b hb with h1 | h1; exact st.ftS b h1.1; omega
              dis := st.dis
              x1 := fun b e hb => by
                rcases hA.blk with h1 | ⟨b', h1, h2⟩
                · rw [h1] at e
                  have h3 := hrnlt b e
                  rcases hft' b hb with h4 | h4
                  · exact st.x1 b e h4.1
                  · omega
                · rw [h1] at e; cases e
                  have := HOT.fp_lt hb
                  omega
              x2 := fun b e hb => by
                rcases hb with hb | hb
                · rcases hvc8 b e with h1 | h1
                  · exact st.x2 b h1.1 hb
                  · have := st.hR.fp_lt hb; omega
                · have h2 := hfp2 b hb
                  rcases hvc8 b e with h1 | h1 <;> omega
              x3 := fun b e e2 => by
                rcases hA.blk with h1 | ⟨b', h1, h2⟩
                · rw [h1] at e
                  have h3 := hrnlt b e
                  rcases hvc8 b e2 with h4 | h4
                  · exact st.x3 b e h4.1
                  · omega
                · rw [h1] at e; cases e
                  have := (HOT.lt e2).2
                  omega }
end Go.Proofs.YthkkadmgcicedaaGreat
