/-
  The layer assert: Of.
-/
import Derived.Test.YtoeajgjpakilgaaGreatW41e
import Derived.Test.YtoeajgjpakilgaaGreatW41i
import Derived.Test.YtoeajgjpakilgaaGreatW41a
import Derived.Test.YtoeajgjpakilgaaGreatSpecAs
namespace Go.Proofs.YtoeajgjpakilgaaGreat
open Go.RowKit Go.Proofs Go.Shelf
attribute [local go_sem] cell?_more cell?_alloc_some cell?_setCell_far frozen?_alloc_some frozen?_more
/-- The error of Of. -/
def ofE (name : ByteArray) (cs : List ByteArray) (seats : Int) (rule : Nat) (el : List Int) (outs : List (List Int)) : Int :=
  if contestE name cs seats rule ≠ 0 then contestE name cs seats rule else if by41 rule = 0 then 6 else if (el.length : Int) ≠ seats ∨ electB el cs.length = false then 8
  else if by41 rule = 4 ∧ runoffL el outs cs.length = none then 8 else 0
/-- The assertions of an outcome. -/
def ofA (name : ByteArray) (cs : List ByteArray) (seats : Int) (rule : Nat) (el : List Int) (outs : List (List Int)) : List Asn :=
  if ofE name cs seats rule el outs ≠ 0 then [] else if by41 rule = 4 then (runoffL el outs cs.length).getD [] else plainL (by41 rule) el cs.length
theorem ofA_bad {name : ByteArray} {cs : List ByteArray} {seats : Int} {rule : Nat} {el : List Int} {outs : List (List Int)} {E : Int} (h : ofE name cs seats rule el outs = E) (hE : E ≠ 0) : ofA name cs seats rule el outs = [] := by unfold ofA; rw [if_pos (by rw [h]; exact hE)]
/-- What Of leaves. -/
def OfPostA (w : World) (E : Int) (l : List Asn) (e : Ending) (w' : World) : Prop := (∃ v fp, e = .returned (.tuple #[v, .int .i64 E]) ∧ OAgg EAsn 24 4 fp w' w.heap.size v l) ∧ Below w.heap.size w w'
theorem ofPost_bad {w w' : World} {E E' : Int} {l : List Asn} (hE : E = E') (hl : l = []) (hb : Below w.heap.size w w') : OfPostA w E l (.returned (.tuple #[.slice none 0 0, .int .i64 E'])) w' := by
  subst hE hl; exact ⟨⟨_, _, rfl, OAgg.nil_ _ _ _ _ _⟩, hb⟩
theorem contest_zero {name : ByteArray} {cs : List ByteArray} {seats : Int} {rule : Nat} (h : contestE name cs seats rule = 0) : cs.length ≤ 10 ∧ 1 ≤ cs.length ∧ 1 ≤ seats ∧ seats ≤ 10 := by
  unfold contestE at h
  split at h
  · cases h
  · split at h
    · cases h
    · rename_i h1 h2
      simp only [not_or] at h2
      have h3 := h2.2.2.2.2
      unfold fitsB at h3
      split at h3
      · simp at h3
      · omega

def kindsM : Array MapEntry := #[{ key := .int .u8 1, val := .int .u8 1, born := 0 }, { key := .int .u8 2, val := .int .u8 2, born := 1 }, { key := .int .u8 5, val := .int .u8 3, born := 2 }, { key := .int .u8 6, val := .int .u8 3, born := 3 },
  { key := .int .u8 7, val := .int .u8 3, born := 4 }, { key := .int .u8 8, val := .int .u8 3, born := 5 }, { key := .int .u8 9, val := .int .u8 4, born := 6 }]
theorem find_kind {rule : Nat} (h : by41 rule ≠ 0) : ∃ i, Instr.findNow (.int .u8) (.int .u8 (rule : Int)) kindsM.toList 0 = some (some (i, .int .u8 (by41 rule))) := by
  have : rule = 1 ∨ rule = 2 ∨ rule = 5 ∨ rule = 6 ∨ rule = 7 ∨ rule = 8 ∨ rule = 9 := by unfold by41 at h; by_cases h1 : rule = 1; omega; by_cases h2 : rule = 2; omega; by_cases h3 : rule = 5 ∨ rule = 6 ∨ rule = 7 ∨ rule = 8; omega; by_cases h4 : rule = 9; omega; rw [if_neg h1, if_neg h2, if_neg h3, if_neg h4] at h; exact absurd rfl h
  rcases this with rfl | rfl | rfl | rfl | rfl | rfl | rfl
  · exact ⟨0, rfl⟩
  · exact ⟨1, rfl⟩
  · exact ⟨2, rfl⟩
  · exact ⟨3, rfl⟩
  · exact ⟨4, rfl⟩
  · exact ⟨5, rfl⟩
  · exact ⟨6, rfl⟩
theorem find_none {rule : Nat} (h : by41 rule = 0) : Instr.findNow (.int .u8) (.int .u8 (rule : Int)) kindsM.toList 0 = some none := by
  have hn : rule ≠ 1 ∧ rule ≠ 2 ∧ rule ≠ 5 ∧ rule ≠ 6 ∧ rule ≠ 7 ∧ rule ≠ 8 ∧ rule ≠ 9 := by
    refine ⟨?_, ?_, ?_, ?_, ?_, ?_, ?_⟩ <;> (rintro rfl; revert h; decide)
  obtain ⟨h1, h2, h5, h6, h7, h8, h9⟩ := hn
  have e1 : ((rule : Int) == 1) = false := by simp; omega
  have e2 : ((rule : Int) == 2) = false := by simp; omega
  have e5 : ((rule : Int) == 5) = false := by simp; omega
  have e6 : ((rule : Int) == 6) = false := by simp; omega
  have e7 : ((rule : Int) == 7) = false := by simp; omega
  have e8 : ((rule : Int) == 8) = false := by simp; omega
  have e9 : ((rule : Int) == 9) = false := by simp; omega
  simp [kindsM, Instr.findNow, Instr.sameNow, e1, e2, e5, e6, e7, e8, e9]

set_option maxRecDepth 100000 in
set_option maxHeartbeats 4000000 in
theorem of41_any (name : ByteArray) (A : Option Addr) (n cp : Nat) (cs : List ByteArray) (seats : Int) (rule : Nat) (hr : rule ≤ 255) (Ae : Option Addr) (ne ce : Nat) (el : List Int) (Ar : Option Addr) (nr cr : Nat) (outs : List (List Int)) (vt : Option Addr) (nt ct : Nat) (w : World)
    (h : RStrs w A n cp cs) (he : RInts w Ae ne ce el) (hro : RAgg ERo 6 w Ar nr cr outs) (hne : ne ≤ 40) (hnr : nr ≤ 40) :
    Calls Tryz.prog 14 #[.agg #[.string name, .slice A n cp, .int .i64 seats, .int .u8 (rule : Int)], .agg #[.slice Ae ne ce, .slice Ar nr cr, .slice vt nt ct]] w (OfPostA w (ofE name cs seats rule el outs) (ofA name cs seats rule el outs)) := by
  have HT := hide (show Tryz.prog.underlying 79 = some (.map 5 5) by kernel_rfl)
  have HK := hide (show Tryz.prog.underlying 5 = some (.int .u8) by kernel_rfl)
  have hmm := @run_makeMap Tryz.prog
  have Hl := hide h.len
  have Hel := hide he.len
  have hb0 : Below w.heap.size w (w.alloc (.cells #[.string name, .slice A n cp, .int .i64 seats, .int .u8 (rule : Int)] 60)) := below_allocN
  have hP := Has.new w 60 #[.string name, .slice A n cp, .int .i64 seats, .int .u8 (rule : Int)]
  have hb1 : Below (w.alloc (.cells #[.string name, .slice A n cp, .int .i64 seats, .int .u8 (rule : Int)] 60)).heap.size (w.alloc (.cells #[.string name, .slice A n cp, .int .i64 seats, .int .u8 (rule : Int)] 60)) ((w.alloc (.cells #[.string name, .slice A n cp, .int .i64 seats, .int .u8 (rule : Int)] 60)).alloc (.cells #[.slice Ae ne ce, .slice Ar nr cr, .slice vt nt ct] 34)) := below_allocN
  have hQ := Has.new (w.alloc (.cells #[.string name, .slice A n cp, .int .i64 seats, .int .u8 (rule : Int)] 60)) 34 #[.slice Ae ne ce, .slice Ar nr cr, .slice vt nt ct]
  have hP1 := hP.below hb1 hP.lt
  have hb := Below_trans' hb0 hb0.size hb1
  clear hb0 hb1 hP
  rw [World.size_alloc] at hQ
  go_enter Tryz.func14, Tryz.ntmps14
  go_upto_region 1 with fail
  generalize World.alloc (World.alloc w _) _ = W0 at hb hP1 hQ ⊢
  have p0 := hP1.cell 0
  have p1 := hP1.cell 1
  have p2 := hP1.cell 2
  have p3 := hP1.cell 3
  have hC := ccheck07_any name A n cp cs seats rule hr W0 (h.below hb)
  by_cases hc0 : contestE name cs seats rule = 0
  · have Hc := hide hc0
    rw [hc0] at hC
    clear hc0
    go_upto_region 4 with (go_at_call 27; refine hC.mono ?_; rintro e w1 ⟨rfl, hbC⟩)
    have hP2 := hP1.below hbC hP1.lt
    have hQ2 := hQ.below hbC hQ.lt
    have hw1 := Below_trans' hb hb.size hbC
    clear hC p0 p1 p2 p3
    have hr0 : (w1.alloc (.map #[] 0)).heap[w1.heap.size]? = some (.map #[] 0) := World.alloc_heap_new w1 _
    have hB : Below w1.heap.size w1 (w1.alloc (.map #[] 0)) := below_allocN
    go_upto_region 5 with (first
      | (refine insU8 rfl _ _ _ 79 rfl 5 5 HT.out HK.out w1.heap.size _ _ _ _ rfl rfl rfl (by assumption) (by rfl) w1.heap.size (by assumption) (Nat.le_refl _) ?_; clear hr0 hB; intro w' hr0 hB))
    have hM : w'.heap[w1.heap.size]? = some (.map kindsM 7) := hr0
    clear hr0
    have hbw := Below_trans' hw1 hw1.size hB
    have hP3 := hP2.below hB hP2.lt
    have hQ3 := hQ2.below hB hQ2.lt
    have p3 := hP3.cell 3
    have hcz := contest_zero Hc.out
    rw [Hl.out] at hcz
    by_cases hby : by41 rule = 0
    · have hE : Hid (ofE name cs seats rule el outs = 6) := by unfold Hid ofE; rw [if_neg (by simp [Hc.out]), if_pos hby]
      have hA := hide (ofA_bad hE.out (by decide))
      have hf := hide (find_none hby)
      clear hby
      go_wp2_with (refine lookU8no rfl _ _ 79 rfl 5 5 HT.out HK.out (z := .int .u8 0) (by kernel_rfl) w1.heap.size _ _ _ rfl rfl hM hf.out ?_)
      refine bodyPost_ret (results_tmp2 rfl _ _ _) rfl ?_
      exact ofPost_bad hE.out hA.out hbw
    · obtain ⟨i, hf0⟩ := find_kind hby
      have hf := hide hf0
      have Hby := hide hby
      have h45 : by41 rule = 4 ∨ by41 rule ≠ 4 := by omega
      obtain ⟨k, hk⟩ : ∃ k, k = by41 rule := ⟨_, rfl⟩
      rw [← hk] at h45
      have hf2 : Hid (Instr.findNow (.int .u8) (.int .u8 (rule : Int)) kindsM.toList 0 = some (some (i, .int .u8 k))) := by unfold Hid; rw [hk]; exact hf0
      have Hk := hide hk
      clear hf0 hby hf hk
      have q0 := hQ3.cell 0
      have p2 := hP3.cell 2
      have p1 := hP3.cell 1
      go_upto_region 9 with (refine lookU8ok rfl _ _ 79 rfl 5 5 HT.out HK.out w1.heap.size _ _ _ i _ rfl rfl hM hf2.out ?_)
      go_wp2_with fail
      refine (values_any Ae ne ce w').mono ?_
      rintro e w2 ⟨rfl, hS⟩
      have hc2 : w2.cell? ⟨w'.heap.size, 0, none⟩ = some (.slice Ae ne ce) := by rw [← hS]; exact (Has.new w' 22 #[.slice Ae ne ce]).cell 0
      have hb2 : Below w'.heap.size w' w2 := by rw [← hS]; exact below_allocN
      have hbw2 := Below_trans' hbw hbw.size hb2
      clear hS p1 p2 p3 q0 hM
      go_wp2_with fail
      refine (sortedL_any w'.heap.size Ae ne ce el w2 hc2 (he.below hbw2) (by omega)).mono ?_
      rintro e w3 ⟨A1, c1, ys, rfl, hO, hpm, hst, hb3⟩
      rw [Hel.out] at hO ⊢
      have hbw3 := Below_trans' hbw2 hbw2.size hb3
      have hb13 := Below_trans' hb2 hb2.size hb3
      have hP4 := hP3.below hb13 hP3.lt
      have hQ4 := hQ3.below hb13 hQ3.lt
      have hR := hO.ints (fun x hx => he.bd (hpm.subset hx))
      have hri := hide (rise_sorted (C := n) hpm hst)
      clear hc2 hO hpm hst hP2 hQ2 hP3 hQ3
      have q0 := hQ4.cell 0
      have q1 := hQ4.cell 1
      have q2 := hQ4.cell 2
      have p2 := hP4.cell 2
      by_cases hse : (ne : Int) = seats
      · have b1 : ((ne : Int) != seats) = false := by simp [hse]
        cases hel : electB el n with
        | false =>
          have hE : Hid (ofE name cs seats rule el outs = 8) := by unfold Hid ofE; rw [if_neg (by simp [Hc.out]), if_neg Hby.out, Hl.out, if_pos (.inr hel)]
          have hA := hide (ofA_bad hE.out (by decide))
          have hr2 := rising_val A1 ne c1 ys n w3 hR (hri.out.trans hel)
          clear hel hse
          go_wp2_with (go_at_call 30; with_reducible refine hr2.mono ?_; rintro e w4 ⟨rfl, rfl⟩)
          refine bodyPost_ret (results_tmp2 rfl _ _ _) rfl ?_
          exact ofPost_bad hE.out hA.out hbw3
        | true =>
          have hEx : Hid (ofE name cs seats rule el outs = if by41 rule = 4 ∧ runoffL el outs n = none then 8 else 0) := by
            unfold Hid ofE; rw [if_neg (by simp [Hc.out]), if_neg Hby.out, Hl.out, Hel.out, if_neg (by rw [hel]; simp [hse])]
          have hr2 := rising_val A1 ne c1 ys n w3 hR (hri.out.trans hel)
          have hn1 : 1 ≤ ne := by omega
          have hn10 : ne ≤ 10 := by omega
          clear hel hse
          by_cases h4 : k = 4
          · have b4 : (k != 4) = false := by simp [h4]
            have hk4 : Hid (by41 rule = 4) := by unfold Hid; rw [← Hk.out]; exact h4
            clear h4 h45
            have hru := prunoff_any Ae ne ce el Ar nr cr outs vt nt ct n (by omega) (by omega) hnr w3 (he.below hbw3) (hro.below below_ro hbw3)
            unfold RunPost at hru
            cases hrl : runoffL el outs n with
            | none =>
              have hE : Hid (ofE name cs seats rule el outs = 8) := by unfold Hid; rw [hEx.out, if_pos ⟨hk4.out, hrl⟩]
              have hA := hide (ofA_bad hE.out (by decide))
              rw [hrl] at hru
              clear hrl
              go_wp2_with (go_at_call 30; with_reducible refine hr2.mono ?_; rintro e w4 ⟨rfl, rfl⟩)
              refine hru.mono ?_
              rintro e w4 ⟨⟨v, fp, rfl, _⟩, hb4⟩
              go_wp2
              refine bodyPost_ret (results_tmp2 rfl _ _ _) rfl ?_
              exact ofPost_bad hE.out hA.out (Below_trans' hbw3 hbw3.size hb4)
            | some l =>
              have hE : Hid (ofE name cs seats rule el outs = 0) := by unfold Hid; rw [hEx.out, if_neg (by rw [hrl]; simp)]
              have hA : Hid (ofA name cs seats rule el outs = l) := by unfold Hid ofA; rw [if_neg (by simp [hE.out]), if_pos hk4.out, Hl.out, hrl]; rfl
              rw [hrl] at hru
              clear hrl
              go_wp2_with (go_at_call 30; with_reducible refine hr2.mono ?_; rintro e w4 ⟨rfl, rfl⟩)
              refine hru.mono ?_
              rintro e w4 ⟨⟨v, fp, rfl, ho⟩, hb4⟩
              have Ho := hide ho
              clear ho
              go_wp2
              refine bodyPost_ret (results_tmp2 rfl _ _ _) rfl ?_
              exact ⟨⟨v, fp, by rw [hE.out]; rfl, by rw [hA.out]; exact Ho.out.mono hbw3.size⟩, Below_trans' hbw3 hbw3.size hb4⟩
          · have b4 : (k != 4) = true := by simp [h4]
            have hk4 : Hid (by41 rule ≠ 4) := by unfold Hid; rw [← Hk.out]; exact h4
            clear h4 h45
            have hE : Hid (ofE name cs seats rule el outs = 0) := by unfold Hid; rw [hEx.out, if_neg (fun h => hk4.out h.1)]
            have hA : Hid (ofA name cs seats rule el outs = plainL k el n) := by unfold Hid ofA; rw [if_neg (by simp [hE.out]), if_neg hk4.out, Hl.out, Hk.out]
            have hpl := plain_any k Ae ne ce el n hn10 (by omega) w3 (he.below hbw3)
            go_wp2_with (go_at_call 30; with_reducible refine hr2.mono ?_; rintro e w4 ⟨rfl, rfl⟩)
            refine hpl.mono ?_
            rintro e w4 ⟨v, rfl, ho, hb4⟩
            have Ho := hide ho
            clear ho
            go_wp2
            refine bodyPost_ret (results_tmp2 rfl _ _ _) rfl ?_
            exact ⟨⟨v, _, by rw [hE.out]; rfl, by rw [hA.out]; exact Ho.out.mono hbw3.size⟩, Below_trans' hbw3 hbw3.size hb4⟩
      · have b1 : ((ne : Int) != seats) = true := by simp [hse]
        have hE : Hid (ofE name cs seats rule el outs = 8) := by unfold Hid ofE; rw [if_neg (by simp [Hc.out]), if_neg Hby.out, Hel.out, if_pos (.inl hse)]
        have hA := hide (ofA_bad hE.out (by decide))
        clear hse
        go_wp2
        refine bodyPost_ret (results_tmp2 rfl _ _ _) rfl ?_
        exact ofPost_bad hE.out hA.out hbw3
  · have hE : Hid (ofE name cs seats rule el outs = contestE name cs seats rule) := by unfold Hid ofE; rw [if_pos hc0]
    have hA := hide (ofA_bad hE.out hc0)
    have b1 : (contestE name cs seats rule != 0) = true := by simp [hc0]
    generalize contestE name cs seats rule = E at *
    clear hc0
    go_wp2_with (go_at_call 27; refine hC.mono ?_; rintro e w1 ⟨rfl, hbC⟩)
    refine bodyPost_ret (results_tmp2 rfl _ _ _) rfl ?_
    exact ofPost_bad hE.out hA.out (Below_trans' hb hb.size hbC)
end Go.Proofs.YtoeajgjpakilgaaGreat
