/-
  The law AssertOfMatches.
-/
import Derived.Test.YtkmcgpaoekphmaaW41u
import Derived.Test.YtkmcgpaoekphmaaW41p
namespace Go.Proofs.Ytkmcgpaoekphmaa
open Go.RowKit Go.Proofs Go.Shelf
attribute [local go_sem] cell?_more cell?_alloc_some cell?_setCell_far frozen?_alloc_some frozen?_more
set_option maxRecDepth 100000 in
set_option maxHeartbeats 4000000 in
theorem assertOf_any (name : ByteArray) (A : Option Addr) (n cp : Nat) (cs : List ByteArray) (seats : Int) (rule : Nat) (hr : rule ≤ 255) (Ae : Option Addr) (ne ce : Nat) (el : List Int) (Ar : Option Addr) (nr cr : Nat) (outs : List (List Int)) (vt : Option Addr) (nt ct : Nat) (w : World)
    (h : RStrs w A n cp cs) (hle : StrsLe name cs) (he : RInts w Ae ne ce el) (hro : RAgg ERo 6 w Ar nr cr outs) :
    Calls Try.prog 4 #[.agg #[.string name, .slice A n cp, .int .i64 seats, .int .u8 (rule : Int)], .agg #[.slice Ae ne ce, .slice Ar nr cr, .slice vt nt ct]] w fun e w' => e = .returned (.bool true) ∧ Below w.heap.size w w' := by
  have Hel := hide he.len
  have Hrl := hide hro.len
  have hb0 : Below w.heap.size w (w.alloc (.cells #[.string name, .slice A n cp, .int .i64 seats, .int .u8 (rule : Int)] 34)) := below_allocN
  have hP := Has.new w 34 #[.string name, .slice A n cp, .int .i64 seats, .int .u8 (rule : Int)]
  have hb1 : Below (w.alloc (.cells #[.string name, .slice A n cp, .int .i64 seats, .int .u8 (rule : Int)] 34)).heap.size (w.alloc (.cells #[.string name, .slice A n cp, .int .i64 seats, .int .u8 (rule : Int)] 34)) ((w.alloc (.cells #[.string name, .slice A n cp, .int .i64 seats, .int .u8 (rule : Int)] 34)).alloc (.cells #[.slice Ae ne ce, .slice Ar nr cr, .slice vt nt ct] 41)) := below_allocN
  have hQ := Has.new (w.alloc (.cells #[.string name, .slice A n cp, .int .i64 seats, .int .u8 (rule : Int)] 34)) 41 #[.slice Ae ne ce, .slice Ar nr cr, .slice vt nt ct]
  have hP1 := hP.below hb1 hP.lt
  have hb := Below_trans' hb0 hb0.size hb1
  clear hb0 hb1 hP
  rw [World.size_alloc] at hQ
  go_enter Try.func4, Try.ntmps4
  go_upto_region 1 with fail
  generalize World.alloc (World.alloc w _) _ = W0 at hb hP1 hQ ⊢
  have p0 := hP1.cell 0
  have p1 := hP1.cell 1
  have p2 := hP1.cell 2
  have p3 := hP1.cell 3
  go_wp2_with fail
  refine (great07_any name A n cp cs seats rule W0 (h.below hb)).mono ?_
  rintro e w1 ⟨⟨g7, rfl⟩, hb1⟩
  have hw1 := Below_trans' hb hb.size hb1
  have hP2 := hP1.below hb1 hP1.lt
  have hQ2 := hQ.below hb1 hQ.lt
  clear p0 p1 p2 p3
  have p0 := hP2.cell 0
  have p1 := hP2.cell 1
  have p2 := hP2.cell 2
  have p3 := hP2.cell 3
  have q0 := hQ2.cell 0
  have q1 := hQ2.cell 1
  have q2 := hQ2.cell 2
  cases g7 with
  | true =>
    go_wp2_with fail
    refine (examples41_any _).mono ?_
    rintro e w9 ⟨rfl, hb9⟩
    go_wp2
    go_ret
    exact ⟨rfl, Below_trans' hw1 (hw1).size hb9⟩
  | false =>
    have hG := great41_any 0 0 0 none 0 0 [] Ae ne ce el Ar nr cr outs vt nt ct w1 (RInts.nil_ _) (he.below hw1) (hro.below below_ro hw1)
    cases hg : great41 [] el outs with
    | true =>
      rw [hg] at hG
      clear hg
      go_wp2_with fail
      refine hG.mono ?_
      rintro e w2 ⟨rfl, hb2⟩
      have hbb := Below_trans' hw1 hw1.size hb2
      go_wp2_with fail
      refine (examples41_any _).mono ?_
      rintro e w9 ⟨rfl, hb9⟩
      go_wp2
      go_ret
      exact ⟨rfl, Below_trans' hbb (hbb).size hb9⟩
    | false =>
      rw [hg] at hG
      have hsz : ne ≤ 40 ∧ nr ≤ 40 := by
        unfold great41 at hg
        simp only [Bool.or_eq_false_iff, decide_eq_false_iff_not] at hg
        have h1 := Hel.out
        have h2 := Hrl.out
        omega
      clear hg
      go_upto_region 3 with (go_at_call 15; refine hG.mono ?_; rintro e w2 ⟨rfl, hb2⟩)
      have hw2 := Below_trans' hw1 hw1.size hb2
      have hP3 := hP2.below hb2 hP2.lt
      have hQ3 := hQ2.below hb2 hQ2.lt
      clear p0 p1 p2 p3 q0 q1 q2 hG
      have p0 := hP3.cell 0
      have p1 := hP3.cell 1
      have p2 := hP3.cell 2
      have p3 := hP3.cell 3
      have q0 := hQ3.cell 0
      have q1 := hQ3.cell 1
      have q2 := hQ3.cell 2
      go_wp2_with fail
      refine (of41_any name A n cp cs seats rule hr Ae ne ce el Ar nr cr outs vt nt ct w2 (h.below hw2) (he.below hw2) (hro.below below_ro hw2) hsz.1 hsz.2).mono ?_
      rintro e w3 ⟨⟨v, fp, rfl, ho⟩, hb3⟩
      have hw3 := Below_trans' hw2 hw2.size hb3
      have hP4 := hP3.below hb3 hP3.lt
      have hQ4 := hQ3.below hb3 hQ3.lt
      obtain ⟨Av, cv, rfl⟩ := ho.slice
      have hor := ho.reads
      clear p0 p1 p2 p3 q0 q1 q2 ho
      have p0 := hP4.cell 0
      have p1 := hP4.cell 1
      have p2 := hP4.cell 2
      have p3 := hP4.cell 3
      have q0 := hQ4.cell 0
      have q1 := hQ4.cell 1
      have q2 := hQ4.cell 2
      generalize hE : ofE name cs seats rule el outs = E at *
      generalize hAl : ofA name cs seats rule el outs = al at *
      have HE := hide hE
      have HAl := hide hAl
      clear hE hAl
      generalize hml : al.length = ml at *
      clear hml
      go_wp2_with fail
      refine (rof41_any name A n cp cs seats rule Ae ne ce el Ar nr cr outs vt nt ct w3 (h.below hw3) hle (he.below hw3) (hro.below below_ro hw3) hsz.2).mono ?_
      rintro e w4 ⟨⟨v4, fp4, rfl, ho4⟩, hb4⟩
      rw [HAl.out] at ho4
      rw [HE.out]
      have hw4 := Below_trans' hw3 hw3.size hb4
      obtain ⟨Av4, cv4, rfl⟩ := ho4.slice
      have hor4 := ho4.reads
      have hor3 := hor.below below_asn hb4
      clear p0 p1 p2 p3 q0 q1 q2 ho4 hor
      generalize hml : al.length = m4 at *
      clear hml
      go_wp2_with fail
      refine (all41_eq _ _ _ _ _ _ al w4 hor3 hor4).mono ?_
      rintro e w5 ⟨rfl, hb5⟩
      have hw5 := Below_trans' hw4 hw4.size hb5
      go_wp2_with fail
      refine (examples41_any _).mono ?_
      rintro e w9 ⟨rfl, hb9⟩
      go_wp2
      go_ret
      exact ⟨rfl, Below_trans' hw5 (hw5).size hb9⟩
end Go.Proofs.Ytkmcgpaoekphmaa
