/-
  Ballots added in any order, and in two parts: the same rows. No program is named here.
-/
import Derived.Test.YtleniljhacnikaaSpecB
import Derived.Test.YtleniljhacnikaaSpecF
import Derived.Test.YtleniljhacnikaaW9x
namespace Go.Proofs.Ytleniljhacnikaa

/-- One row for each ballot. -/
def onesR (bl : List Bal) : List Row := bl.map fun b => (b.2, 1)
theorem ones_cons (b : Bal) (r : List Bal) : onesR (b :: r) = (b.2, 1) :: onesR r := rfl
theorem ones_append (a b : List Bal) : onesR (a ++ b) = onesR a ++ onesR b := List.map_append ..
theorem wsum_append (φ : List Int → Bool) (a b : List Row) : wsum φ (a ++ b) = wsum φ a + wsum φ b := by simp [wsum]
theorem wsum_perm (φ : List Int → Bool) {a b : List Row} (h : a.Perm b) : wsum φ a = wsum φ b := by
  induction h with
  | nil => rfl
  | cons x _ ih => rw [wsum_cons, wsum_cons, ih]
  | swap x y l => rw [wsum_cons, wsum_cons, wsum_cons, wsum_cons]; omega
  | trans _ _ h1 h2 => exact h1.trans h2
theorem tot_ones (bl : List Bal) : totS (onesR bl) = bl.length := by
  induction bl with
  | nil => rfl
  | cons b r ih =>
    have e : totS (onesR (b :: r)) = 1 + totS (onesR r) := by simp [ones_cons, totS]
    rw [e, ih, List.length_cons]; omega
theorem pos_ones (bl : List Bal) : Pos (onesR bl) := by
  intro x hx
  obtain ⟨b, _, rfl⟩ := List.mem_map.1 hx
  exact Int.zero_lt_one

/-- Rows of n ballots, each valid. -/
structure Good (c k : Int) (L : List Row) (n : Nat) : Prop where
  asc : Asc L
  pos : Pos L
  ok : ∀ x ∈ L, bcheckS k x.1 c = 0
  len : L.length ≤ n
  tot : totS L = n
theorem Good.check {c k : Int} {L : List Row} {n : Nat} (h : Good c k L n) (hn : n ≤ 60) (hc : 1 ≤ c ∧ c ≤ 10) (hk : 1 ≤ k ∧ k ≤ 3) : checkS c k L = 0 := by
  have h1 := h.len
  have h2 := h.tot
  rw [check_three hc hk h.asc h.pos h.ok, if_neg (by omega), if_neg (by omega)]
theorem Good.put {c k : Int} {L : List Row} {n : Nat} (h : Good c k L n) {m : List Int} (hm : bcheckS k m c = 0) : Good c k (putS L m 1) (n + 1) where
  asc := asc_putS h.asc m 1
  pos := pos_putS h.pos Int.zero_lt_one
  ok := fun x hx => by
    rcases mem_putS hx with e | e
    · rw [e]; exact hm
    · exact h.ok x e
  len := by
    have h1 := length_sumRows L [(m, 1)]
    have h2 := h.len
    have e : sumRows L [(m, 1)] = putS L m 1 := rfl
    rw [e, List.length_singleton] at h1
    omega
  tot := by rw [totS_putS, h.tot]; omega
theorem Good.start (c k : Int) : Good c k [] 0 := ⟨asc_nil, pos_nil, fun x hx => (by cases hx), Nat.le_refl _, rfl⟩
theorem fold_ones {c k : Int} (hc : 1 ≤ c ∧ c ≤ 10) (hk : 1 ≤ k ∧ k ≤ 3) : ∀ (bl : List Bal) (L : List Row) (n : Nat), Good c k L n → (∀ b ∈ bl, b.1 = k ∧ bcheckS b.1 b.2 c = 0) → n + bl.length ≤ 60 →
    bl.foldl addS ⟨0, c, k, L⟩ = ⟨0, c, k, sumRows L (onesR bl)⟩ ∧ Good c k (sumRows L (onesR bl)) (n + bl.length)
  | [], _, _, h, _, _ => ⟨rfl, h⟩
  | (kb, mb) :: r, L, n, h, hb, hn => by
    obtain ⟨h1, h2⟩ := hb _ (List.mem_cons_self ..)
    simp only at h1 h2
    subst h1
    rw [List.length_cons] at hn
    have hg := h.put h2
    have hm : mayS c kb L kb mb 1 = 0 := by
      unfold mayS
      rw [if_pos (h.check (by omega) hc hk), if_pos ⟨rfl, h2⟩, if_neg (by omega)]
    have e : addS ⟨0, c, kb, L⟩ (kb, mb) = ⟨0, c, kb, putS L mb 1⟩ := by
      unfold addS addP wholeP
      simp only
      rw [if_pos trivial, if_pos hm, show cutS 1 = 1 from rfl, if_pos (hg.check (by omega) hc hk)]
    rw [List.foldl_cons, e]
    obtain ⟨i1, i2⟩ := fold_ones hc hk r _ _ hg (fun b hb' => hb b (List.mem_cons_of_mem _ hb')) (by omega)
    refine ⟨i1, ?_⟩
    rw [List.length_cons, show n + (r.length + 1) = n + 1 + r.length by omega]
    exact i2
theorem make_ones {c k : Int} (hc : 1 ≤ c ∧ c ≤ 10) (hk : 1 ≤ k ∧ k ≤ 3) {bl : List Bal} (hb : ∀ b ∈ bl, b.1 = k ∧ bcheckS b.1 b.2 c = 0) (hn : bl.length ≤ 60) :
    makeP c k bl = ⟨0, c, k, sumRows [] (onesR bl)⟩ ∧ Good c k (sumRows [] (onesR bl)) bl.length := by
  have hne : newErr c k = 0 := by
    by_cases e : newErr c k = 0
    · exact e
    · exact absurd (newErr_bad.1 e) (by omega)
  have := fold_ones hc hk bl [] 0 (Good.start c k) hb (by omega)
  rw [Nat.zero_add] at this
  unfold makeP
  rw [if_pos hne]
  exact this
theorem make_bad {c k : Int} (h : c < 1 ∨ 10 < c ∨ k < 1 ∨ 3 < k) (bl : List Bal) : makeP c k bl = badP 2 := by
  have h1 := newErr_bad.2 h
  unfold makeP
  rw [if_neg h1]
  exact foldl_stuck (by show (2 : Int) ≠ 0; omega) bl
theorem ones_ext {c k : Int} {L L' : List Row} {n n' : Nat} (h : Good c k L n) (h' : Good c k L' n') (hw : ∀ φ, wsum φ L = wsum φ L') : L = L' :=
  rows_ext h.asc h'.asc h.pos h'.pos fun m => by rw [cntR_wsum h.asc, cntR_wsum h'.asc, hw]

/-- The law's plain part. -/
theorem order_law {c k : Int} (hc : 1 ≤ c ∧ c ≤ 10) (hk : 1 ≤ k ∧ k ≤ 3) {bl t : List Bal} (hb : ∀ b ∈ bl, b.1 = k ∧ bcheckS b.1 b.2 c = 0) (hn : bl.length ≤ 60) (hp : t.Perm bl) (m : Nat) :
    ∃ L L1 L2, makeP c k bl = ⟨0, c, k, L⟩ ∧ makeP c k t = ⟨0, c, k, L⟩ ∧ makeP c k (bl.take m) = ⟨0, c, k, L1⟩ ∧ makeP c k (bl.drop m) = ⟨0, c, k, L2⟩ ∧ sumP c k L2 c k L1 = ⟨0, c, k, L⟩ ∧ checkS c k L = 0 ∧ totS L = bl.length := by
  obtain ⟨e1, g1⟩ := make_ones hc hk hb hn
  obtain ⟨e2, g2⟩ := make_ones (bl := t) hc hk (fun b h => hb b (hp.mem_iff.1 h)) (by rw [hp.length_eq]; exact hn)
  obtain ⟨e3, g3⟩ := make_ones (bl := bl.take m) hc hk (fun b h => hb b (List.mem_of_mem_take h)) (by rw [List.length_take]; omega)
  obtain ⟨e4, g4⟩ := make_ones (bl := bl.drop m) hc hk (fun b h => hb b (List.mem_of_mem_drop h)) (by rw [List.length_drop]; omega)
  have hck := g1.check hn hc hk
  have hc3 := g3.check (by rw [List.length_take]; omega) hc hk
  have hc4 := g4.check (by rw [List.length_drop]; omega) hc hk
  refine ⟨_, _, _, e1, ?_, e3, e4, ?_, hck, g1.tot⟩
  · rw [e2]
    congr 1
    exact ones_ext g2 g1 fun φ => by rw [wsum_sumRows, wsum_sumRows, wsum_perm φ (show (onesR t).Perm (onesR bl) from hp.map _)]
  · have hs : sumRows (sumRows [] (onesR (bl.drop m))) (sumRows [] (onesR (bl.take m))) = sumRows [] (onesR bl) :=
      rows_ext (asc_sumRows g4.asc) g1.asc (pos_sumRows g4.pos g3.pos) g1.pos fun x => by
        rw [cntR_wsum (asc_sumRows g4.asc), cntR_wsum g1.asc, wsum_sumRows, wsum_sumRows, wsum_sumRows, wsum_sumRows, wsum_nil]
        have e : onesR bl = onesR (bl.take m) ++ onesR (bl.drop m) := by rw [← ones_append, List.take_append_drop]
        rw [e, wsum_append]
        omega
    unfold sumP
    rw [if_pos (by unfold bothS; rw [if_pos hc4, if_pos hc3, if_pos ⟨rfl, rfl⟩]), hs]
    unfold wholeP
    rw [if_pos hck]
end Go.Proofs.Ytleniljhacnikaa
