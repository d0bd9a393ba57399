/-
  The law RunoffFirsts.
-/
import Derived.Test.YtolbceckbnifmaaGreatW15g
import Derived.Test.YtolbceckbnifmaaGreatW9e
namespace Go.Proofs.YtolbceckbnifmaaGreat
open Go.RowKit Go.Proofs Go.Shelf
attribute [local go_sem] cell?_more cell?_alloc_some cell?_setCell_far frozen?_alloc_some frozen?_more
/-! Fewer are left. -/
theorem wsum_le {φ ψ : List Int → Bool} : ∀ {l : List Row}, Pos l → (∀ r ∈ l, φ r.1 = true → ψ r.1 = true) → wsum φ l ≤ wsum ψ l
  | [], _, _ => by simp [wsum_nil]
  | a :: r, hp, h => by
    have ih := wsum_le (φ := φ) (ψ := ψ) (l := r) (fun x hx => hp x (List.mem_cons_of_mem _ hx)) (fun x hx => h x (List.mem_cons_of_mem _ hx))
    have ha := hp a (List.mem_cons_self ..)
    have h1 := h a (List.mem_cons_self ..)
    rw [wsum_cons, wsum_cons]
    by_cases e : φ a.1 = true
    · rw [if_pos e, if_pos (h1 e)]; omega
    · rw [if_neg e]
      split <;> omega
/-- ψ is φ without g. -/
def Without (φ ψ : Int → Bool) (g : Int) : Prop := ∀ x, ψ x = (φ x && !decide (x = g))
theorem Without.sub {φ ψ : Int → Bool} {g x : Int} (h : Without φ ψ g) (hx : ψ x = true) : φ x = true := by
  rw [h x, Bool.and_eq_true] at hx; exact hx.1
theorem find_none_sub {φ ψ : Int → Bool} (h : ∀ x, ψ x = true → φ x = true) {ms : List Int} (hn : ms.find? φ = none) : ms.find? ψ = none :=
  List.find?_eq_none.2 fun x hx e => List.find?_eq_none.1 hn x hx (h x e)
theorem find_some_sub {φ ψ : Int → Bool} (h : ∀ x, ψ x = true → φ x = true) : ∀ {ms : List Int} {x : Int}, ms.find? φ = some x → ψ x = true → ms.find? ψ = some x
  | [], x, hf, _ => by simp at hf
  | a :: r, x, hf, hx => by
    cases ha : φ a with
    | true =>
      rw [List.find?_cons, ha] at hf
      simp at hf; subst hf
      simp [hx]
    | false =>
      have hb : ψ a = false := by
        cases e : ψ a with
        | false => rfl
        | true => rw [h a e] at ha; cases ha
      rw [List.find?_cons, ha] at hf
      rw [List.find?_cons, hb]
      exact find_some_sub h hf hx
theorem lost_le {φ ψ : Int → Bool} {l : List Row} (hp : Pos l) (h : ∀ x, ψ x = true → φ x = true) : lostS φ l ≤ lostS ψ l :=
  wsum_le hp fun r _ e => by
    simp only [decide_eq_true_eq] at e ⊢
    exact find_none_sub h e
theorem had_none {φ : Int → Bool} {l : List Row} {x : Int} (h : φ x = false) : hadS φ l x = 0 :=
  wsum_zero fun r _ => by
    simp only [decide_eq_false_iff_not]
    intro e
    rw [List.find?_some e] at h
    cases h
theorem had_le {φ ψ : Int → Bool} {l : List Row} {x : Int} (hp : Pos l) (h : ∀ x, ψ x = true → φ x = true) (hx : ψ x = true) : hadS φ l x ≤ hadS ψ l x :=
  wsum_le hp fun r _ e => by
    simp only [decide_eq_true_eq] at e ⊢
    exact find_some_sub h e hx
theorem sum_take_succ' {xs : List Int} {t : Nat} {v : Int} (h : xs[t]? = some v) : (xs.take (t + 1)).sum = (xs.take t).sum + v := by rw [List.take_add_one, h, List.sum_append]; simp
theorem cntP_tot : ∀ l : List Row, cntP anyRow l = totS l
  | [] => rfl
  | a :: r => by
    have := cntP_tot r
    unfold cntP totS at *
    simp only [anyRow, if_pos, List.map_cons, List.sum_cons] at *
    try omega
theorem cntV_tot {c k : Int} {l : List Row} (h : checkS c k l = 0) : cntV c k l anyRow = totS l := by unfold cntV; rw [if_pos h, cntP_tot]

/-- The slice value v owns the truth values bs. -/
def OwnB (w : World) (base : Nat) (v : Value) (bs : List Bool) : Prop := w.ownsRow base 4 1 v bs.length (bs.map Value.bool)
theorem OwnB.made (w : World) (B n : Nat) (hB : B ≤ w.heap.size) (hn : n ≤ 1000000) : OwnB (w.alloc (.cells (madeCells #[.bool false] n) 4)) B (.slice (some ⟨w.heap.size, 0, none⟩) n n) (List.replicate n false) := by
  unfold OwnB
  have := World.ownsRow_lit (base := B) (e := 4) (size := 1) w (madeCells #[.bool false] n) n hB (by unfold maxLen; omega) (by rw [size_madeCells]; simp)
  rw [toList_madeCells_one] at this
  simpa using this
theorem OwnB.keep {w w' : World} {B n c g : Nat} {bs : List Bool} (h : OwnB w B (.slice (some ⟨g, 0, none⟩) n c) bs) (k : w'.heap[g]? = w.heap[g]?) : OwnB w' B (.slice (some ⟨g, 0, none⟩) n c) bs := by
  unfold OwnB at *
  obtain ⟨h1, h2⟩ := h
  refine ⟨h1, ?_⟩
  rcases h2 with h2 | ⟨g', cap, cur, e, hb, hg, r⟩
  · exact .inl h2
  · cases e
    exact .inr ⟨g, c, cur, rfl, hb, k.trans hg, r⟩
theorem OwnB.lt {w : World} {B n c g : Nat} {bs : List Bool} (h : OwnB w B (.slice (some ⟨g, 0, none⟩) n c) bs) : B ≤ g ∧ g < w.heap.size := World.ownsRow.lt h g rfl
theorem OwnB.below {w w' : World} {B n c g : Nat} {bs : List Bool} (h : OwnB w B (.slice (some ⟨g, 0, none⟩) n c) bs) (hb : Below w.heap.size w w') : OwnB w' B (.slice (some ⟨g, 0, none⟩) n c) bs := h.keep (hb.block g h.lt.2)
theorem OwnB.frame {S : Nat → Prop} {w w' : World} {B n c g : Nat} {bs : List Bool} (h : OwnB w B (.slice (some ⟨g, 0, none⟩) n c) bs) (k : Frame' S w w') (hg : ¬ S g) : OwnB w' B (.slice (some ⟨g, 0, none⟩) n c) bs := h.keep (k.block g h.lt.2 hg)
theorem info4 : (Tryz.prog.info? 4).map (fun i => (i.zero, i.size, i.bytes)) = some (some (.bool false), 1, 1) := by kernel_rfl
theorem OwnB.slice {w : World} {base : Nat} {v : Value} {bs : List Bool} (h : OwnB w base v bs) : ∃ A c, v = .slice A bs.length c := by
  rcases h.2 with ⟨e1, h0⟩ | ⟨g, cap, cur, e1, _⟩
  · exact ⟨none, 0, by rw [e1, h0]⟩
  · exact ⟨_, cap, e1⟩
theorem OwnB.bools {w : World} {base n c : Nat} {A : Option Addr} {bs : List Bool} (h : OwnB w base (.slice A n c) bs) : RBools w A n c bs := by
  rcases h.2 with ⟨e1, h0⟩ | ⟨g, cap, cur, e1, hb1, hg, hnc, hcm, hcs, ht⟩
  · cases e1
    exact ⟨h0, Nat.le_refl _, by omega, fun h => absurd h (by omega)⟩
  · cases e1
    refine ⟨rfl, hnc, hcm, fun hn => ⟨g, 0, rfl, fun i hi => ?_⟩⟩
    rw [Nat.zero_add, World.ownsRow.cellAt h i (by omega), List.getElem?_map, List.getElem?_eq_getElem hi]
    simp [List.getD, hi]
theorem run_appBools (w : World) (ty : TypeId) {base : Nat} {v : Value} {xs : List Bool} (hown : OwnB w base v xs) {A : Option Addr} {n c : Nat} {ys : List Bool} (hr : RBools w A n c ys) (hn : xs.length + n ≤ 1000000) (hbase : base ≤ w.heap.size) :
    ∃ v' w', (Builtin.append_ #[98, 98] ty #[v, .slice A n c]).run Tryz.prog w = .ok v' w' ∧ OwnB w' base v' (xs ++ ys) ∧ w.grownBy w' v.ownBlock ∧ (v'.ownBlock = v.ownBlock ∨ v'.ownBlock = some w.heap.size) := by
  obtain ⟨i0, hi, hz0, hz1, hz2⟩ := info_parts info4
  obtain ⟨v', w', h1, h2, h3, h4⟩ := run_appU w base 98 ty 4 i0 (.bool false) 1 1 Tryz.underlying98 hi hz0 hz1 hz2 rfl (by decide) v xs.length _ hown A n c (ys.map Value.bool) (by simp [hr.1]) (fun e => by
    by_cases h0 : 0 < n
    · obtain ⟨b, off, e', _⟩ := hr.2.2.2 h0; rw [e] at e'; cases e'
    · omega) (fun a e j u hj => by
    have hjn : j < n := by
      have := (List.getElem?_eq_some_iff.1 hj).1
      rw [List.length_map, hr.1] at this; exact this
    obtain ⟨b, off, e', hc⟩ := hr.2.2.2 (by omega)
    rw [e] at e'
    cases e'
    have hadd : (⟨b, off, none⟩ : Addr).add j = ⟨b, off + j, none⟩ := by unfold Addr.add; split <;> simp_all
    rw [hadd, hc j hjn]
    rw [List.getElem?_map] at hj
    have hjl : j < ys.length := by rw [hr.1]; exact hjn
    rw [List.getElem?_eq_getElem hjl] at hj
    simp at hj
    simp [List.getD, hjl, hj]) (fun u hu => by obtain ⟨y, _, rfl⟩ := List.mem_map.1 hu; rfl) (by unfold maxLen; omega) (by omega) hbase
  exact ⟨v', w', h1, by unfold OwnB; simpa [hr.1] using h2, h3, h4⟩
theorem OwnB.lit0 (w : World) (B : Nat) (hB : B ≤ w.heap.size) : OwnB (w.alloc (.cells #[] 4)) B (.slice (some ⟨w.heap.size, 0, none⟩) 0 0) [] := by
  have := World.ownsRow_lit (base := B) (e := 4) (size := 1) w #[] 0 hB (by unfold maxLen; omega) (by simp)
  unfold OwnB
  simpa using this
theorem OwnB.set {w : World} {B n c g : Nat} {bs : List Bool} (h : OwnB w B (.slice (some ⟨g, 0, none⟩) n c) bs) (hl : bs.length = n) (j : Nat) (v : Bool) : OwnB (w.setCell ⟨g, j, none⟩ (.bool v)) B (.slice (some ⟨g, 0, none⟩) n c) (bs.set j v) := by
  have hown : w.ownsRow B 4 1 (.slice (some ⟨g, 0, none⟩) n c) n (bs.map Value.bool) := by have := h; unfold OwnB at this; rwa [hl] at this
  unfold OwnB
  rw [List.length_set, hl, List.map_set]
  exact (hown.stored j _).1
theorem OwnB.at {w : World} {B n c g j : Nat} {bs : List Bool} (h : OwnB w B (.slice (some ⟨g, 0, none⟩) n c) bs) (hl : bs.length = n) (hj : j < n) : (∃ u, w.cell? ⟨g, j, none⟩ = some u) ∧ w.frozen? ⟨g, j, none⟩ = false ∧ B ≤ g := by
  have hown : w.ownsRow B 4 1 (.slice (some ⟨g, 0, none⟩) n c) n (bs.map Value.bool) := by have := h; unfold OwnB at this; rwa [hl] at this
  refine ⟨⟨.bool bs[j], ?_⟩, hown.frozenAt j, (World.ownsRow.lt h g rfl).1⟩
  rw [hown.cellAt j (by omega), List.getElem?_map, List.getElem?_eq_getElem (by omega)]; rfl
theorem without_set {bs : List Bool} {G : Nat} (hG : G < bs.length) : Without (isS bs) (isS (bs.set G false)) (G : Int) := fun x => by
  by_cases hx : 0 ≤ x
  · obtain ⟨X, rfl⟩ : ∃ X : Nat, x = X := ⟨x.toNat, by omega⟩
    rw [isS_getD, isS_getD]
    by_cases e : X = G
    · subst e; simp [List.getD, hG]
    · have : ¬ ((X : Int) = (G : Int)) := by omega
      simp [List.getD, this, Ne.symm e]
  · have : ∀ bs : List Bool, isS bs x = false := fun bs => by
      cases hb : isS bs x with
      | false => rfl
      | true => unfold isS at hb; rw [Bool.and_eq_true] at hb; have := (inR_iff.1 hb.1).1; omega
    rw [this, this]; rfl
theorem without_out {bs : List Bool} {g : Int} (h : ¬ (0 ≤ g ∧ g < bs.length)) : Without (isS bs) (isS bs) g := fun x => by
  cases hb : isS bs x with
  | false => rfl
  | true =>
    unfold isS at hb; rw [Bool.and_eq_true] at hb
    have h1 := inR_iff.1 hb.1
    have : ¬ x = g := fun e => h ⟨by omega, by omega⟩
    simp [this]

end Go.Proofs.YtolbceckbnifmaaGreat
