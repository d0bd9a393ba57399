/-
  A round of the program's runoff: the state of a count; the round up to its test.
  A round of the program's runoff.
-/
import Derived.Test.YtolbceckbnifmaaGreatW15a
import Derived.Test.YtolbceckbnifmaaGreatApp2
import Derived.Deep.CutRange
namespace Go.Proofs.YtolbceckbnifmaaGreat
open Go.RowKit Go.Proofs Go.Shelf
attribute [local go_sem] cell?_more cell?_alloc_some cell?_setCell_far frozen?_alloc_some frozen?_more
theorem getI_had {φ : Int → Bool} {l : List Row} {C : Nat} {x : Int} (h : 0 ≤ x ∧ x < C) : getI (hadL φ l C) x = hadS φ l x := by
  obtain ⟨X, rfl⟩ : ∃ X : Nat, x = X := ⟨x.toNat, by omega⟩
  exact getI_of (get_hadL φ l (by omega))
theorem RankOK.had {l : List Row} {C : Nat} (h : RankOK l C) (φ : Int → Bool) (x : Int) : 0 ≤ hadS φ l x ∧ hadS φ l x ≤ 1000000 := by
  have h1 := hadS_bd (φ := φ) h.pos x
  have h2 := h.tot
  omega
theorem RankOK.lost {l : List Row} {C : Nat} (h : RankOK l C) (φ : Int → Bool) : 0 ≤ lostS φ l ∧ lostS φ l ≤ 1000000 := by
  have h1 := lostS_bd (φ := φ) h.pos
  have h2 := h.tot
  omega
theorem RankOK.hads {l : List Row} {C : Nat} (h : RankOK l C) (φ : Int → Bool) : ∀ x ∈ hadL φ l C, 0 ≤ x ∧ x ≤ 1000000 := by
  intro x hx
  obtain ⟨i, _, rfl⟩ := List.mem_map.1 hx
  exact h.had φ _
theorem sum_take_bd {xs : List Int} (h : ∀ x ∈ xs, 0 ≤ x) (k : Nat) : 0 ≤ (xs.take k).sum ∧ (xs.take k).sum ≤ xs.sum := by
  induction xs generalizing k with
  | nil => simp
  | cons a r ih =>
    have ha := h a (List.mem_cons_self ..)
    have h2 := fun k => ih (fun x hx => h x (List.mem_cons_of_mem _ hx)) k
    cases k with
    | zero => have := h2 r.length; rw [List.take_length] at this; simp; omega
    | succ k => have := h2 k; simp; omega
theorem RankOK.sum {l : List Row} {C : Nat} (h : RankOK l C) (φ : Int → Bool) : (hadL φ l C).sum ≤ 1000000 := by
  have h1 := had_all (φ := φ) h.marks
  have h2 := h.lost φ
  have h3 := h.tot
  omega
theorem getI_bd {φ : Int → Bool} {l : List Row} {C : Nat} (h : RankOK l C) (x : Int) : 0 ≤ getI (hadL φ l C) x ∧ getI (hadL φ l C) x ≤ 1000000 := by
  unfold getI
  by_cases hx : x.toNat < (hadL φ l C).length
  · have := h.hads φ ((hadL φ l C).getD x.toNat 0) (by simp [List.getD, hx])
    exact this
  · simp [List.getD, List.getElem?_eq_none (Nat.le_of_not_lt hx)]

end Go.Proofs.YtolbceckbnifmaaGreat

namespace Go.Proofs.YtolbceckbnifmaaGreat
open Go.RowKit Go.Proofs Go.Shelf
attribute [local go_sem] cell?_alt cell?_more cell?_alloc_some cell?_setCell_far frozen?_alloc_some frozen?_more
theorem find_only {p : Int → Bool} {l : List Int} {o : Int} (ho : o ∈ l) (hp : p o = true) (hu : ∀ c ∈ l, p c = true → c = o) : l.find? p = some o := by
  cases hf : l.find? p with
  | none => exact absurd hp (List.find?_eq_none.1 hf o ho)
  | some c => rw [hu c (List.mem_of_find?_eq_some hf) (List.find?_some hf)]
theorem win_single {left had : List Int} {o : Int} {r : List Int} (hb : bestS (getI had) left = o :: r) (h1 : left.length = 1) : winS left had = some o := by
  have ho := (mem_bestS.1 (show o ∈ bestS (getI had) left by rw [hb]; simp)).1
  obtain ⟨a, rfl⟩ := List.length_eq_one_iff.1 h1
  simp at ho
  subst ho
  simp [winS]
theorem win_major {left had : List Int} {o : Int} {r : List Int} {C : Nat} (hb : bestS (getI had) left = o :: r) (h0 : ∀ x ∈ had, 0 ≤ x) (hl : had.length = C) (hm : ∀ x ∈ left, 0 ≤ x ∧ x < C) (h : had.sum < 2 * getI had o) : winS left had = some o := by
  have ho := mem_bestS.1 (show o ∈ bestS (getI had) left by rw [hb]; simp)
  refine find_only ho.1 (by simp [h]) fun c hc hp => ?_
  by_cases h1 : left.length = 1
  · obtain ⟨a, rfl⟩ := List.length_eq_one_iff.1 h1
    have e := ho.1
    simp at e hc
    rw [e, hc]
  · simp [h1] at hp
    exact win_one h0 hl (hm c hc) (hm o ho.1) hp h
theorem win_none {left had : List Int} {o : Int} {r : List Int} (hb : bestS (getI had) left = o :: r) (h1 : left.length ≠ 1) (h : ¬ had.sum < 2 * getI had o) : winS left had = none := by
  have ho := mem_bestS.1 (show o ∈ bestS (getI had) left by rw [hb]; simp)
  refine List.find?_eq_none.2 fun c hc => ?_
  have := ho.2 c hc
  simp [h1]
  omega
theorem lot_len {lot : List Int} {C : Nat} (h : lotS lot C = true) : lot.length = C := by
  unfold lotS at h
  simp only [Bool.and_eq_true, decide_eq_true_eq] at h
  omega
theorem lot_in {lot : List Int} {C : Nat} (h : lotS lot C = true) {x : Int} (hx : x ∈ rangeI C) : x ∈ lot := by
  have e := lot_len h
  unfold lotS at h
  simp only [Bool.and_eq_true, decide_eq_true_eq] at h
  rw [← e] at hx
  exact (turned_perm.1 h.2).2.2.subset hx
theorem pairwise_rangeI (n : Nat) : (rangeI n).Pairwise (· ≤ ·) := by
  unfold rangeI
  rw [List.pairwise_map]
  exact (List.pairwise_lt_range).imp fun h => by omega
theorem lastS_mem {lot among : List Int} (h : among ≠ []) (hin : ∀ x ∈ among, x ∈ lot) : lastS lot among ∈ among := by
  unfold lastS
  cases hf : lot.reverse.find? (inL among) with
  | none =>
    obtain ⟨a, r, rfl⟩ := List.exists_cons_of_ne_nil h
    have := List.find?_eq_none.1 hf a (List.mem_reverse.2 (hin a (List.mem_cons_self ..)))
    exact absurd (inL_iff.2 (List.mem_cons_self ..)) this
  | some m => exact inL_iff.1 (List.find?_some hf)
theorem lit_ints {w : World} {g : Nat} {t : TypeId} {x : Int} (h : Has w g t #[.int .i64 x]) (hx : I64 x) : RInts w (some ⟨g, 0, none⟩) 1 1 [x] := by
  refine ⟨rfl, Nat.le_refl _, by omega, fun y hy => by simp at hy; subst hy; exact hx, fun _ => ⟨g, 0, rfl, fun i hi => ?_⟩⟩
  obtain rfl : i = 0 := by omega
  rw [h.cell]; rfl
theorem cell_frame {S : Nat → Prop} {w w' : World} (k : Frame' S w w') {a : Addr} {v : Value} (h : w.cell? a = some v) (hn : ¬ S a.block) : w'.cell? a = some v :=
  (World.cell?_of_block (k.block a.block (World.block_lt_of_cell? w _ h) hn)).trans h
theorem TellPost.later {w : World} {g B : Nat} {el rn vt vl : Value} {fp : Nat → Prop} {ts : List Row} {among : List Int} {x : Int} {e : Ending} {w' w'' : World} (h : TellPost w g B el rn vt vl fp ts among x e w') (hb : Below w'.heap.size w' w'') : TellPost w g B el rn vt vl fp ts among x e w'' := by
  obtain ⟨h1, vt', fp', h2, h3, h4, h5, h6⟩ := h
  exact ⟨h1, vt', fp', h2.below hb h2.lt, h3.below hb, h4, h5, h6.trans (Frame'.of_below hb)⟩
theorem TellPost.far {w8 w : World} {g g10 B : Nat} {el rn vt vl u : Value} {fp : Nat → Prop} {ts : List Row} {among : List Int} {x : Int} {e : Ending} {w' : World} (hb : Below w8.heap.size w8 w) (h : TellPost w g B el rn vt vl fp ts among x e w') (h10 : w8.heap.size ≤ g10) (h11 : g10 < w.heap.size) (hg : g < w8.heap.size) (hf : ∀ b, fp b → b < w8.heap.size) (hv : ∀ b, vt.ownBlock = some b → b < w8.heap.size) :
    TellPost w8 g B el rn vt vl fp ts among x e (w'.setCell ⟨g10, 0, none⟩ u) := by
  obtain ⟨h1, vt', fp', h2, h3, h4, h5, h6⟩ := TellPost.start hb h
  obtain ⟨_, vt1, fp1, k2, k3, k4, k5, k6⟩ := h
  have f : Frame' (fun b => b = g10) w' (w'.setCell ⟨g10, 0, none⟩ u) := Frame'.setCell (p := ⟨g10, 0, none⟩) (Frame'.refl (fun b => b = g10) w') (.inl rfl) _
  have f8 : Frame' (fun b => b = g ∨ vt.ownBlock = some b) w8 (w'.setCell ⟨g10, 0, none⟩ u) := h6.setCell (p := ⟨g10, 0, none⟩) (.inr h10) _
  refine ⟨h1, vt1, fp1, f.has k2 (fun e => by omega), k3.frame f (fun b hb' e => ?_) (fun b hb' e => ?_), fun b hb' => (k4 b hb').imp id fun h => Nat.le_trans hb.size h, k5.imp id fun ⟨b, e, h⟩ => ⟨b, e, Nat.le_trans hb.size h⟩, f8⟩
  · rcases k4 b hb' with h | h
    · have := hf b h; omega
    · omega
  · rcases k5 with h | ⟨b', e', h⟩
    · rw [h] at hb'; have := hv b hb'; omega
    · rw [e'] at hb'; cases hb'; omega
end Go.Proofs.YtolbceckbnifmaaGreat
