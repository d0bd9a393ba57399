/-
  The winner of strongest paths, the Condorcet winner and the Smith set, in plain terms.
-/
import Derived.Test.YtkhclcdmehjfkaaGreatSpecPa
import Derived.Test.YtkhclcdmehjfkaaGreatSpecSm
import Derived.Test.YtkhclcdmehjfkaaGreatW12a
namespace Go.Proofs.YtkhclcdmehjfkaaGreat
open Go.RowKit Go.Proofs

/-- The Condorcet winner is alone at the top. -/
theorem lone_top {m S : M} {C X : Nat} (hm : rightS m C = true) (h : Str m S) (hX : X < C) (hw : ∀ y : Nat, (y : Int) < C → y ≠ X → m y X < m X y) : topS S C = [(X : Int)] := by
  have hC : C ≤ 10 := by have := (rightS_iff.1 hm).2.1; omega
  have hno : ∀ y, y < C → S y X = 0 := fun y hy => by
    by_cases e : y = X
    · subst e; exact h.diag y (by omega)
    · have hb := h.bd y X (by omega) (by omega)
      have h1 : ¬ 1 ≤ S y X := fun h1 => by
        obtain ⟨l, hl⟩ := (h.iff (by omega) (by omega) e (Int.le_refl 1)).1 h1
        have key : ∀ z, (1 : Int) ≤ lnkS m z X → z < C → False := fun z hz hzC => by
          unfold lnkS at hz
          by_cases ez : z = X
          · subst ez; rw [if_neg (by omega)] at hz; omega
          · have := hw z (by omega) ez
            rw [if_neg (by omega)] at hz; omega
        rcases hl.snoc with ⟨_, h2⟩ | ⟨z, l', _, h2, h3⟩
        · exact key y h2 hy
        · exact key z h3 ((h2.nodes hm (Int.le_refl 1)).2 z h2.last_mem)
      omega
  have hyes : ∀ y, y < C → y ≠ X → 1 ≤ S X y := fun y hy e => by
    refine (h.iff (by omega) (by omega) (Ne.symm e) (Int.le_refl 1)).2 ⟨[y], .one (by omega) (by omega) ?_⟩
    have h1 := hw y (by omega) e
    have h2 := ((rightS_iff.1 hm).2.2 y X (by omega) (by omega)).1
    unfold lnkS
    rw [if_pos h1]; omega
  have hmem : ∀ x : Int, x ∈ topS S C ↔ x = X := fun x => by
    constructor
    · intro hx
      have hr := mem_rangeI.1 ((show (topS S C).Sublist (rangeI C) from List.filter_sublist).subset hx)
      obtain ⟨Y, rfl⟩ : ∃ Y : Nat, x = Y := ⟨x.toNat, by omega⟩
      have h1 := (mem_topS.1 hx).2 X hX
      by_cases e : Y = X
      · rw [e]
      · have h2 := hyes Y (by omega) e
        have h3 := hno Y (by omega)
        omega
    · rintro rfl
      refine mem_topS.2 ⟨hX, fun y hy => ?_⟩
      rw [hno y hy]
      exact (h.bd X y (by omega) (by omega)).1
  have hnd : (topS S C).Nodup := (nodup_rangeI C).sublist List.filter_sublist
  have hp : (topS S C).Perm [(X : Int)] := (List.perm_ext_iff_of_nodup hnd (by simp)).2 fun x => by rw [hmem, List.mem_singleton]
  exact List.perm_singleton.1 hp
/-- Who is behind nobody is in the Smith set. -/
theorem top_smith {m S : M} {C : Nat} {T : List Int} (hm : rightS m C = true) (h : Str m S) (hT : Dom m C T) : topS S C ⊆ T := fun x hx => by
  have hC : C ≤ 10 := by have := (rightS_iff.1 hm).2.1; omega
  have hr := mem_rangeI.1 ((show (topS S C).Sublist (rangeI C) from List.filter_sublist).subset hx)
  obtain ⟨X, rfl⟩ : ∃ X : Nat, x = X := ⟨x.toNat, by omega⟩
  refine Classical.byContradiction fun hn => ?_
  obtain ⟨a, ha⟩ := List.exists_mem_of_ne_nil T hT.ne
  have hra := mem_rangeI.1 (hT.sub.subset ha)
  obtain ⟨A, rfl⟩ : ∃ A : Nat, a = A := ⟨a.toNat, by omega⟩
  have hb := hT.all A X (by omega) (by omega) ha hn
  have hne : A ≠ X := fun e => by subst e; exact hn ha
  have h1 : 1 ≤ S A X := by
    refine (h.iff (by omega) (by omega) hne (Int.le_refl 1)).2 ⟨[X], .one (by omega) (by omega) ?_⟩
    have h2 := ((rightS_iff.1 hm).2.2 X A (by omega) (by omega)).1
    unfold lnkS
    rw [if_pos hb]; omega
  have h2 := (mem_topS.1 hx).2 A (by omega)
  obtain ⟨l, hl⟩ := (h.iff (by omega) (by omega) (Ne.symm hne) (Int.le_refl 1)).1 (show 1 ≤ S X A by omega)
  have key : ∀ {x y : Nat} {l : List Nat}, Pth m 1 x l y → (x : Int) ∉ T → (y : Int) ∈ T → False := by
    have step : ∀ {x y : Nat}, (1 : Int) ≤ lnkS m x y → x < C → y < C → (x : Int) ∉ T → (y : Int) ∈ T → False := fun {x y} hl hx hy hxT hyT => by
      have := hT.all y x hy hx hyT hxT
      unfold lnkS at hl
      rw [if_neg (by omega)] at hl
      omega
    intro x y l hp
    induction hp with
    | one hx hy hk =>
      intro h1 h2
      have hn := (Pth.one hx hy hk : Pth m 1 _ _ _).nodes hm (Int.le_refl 1)
      exact step hk hn.1 (hn.2 _ (List.mem_singleton_self _)) h1 h2
    | @cons x y z l hx hk r ih =>
      intro h1 h2
      have hn := (Pth.cons hx hk r).nodes hm (Int.le_refl 1)
      by_cases hyT : (y : Int) ∈ T
      · exact step hk hn.1 (hn.2 _ (List.mem_cons_self ..)) h1 hyT
      · exact ih hyT h2
  exact key hl hn ha
end Go.Proofs.YtkhclcdmehjfkaaGreat
