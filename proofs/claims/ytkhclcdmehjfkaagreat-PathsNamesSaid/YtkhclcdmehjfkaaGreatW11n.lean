/-
  Other names: names, Renamed.
-/
import Derived.Test.YtkhclcdmehjfkaaGreatSpecNm
import Derived.Test.YtkhclcdmehjfkaaGreatW15h
import Derived.Test.YtkhclcdmehjfkaaGreatFlow2
import Derived.Deep.CutRange
namespace Go.Proofs.YtkhclcdmehjfkaaGreat
open Go.RowKit Go.Proofs Go.Shelf
attribute [local go_sem] cell?_more cell?_alloc_some cell?_setCell_far frozen?_alloc_some frozen?_more
theorem names_any (A : Option Addr) (n c : Nat) (xs : List Int) (Ap : Option Addr) (np cp : Nat) (perm : List Int) (w : World) (h : RInts w A n c xs) (hp : RInts w Ap np cp perm) (hx : InR np xs) (hn : n ≤ 1000) :
    Calls Tryz.prog 83 #[.slice A n c, .slice Ap np cp] w (IPost w (xs.map (nameS perm))) := by
  have hl := hide h.len
  have Hx := hide hx
  obtain ⟨ys, hys⟩ : ∃ ys, ys = xs.map (nameS perm) := ⟨_, rfl⟩
  have hyl : ys.length = n := by rw [hys, List.length_map]; exact h.len
  rw [← hys]
  have Hys := hide hys
  have Hyl := hide hyl
  clear hx hys hyl
  go_enter Tryz.func83, Tryz.ntmps83
  go_wp2
  go_loopw [5, 6] (fun v i wr => ∃ k : Nat, k ≤ n ∧ i = .int .i64 k ∧ Own wr w.heap.size v (ys.take k) ∧ Below w.heap.size w wr) (fun v i _ => n - (intOf i).toNat)
  case atStart => exact ⟨0, Nat.zero_le _, rfl, Own.nil_ _ _, Below.refl _ _⟩
  case round =>
    obtain ⟨k, hk, rfl, hO, hb⟩ := hrel
    have hz := hb.size
    have hle : (ys.take k).length ≤ 1000 := by rw [List.length_take]; omega
    by_cases hlt : k < n
    · obtain ⟨b, off, v, rfl, hc, hd, hat, _⟩ := (h.below hb).step hlt
      obtain ⟨hv0, hv1⟩ := Hx.out v (List.mem_of_getElem? hat.out)
      obtain ⟨V, rfl⟩ : ∃ V : Nat, v = V := ⟨v.toNat, by omega⟩
      obtain ⟨b2, off2, u, rfl, hc2, _, hat2, _⟩ := (hp.below hb).step (show V < np by omega)
      have hs : Hid (ys.take (k + 1) = ys.take k ++ [u]) := by
        unfold Hid
        rw [List.take_add_one, Hys.out, List.getElem?_map, hat.out]
        simp [nameS, List.getD, hat2.out]
      clear hat hd hat2
      go_wp2_with (at_builtin; refine appInt rfl rfl rfl (hO.below ((Below.refl _ _).alloc (Nat.le_refl _) _)) rfl ((Has.new _ _ _).cell 0) (by omega) (by simp; omega) ?_)
      intro v' w' hO' hg
      go_wp2
      go_roundw
      case rel => exact ⟨k + 1, by omega, by go_num, by rw [hs.out]; exact hO', (hb.alloc hz _).grown hg (by simp; omega) (fun j hj => (hO.lt j hj).1)⟩
      case measure => simp [intOf] <;> omega
    · have e : Hid (ys.take k = ys) := List.take_of_length_le (by rw [Hyl.out]; omega)
      rw [e.out] at hO
      go_wp2
      go_ret
      exact ⟨_, rfl, hO, hb⟩
theorem pnames_any (A : Option Addr) (n c : Nat) (xs : List Int) (Ap : Option Addr) (np cp : Nat) (perm : List Int) (w : World) (h : RInts w A n c xs) (hp : RInts w Ap np cp perm) (hx : InR np xs) (hn : n ≤ 1000) :
    Calls Tryz.prog 38 #[.slice A n c, .slice Ap np cp] w (IPost w (xs.map (nameS perm))) := by
  have hc := names_any A n c xs Ap np cp perm w h hp hx hn
  generalize xs.map (nameS perm) = ys at *
  clear hx
  go_enter Tryz.func38, Tryz.ntmps38
  go_wp2_with fail
  refine hc.mono ?_
  rintro e w1 ⟨v, rfl, hO, hb⟩
  obtain ⟨Av, cv, rfl⟩ := hO.slice
  go_wp2
  go_ret
  exact ⟨_, rfl, hO, hb⟩

/-! An array of ratios that is filled in any order. -/
def zeroC : List Value := [.bool false, .slice none 0 0, .slice none 0 0]
def hadC (p : List Int) (n : Nat) (vf : Nat → List Value) (j : Nat) : List (List Value) := (List.range n).map fun d => if idx p d < j then vf (idx p d) else zeroC
theorem length_hadC (p : List Int) (n : Nat) (vf : Nat → List Value) (j : Nat) : (hadC p n vf j).length = n := by simp [hadC]
theorem hadC_zero (p : List Int) (n : Nat) (vf : Nat → List Value) : hadC p n vf 0 = List.replicate n zeroC := by
  unfold hadC
  refine List.ext_getElem (by simp) fun i h1 h2 => ?_
  simp
theorem hadC_succ {p : List Int} {n : Nat} {vf : Nat → List Value} (hN : Names p n) {j V : Nat} (hv : p[j]? = some (V : Int)) : hadC p n vf (j + 1) = (hadC p n vf j).set V (vf j) := by
  refine List.ext_getElem? fun d => ?_
  have hi := idx_eq hN.nd hv d
  by_cases hd : d < n
  · rw [List.getElem?_set]
    unfold hadC
    rw [List.getElem?_map, List.getElem?_range hd]
    by_cases e : V = d
    · subst e
      rw [if_pos rfl, if_pos (by simpa using hd)]
      simp [hi.2 rfl]
    · rw [if_neg e, List.getElem?_map, List.getElem?_range hd]
      have h1 : idx p d ≠ j := fun h => e (hi.1 h).symm
      have h2 : (idx p d < j + 1) = (idx p d < j) := by rw [eq_iff_iff]; omega
      simp [h2]
  · rw [List.getElem?_eq_none (by rw [length_hadC]; omega), List.getElem?_eq_none (by rw [List.length_set, length_hadC]; omega)]
theorem hadC_three {p : List Int} {n : Nat} {vf : Nat → List Value} (hN : Names p n) (h : ∀ i, i < n → (vf i).length = 3) (j : Nat) : ∀ x ∈ hadC p n vf j, x.length = 3 := by
  intro x hx
  obtain ⟨d, hd, rfl⟩ := List.mem_map.1 hx
  split
  · exact h _ (name_idx hN (List.mem_range.1 hd)).1
  · rfl
theorem flat_get {vs : List (List Value)} (h3 : ∀ x ∈ vs, x.length = 3) {q r : Nat} (hr : r < 3) : vs.flatten[q * 3 + r]? = (vs[q]?).bind (·[r]?) := by
  cases hq : vs[q]? with
  | some x => exact get_flatten h3 hq hr
  | none =>
    have := List.getElem?_eq_none_iff.1 hq
    have hl : vs.flatten.length = vs.length * 3 := by
      rw [List.length_flatten]
      clear hq this
      induction vs with
      | nil => rfl
      | cons a s ih => rw [List.map_cons, List.sum_cons, ih (fun x hx => h3 x (List.mem_cons_of_mem _ hx)), h3 a (List.mem_cons_self ..), List.length_cons]; omega
    rw [List.getElem?_eq_none (by rw [hl]; omega)]; rfl
theorem flat_len {vs : List (List Value)} (h3 : ∀ x ∈ vs, x.length = 3) : vs.flatten.length = vs.length * 3 := by
  rw [List.length_flatten]
  induction vs with
  | nil => rfl
  | cons a s ih => rw [List.map_cons, List.sum_cons, ih (fun x hx => h3 x (List.mem_cons_of_mem _ hx)), h3 a (List.mem_cons_self ..), List.length_cons]; omega
theorem flat_set3 {vs : List (List Value)} (h3 : ∀ x ∈ vs, x.length = 3) (V : Nat) (a b c : Value) : ((vs.flatten.set (V * 3) a).set (V * 3 + 1) b).set (V * 3 + 2) c = (vs.set V [a, b, c]).flatten := by
  have h3' : ∀ x ∈ vs.set V [a, b, c], x.length = 3 := fun x hx => by
    rcases List.mem_or_eq_of_mem_set hx with h | h
    · exact h3 x h
    · subst h; rfl
  refine List.ext_getElem? fun i => ?_
  obtain ⟨q, r, hr, rfl⟩ : ∃ q r, r < 3 ∧ i = q * 3 + r := ⟨i / 3, i % 3, Nat.mod_lt _ (by decide), by omega⟩
  rw [flat_get h3' hr, List.getElem?_set, List.getElem?_set, List.getElem?_set, flat_get h3 hr, List.getElem?_set]
  simp only [List.length_set, flat_len h3]
  by_cases e : V = q
  · subst e
    by_cases hV : V < vs.length
    · have hs : ∃ x, vs[V]? = some x := ⟨_, List.getElem?_eq_getElem hV⟩
      match r, hr with
      | 0, _ => (simp [hV]) <;> omega
      | 1, _ => (simp [hV]) <;> omega
      | 2, _ => (simp [hV]) <;> omega
    · match r, hr with
      | 0, _ => (simp [hV]) <;> omega
      | 1, _ => (simp [hV]) <;> omega
      | 2, _ => (simp [hV]) <;> omega
  · rw [if_neg (by omega), if_neg (by omega), if_neg (by omega), if_neg e]
theorem made3 (n : Nat) : madeCells #[.bool false, .slice none 0 0, .slice none 0 0] (n * 3) = (List.replicate n zeroC).flatten.toArray := by
  have h3 : ∀ x ∈ List.replicate n zeroC, x.length = 3 := fun x hx => by rw [(List.mem_replicate.1 hx).2]; rfl
  refine Array.ext_getElem? fun i => ?_
  obtain ⟨q, r, hr, rfl⟩ : ∃ q r, r < 3 ∧ i = q * 3 + r := ⟨i / 3, i % 3, Nat.mod_lt _ (by decide), by omega⟩
  have e : (List.replicate n zeroC).flatten.toArray[q * 3 + r]? = (List.replicate n zeroC).flatten[q * 3 + r]? := List.getElem?_toArray ..
  rw [e, flat_get h3 hr]
  clear e
  unfold madeCells
  rw [Array.getElem?_map]
  by_cases hq : q < n
  · rw [Array.getElem?_range, if_pos (by omega), List.getElem?_replicate, if_pos hq]
    have : (q * 3 + r) % 3 = r := by omega
    simp only [Option.map_some, Option.bind_some]
    show some (#[Value.bool false, Value.slice none 0 0, Value.slice none 0 0][(q * 3 + r) % 3]!) = _
    rw [this]
    match r, hr with
    | 0, _ => rfl
    | 1, _ => rfl
    | 2, _ => rfl
  · rw [Array.getElem?_range, if_neg (by omega), List.getElem?_replicate, if_neg hq]; rfl
theorem RAgg.fn {α : Type} {E : World → List Value → α → Prop} {size : Nat} {w : World} {A : Option Addr} {n c : Nat} {l : List α} (h : RAgg E size w A n c l) (hn : 0 < n) :
    ∃ (b off : Nat) (vf : Nat → List Value), A = some ⟨b, off, none⟩ ∧ ∀ i, i < n → ∃ x, l[i]? = some x ∧ (vf i).length = size ∧ (∀ j u, (vf i)[j]? = some u → w.cell? ⟨b, off + i * size + j, none⟩ = some u) ∧ E w (vf i) x := by
  obtain ⟨b, off, e, hc⟩ := h.2.2.2 hn
  have h1 : ∀ i, ∃ vs : List Value, i < n → ∃ x, l[i]? = some x ∧ vs.length = size ∧ (∀ j u, vs[j]? = some u → w.cell? ⟨b, off + i * size + j, none⟩ = some u) ∧ E w vs x := fun i => by
    by_cases hi : i < n
    · obtain ⟨vs, x, h1, h2, h3, h4⟩ := hc i hi
      exact ⟨vs, fun _ => ⟨x, h1, h2, h3, h4⟩⟩
    · exact ⟨[], fun h => absurd h hi⟩
  obtain ⟨vf, hvf⟩ := Classical.axiomOfChoice h1
  exact ⟨b, off, vf, e, hvf⟩
theorem erat_on {w : World} {vs : List Value} {x : Rat3} (h : ERat w vs x) : On (fun b => b < w.heap.size) w fun W => ERat W vs x := by
  obtain ⟨A, n, c, A', n', c', e, h1, h2⟩ := h
  exact ((h1.on.and h2.on).imp fun W hW => ⟨A, n, c, A', n', c', e, hW.1, hW.2⟩).wide (fun b hb => hb.elim (h1.on.1 b) (h2.on.1 b)) fun _ hb => hb
theorem on_all {α : Type} {E : World → List Value → α → Prop} {fp : Nat → Prop} {w : World} {vs : List (List Value)} {l : List α} (hf : ∀ b, fp b → b < w.heap.size) (hl : vs.length = l.length) (h : ∀ (i : Nat) (x : List Value) (y : α), vs[i]? = some x → l[i]? = some y → On fp w fun W => E W x y) : On fp w fun W => All2 (E W) vs l :=
  ⟨hf, fun w2 k => ⟨hl, fun i x y hx hy => (h i x y hx hy).2 w2 k⟩⟩
/-- The array, filled. -/
theorem filled {w0 w : World} {g n B : Nat} {p : List Int} {had : List Rat3} {vf : Nat → List Value} (hN : Names p n) (hl : had.length = n) (hb : Below w0.heap.size w0 w) (hg0 : w0.heap.size ≤ g) (hB : B ≤ g) (hg : Has w g 51 (hadC p n vf n).flatten.toArray)
    (hv : ∀ i, i < n → ∃ x, had[i]? = some x ∧ (vf i).length = 3 ∧ ERat w0 (vf i) x) : OAgg ERat 51 3 (fun b => b < w0.heap.size) w B (.slice (some ⟨g, 0, none⟩) n n) (renHad p had) := by
  have h3 := hadC_three hN (fun i hi => let ⟨x, _, h, _⟩ := hv i hi; h) n
  have hlen : (renHad p had).length = n := by simp [renHad, hl]
  have hn10 := hN.le
  refine ⟨hadC p n vf n, h3, ?_, ?_, fun b e hb' => ?_⟩
  · refine ⟨by rw [flat_len h3, length_hadC, hlen], .inr ⟨g, n, (hadC p n vf n).flatten.toArray, by rw [hlen], hB, hg, by rw [hlen]; exact Nat.le_refl _, by unfold maxLen; omega, ?_, ?_⟩⟩
    · rw [List.size_toArray, flat_len h3, length_hadC]
    · rw [List.take_of_length_le (by simp [flat_len h3, length_hadC, hlen])]
  · refine on_all (fun b hb' => Nat.lt_of_lt_of_le hb' hb.size) (by rw [length_hadC, hlen]) fun i x y hx hy => ?_
    have hi : i < n := by have := (List.getElem?_eq_some_iff.1 hx).1; rwa [length_hadC] at this
    obtain ⟨h1, h2⟩ := name_idx hN hi
    obtain ⟨z, hz, _, hE⟩ := hv _ h1
    have e1 : x = vf (idx p i) := by
      unfold hadC at hx
      rw [List.getElem?_map, List.getElem?_range hi] at hx
      simpa [h1] using hx.symm
    have e2 : y = z := by
      unfold renHad at hy
      rw [List.getElem?_map, List.getElem?_range (by omega)] at hy
      simpa [List.getD, hz] using hy.symm
    subst e1 e2
    exact (erat_on hE).below hb
  · have e2 : g = b := Option.some.inj e
    omega
end Go.Proofs.YtkhclcdmehjfkaaGreat
