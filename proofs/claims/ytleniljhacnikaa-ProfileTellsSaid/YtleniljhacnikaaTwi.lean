/-
  Two variables set at once from two profiles' twins: what holds while the region's operations come up.
-/
import Derived.Test.YtleniljhacnikaaPair
import Derived.Test.YtleniljhacnikaaQInv
namespace Go.Proofs.Ytleniljhacnikaa
open Go.RowKit Go.Proofs

/-- The listed call's answer: rows of its own, that what came after has not touched. -/
def GotTwin (T : World) (B : Nat) (vs : Nat → Value) (listed : Array Bool) (wx : World) (j : Nat) (c k : Int) (l : List Row) : Prop :=
  listed.getD j false = true → ∃ A n cp, vs j = .agg #[.int .i64 c, .int .u8 k, .slice A n cp] ∧ ORows T B (.slice A n cp) l ∧ Kept T B wx ∧
    ∀ i, (i = 4 ∨ i = 5) → listed.getD i false = true → ∀ g, vs i = .pointer (some ⟨g, 0, none⟩) → g < B ∨ T.heap.size ≤ g
/-- The listed variable: fresh, and once the store i is listed it holds j's value. -/
def GotVar (vs : Nat → Value) (listed : Array Bool) (w0 wx : World) (m i j : Nat) : Prop :=
  listed.getD m false = true → ∃ g x y z, vs m = .pointer (some ⟨g, 0, none⟩) ∧ w0.heap.size ≤ g ∧ Has wx g 24 #[x, y, z] ∧ (listed.getD i false = true → vs j = .agg #[x, y, z])
structure JTwo (w0 : World) (c k : Int) (A : Option Addr) (n cp : Nat) (l : List Row) (c' k' : Int) (A' : Option Addr) (n' cp' : Nat) (l' : List Row) (T1 : World) (B1 : Nat) (T2 : World) (B2 : Nat) (listed : Array Bool) (vs : Nat → Value) (wx : World) : Prop where
  size : listed.size = 8
  bel : Below w0.heap.size w0 wx
  p : listed.getD 0 false = true → vs 0 = .agg #[.int .i64 c, .int .u8 k, .slice A n cp]
  q : listed.getD 2 false = true → vs 2 = .agg #[.int .i64 c', .int .u8 k', .slice A' n' cp']
  tp : GotTwin T1 B1 vs listed wx 1 c k l
  tq : GotTwin T2 B2 vs listed wx 3 c' k' l'
  vp : GotVar vs listed w0 wx 4 6 1
  vq : GotVar vs listed w0 wx 5 7 3
  ne : listed.getD 4 false = true → listed.getD 5 false = true → vs 4 ≠ vs 5
  o6 : listed.getD 6 false = true → listed.getD 1 false = true ∧ listed.getD 4 false = true
  o7 : listed.getD 7 false = true → listed.getD 3 false = true ∧ listed.getD 5 false = true
  b1 : listed.getD 1 false = true → w0.heap.size ≤ B1
  sep : listed.getD 1 false = true → listed.getD 3 false = true → T1.heap.size ≤ B2 ∨ T2.heap.size ≤ B1

theorem JTwo.start (w0 : World) (c k : Int) (A : Option Addr) (n cp : Nat) (l : List Row) (c' k' : Int) (A' : Option Addr) (n' cp' : Nat) (l' : List Row) (vs : Nat → Value) : JTwo w0 c k A n cp l c' k' A' n' cp' l' w0 0 w0 0 (Array.replicate 8 false) vs { w0 with drawn := w0.drawn + 1 } := by
  have hf : ∀ j, (Array.replicate 8 false).getD j false = true → False := fun j h => by rw [getD_replicate_false] at h; cases h
  exact ⟨by simp, (Below.refl _ _).drew, fun h => (hf _ h).elim, fun h => (hf _ h).elim, fun h => (hf _ h).elim, fun h => (hf _ h).elim, fun h => (hf _ h).elim, fun h => (hf _ h).elim, fun h => (hf _ h).elim, fun h => (hf _ h).elim, fun h => (hf _ h).elim, fun h => (hf _ h).elim, fun h => (hf _ h).elim⟩

section
variable {w0 : World} {c k : Int} {A : Option Addr} {n cp : Nat} {l : List Row} {c' k' : Int} {A' : Option Addr} {n' cp' : Nat} {l' : List Row} {listed : Array Bool} {vs : Nat → Value} {wx wy : World} {T1 : World} {B1 : Nat} {T2 : World} {B2 : Nat}
theorem set_ne (i j : Nat) (h : i ≠ j) : (listed.setIfInBounds i true).getD j false = listed.getD j false := getD_set_ne false h
/-- A load came up. -/
theorem JTwo.load (J : JTwo w0 c k A n cp l c' k' A' n' cp' l' T1 B1 T2 B2 listed vs wx) {i : Nat} {v : Value} (hi : i = 0 ∧ v = .agg #[.int .i64 c, .int .u8 k, .slice A n cp] ∨ i = 2 ∧ v = .agg #[.int .i64 c', .int .u8 k', .slice A' n' cp']) :
    JTwo w0 c k A n cp l c' k' A' n' cp' l' T1 B1 T2 B2 (listed.setIfInBounds i true) (upd vs i v) wx := by
  obtain ⟨h1, h2, h3, h4, h5, h6, h7, h8, h9, h10, h11, h12, h13⟩ := J
  rcases hi with ⟨rfl, rfl⟩ | ⟨rfl, rfl⟩
  all_goals
    refine ⟨by simp [h1], h2, ?_, ?_, ?_, ?_, ?_, ?_, ?_, ?_, ?_, ?_, ?_⟩
    all_goals first
      | (intro _; rfl)
      | (simp (disch := decide) only [set_ne, upd, if_neg]; assumption)
      | (unfold GotTwin at *; simp (disch := decide) only [set_ne, upd, if_neg]; intro hh; obtain ⟨A1, n1, c1, e1, e2, e3, e4⟩ := (by first | exact h5 hh | exact h6 hh); refine ⟨A1, n1, c1, e1, e2, e3, fun i hi => ?_⟩; rcases hi with rfl | rfl <;> simp (disch := decide) only [set_ne, upd, if_neg] <;> exact e4 _ (by simp))
      | (unfold GotVar at *; simp (disch := decide) only [set_ne, upd, if_neg]; assumption)
theorem GotTwin.later {j : Nat} {T : World} {B : Nat} (h : GotTwin T B vs listed wx j c k l) (hb : Below wx.heap.size wx wy) : GotTwin T B vs listed wy j c k l := fun hh =>
  let ⟨A1, n1, c1, e1, e2, e3, e4⟩ := h hh; ⟨A1, n1, c1, e1, e2, e3.trans (Frame'.of_below hb), e4⟩
theorem GotVar.later {m i j : Nat} (h : GotVar vs listed w0 wx m i j) (hb : Below wx.heap.size wx wy) : GotVar vs listed w0 wy m i j := fun hh =>
  let ⟨g, x, y, z, e1, e2, e3, e4⟩ := h hh; ⟨g, x, y, z, e1, e2, e3.below hb e3.lt, e4⟩
/-- Memory grew. -/
theorem JTwo.later (J : JTwo w0 c k A n cp l c' k' A' n' cp' l' T1 B1 T2 B2 listed vs wx) (hb : Below wx.heap.size wx wy) : JTwo w0 c k A n cp l c' k' A' n' cp' l' T1 B1 T2 B2 listed vs wy :=
  ⟨J.size, Below_trans' J.bel J.bel.size hb, J.p, J.q, J.tp.later hb, J.tq.later hb, J.vp.later hb, J.vq.later hb, J.ne, J.o6, J.o7, J.b1, J.sep⟩
theorem GotTwin.set {i j : Nat} {v : Value} {T : World} {B : Nat} (h : GotTwin T B vs listed wx j c k l) (hij : i ≠ j) (h4 : i ≠ 4) (h5 : i ≠ 5) : GotTwin T B (upd vs i v) (listed.setIfInBounds i true) wx j c k l := fun hh => by
  rw [set_ne i j hij] at hh
  obtain ⟨A1, n1, c1, e1, e2, e3, e4⟩ := h hh
  refine ⟨A1, n1, c1, by rw [← e1]; simp [upd, Ne.symm hij], e2, e3, fun m hm hl g hg => e4 m hm ?_ g ?_⟩
  · rwa [set_ne i m (by rcases hm with rfl | rfl <;> assumption)] at hl
  · rw [← hg]; have : m ≠ i := by rcases hm with rfl | rfl; exact Ne.symm h4; exact Ne.symm h5
    simp [upd, this]
theorem GotVar.set {i m s j : Nat} {v : Value} (h : GotVar vs listed w0 wx m s j) (h1 : i ≠ m) (h2 : i ≠ s) (h3 : i ≠ j ∨ listed.getD s false = false) : GotVar (upd vs i v) (listed.setIfInBounds i true) w0 wx m s j := fun hh => by
  rw [set_ne i m h1] at hh
  obtain ⟨g, x, y, z, e1, e2, e3, e4⟩ := h hh
  refine ⟨g, x, y, z, by rw [← e1]; simp [upd, Ne.symm h1], e2, e3, fun hs => ?_⟩
  rw [set_ne i s h2] at hs
  rcases h3 with h3 | h3
  · rw [← e4 hs]; simp [upd, Ne.symm h3]
  · rw [h3] at hs; cases hs
/-- The first call came up. -/
theorem JTwo.call1 (J : JTwo w0 c k A n cp l c' k' A' n' cp' l' T1 B1 T2 B2 listed vs wx) (hun : listed.getD 1 false = false) {A1 : Option Addr} {n1 c1 : Nat} (hb : Below wx.heap.size wx wy) (hO : ORows wy wx.heap.size (.slice A1 n1 c1) l) :
    JTwo w0 c k A n cp l c' k' A' n' cp' l' wy wx.heap.size T2 B2 (listed.setIfInBounds 1 true) (upd vs 1 (.agg #[.int .i64 c, .int .u8 k, .slice A1 n1 c1])) wy := by
  have h6 : listed.getD 6 false = false := by
    cases h : listed.getD 6 false with
    | false => rfl
    | true => have := (J.o6 h).1; rw [hun] at this; cases this
  have J' := J.later hb
  refine ⟨by simp [J.size], J'.bel, ?_, ?_, fun _ => ⟨A1, n1, c1, rfl, hO, Frame'.refl _ _, fun m hm hl g hg => ?_⟩, J'.tq.set (by decide) (by decide) (by decide), J'.vp.set (by decide) (by decide) (.inr h6), J'.vq.set (by decide) (by decide) (.inl (by decide)), ?_, ?_, ?_, ?_, ?_⟩
  · simp (disch := decide) only [set_ne, upd, if_neg]; exact J.p
  · simp (disch := decide) only [set_ne, upd, if_neg]; exact J.q
  · left
    rcases hm with rfl | rfl
    · rw [set_ne 1 4 (by decide)] at hl
      obtain ⟨g', x, y, z, e1, e2, e3, e4⟩ := J.vp hl
      have : g' = g := by have h := e1.symm.trans hg; cases h; rfl
      subst this
      exact e3.lt
    · rw [set_ne 1 5 (by decide)] at hl
      obtain ⟨g', x, y, z, e1, e2, e3, e4⟩ := J.vq hl
      have : g' = g := by have h := e1.symm.trans hg; cases h; rfl
      subst this
      exact e3.lt
  · simp (disch := decide) only [set_ne, upd, if_neg]; exact J.ne
  · simp (disch := decide) only [set_ne]; intro h; rw [h6] at h; cases h
  · simp (disch := decide) only [set_ne]; exact J.o7
  · exact fun _ => J.bel.size
  · intro _ h3
    rw [set_ne 1 3 (by decide)] at h3
    obtain ⟨A2, n2, c2, e1, e2, e3, e4⟩ := J.tq h3
    exact .inr e3.size
/-- The second call came up. -/
theorem JTwo.call2 (J : JTwo w0 c k A n cp l c' k' A' n' cp' l' T1 B1 T2 B2 listed vs wx) (hun : listed.getD 3 false = false) {A1 : Option Addr} {n1 c1 : Nat} (hb : Below wx.heap.size wx wy) (hO : ORows wy wx.heap.size (.slice A1 n1 c1) l') :
    JTwo w0 c k A n cp l c' k' A' n' cp' l' T1 B1 wy wx.heap.size (listed.setIfInBounds 3 true) (upd vs 3 (.agg #[.int .i64 c', .int .u8 k', .slice A1 n1 c1])) wy := by
  have h7 : listed.getD 7 false = false := by
    cases h : listed.getD 7 false with
    | false => rfl
    | true => have := (J.o7 h).1; rw [hun] at this; cases this
  have J' := J.later hb
  refine ⟨by simp [J.size], J'.bel, ?_, ?_, J'.tp.set (by decide) (by decide) (by decide), fun _ => ⟨A1, n1, c1, rfl, hO, Frame'.refl _ _, fun m hm hl g hg => ?_⟩, J'.vp.set (by decide) (by decide) (.inl (by decide)), J'.vq.set (by decide) (by decide) (.inr h7), ?_, ?_, ?_, ?_, ?_⟩
  · simp (disch := decide) only [set_ne, upd, if_neg]; exact J.p
  · simp (disch := decide) only [set_ne, upd, if_neg]; exact J.q
  · left
    rcases hm with rfl | rfl
    · rw [set_ne 3 4 (by decide)] at hl
      obtain ⟨g', x, y, z, e1, e2, e3, e4⟩ := J.vp hl
      have : g' = g := by have h := e1.symm.trans hg; cases h; rfl
      subst this
      exact e3.lt
    · rw [set_ne 3 5 (by decide)] at hl
      obtain ⟨g', x, y, z, e1, e2, e3, e4⟩ := J.vq hl
      have : g' = g := by have h := e1.symm.trans hg; cases h; rfl
      subst this
      exact e3.lt
  · simp (disch := decide) only [set_ne, upd, if_neg]; exact J.ne
  · simp (disch := decide) only [set_ne]; exact J.o6
  · simp (disch := decide) only [set_ne]; intro h; rw [h7] at h; cases h
  · simp (disch := decide) only [set_ne]; exact J.b1
  · intro h1 _
    rw [set_ne 3 1 (by decide)] at h1
    obtain ⟨A2, n2, c2, e1, e2, e3, e4⟩ := J.tp h1
    exact .inl e3.size
/-- A variable came up. -/
theorem JTwo.new4 (J : JTwo w0 c k A n cp l c' k' A' n' cp' l' T1 B1 T2 B2 listed vs wx) (hun : listed.getD 4 false = false) {g : Nat} {x y z : Value} (hb : Below wx.heap.size wx wy) (hG : Has wy g 24 #[x, y, z]) (hg : wx.heap.size ≤ g) :
    JTwo w0 c k A n cp l c' k' A' n' cp' l' T1 B1 T2 B2 (listed.setIfInBounds 4 true) (upd vs 4 (.pointer (some ⟨g, 0, none⟩))) wy := by
  have hs : listed.getD 6 false = false := by
    cases h : listed.getD 6 false with
    | false => rfl
    | true => have := (J.o6 h).2; rw [hun] at this; cases this
  have J' := J.later hb
  have hx : ∀ {j : Nat} {c k : Int} {l : List Row} {T : World} {B : Nat}, j ≠ 4 → GotTwin T B vs listed wx j c k l → GotTwin T B (upd vs 4 (.pointer (some ⟨g, 0, none⟩))) (listed.setIfInBounds 4 true) wy j c k l := fun {j c k l T B} hj h hh => by
    rw [set_ne 4 j (Ne.symm hj)] at hh
    obtain ⟨A1, n1, c1, e1, e2, e3, e4⟩ := h hh
    refine ⟨A1, n1, c1, by rw [← e1]; simp [upd, hj], e2, e3.trans (Frame'.of_below hb), fun m hm hl g' hg' => ?_⟩
    by_cases e : m = 4
    · subst e
      have : g' = g := by simp [upd] at hg'; exact hg'.symm
      subst this
      exact .inr (Nat.le_trans e3.size hg)
    · rw [set_ne 4 m (Ne.symm e)] at hl
      exact e4 m hm hl g' (by simpa [upd, e] using hg')
  refine ⟨by simp [J.size], J'.bel, ?_, ?_, hx (by decide) J.tp, hx (by decide) J.tq, fun _ => ⟨g, x, y, z, rfl, Nat.le_trans J.bel.size hg, hG, fun h => by rw [set_ne 4 6 (by decide), hs] at h; cases h⟩, J'.vq.set (by decide) (by decide) (.inl (by decide)), ?_, ?_, ?_, ?_, ?_⟩
  · simp (disch := decide) only [set_ne, upd, if_neg]; exact J.p
  · simp (disch := decide) only [set_ne, upd, if_neg]; exact J.q
  · intro _ h5
    rw [set_ne 4 5 (by decide)] at h5
    obtain ⟨g', x', y', z', e1, e2, e3, e4⟩ := J.vq h5
    have hlt := e3.lt
    simp (disch := decide) only [upd, if_neg, if_pos]
    rw [e1]
    intro e
    have : g = g' := by cases e; rfl
    omega
  · simp (disch := decide) only [set_ne]; intro h; rw [hs] at h; cases h
  · simp (disch := decide) only [set_ne]; exact J.o7
  · simp (disch := decide) only [set_ne]; exact J.b1
  · simp (disch := decide) only [set_ne]; exact J.sep
/-- A variable came up. -/
theorem JTwo.new5 (J : JTwo w0 c k A n cp l c' k' A' n' cp' l' T1 B1 T2 B2 listed vs wx) (hun : listed.getD 5 false = false) {g : Nat} {x y z : Value} (hb : Below wx.heap.size wx wy) (hG : Has wy g 24 #[x, y, z]) (hg : wx.heap.size ≤ g) :
    JTwo w0 c k A n cp l c' k' A' n' cp' l' T1 B1 T2 B2 (listed.setIfInBounds 5 true) (upd vs 5 (.pointer (some ⟨g, 0, none⟩))) wy := by
  have hs : listed.getD 7 false = false := by
    cases h : listed.getD 7 false with
    | false => rfl
    | true => have := (J.o7 h).2; rw [hun] at this; cases this
  have J' := J.later hb
  have hx : ∀ {j : Nat} {c k : Int} {l : List Row} {T : World} {B : Nat}, j ≠ 5 → GotTwin T B vs listed wx j c k l → GotTwin T B (upd vs 5 (.pointer (some ⟨g, 0, none⟩))) (listed.setIfInBounds 5 true) wy j c k l := fun {j c k l T B} hj h hh => by
    rw [set_ne 5 j (Ne.symm hj)] at hh
    obtain ⟨A1, n1, c1, e1, e2, e3, e4⟩ := h hh
    refine ⟨A1, n1, c1, by rw [← e1]; simp [upd, hj], e2, e3.trans (Frame'.of_below hb), fun m hm hl g' hg' => ?_⟩
    by_cases e : m = 5
    · subst e
      have : g' = g := by simp [upd] at hg'; exact hg'.symm
      subst this
      exact .inr (Nat.le_trans e3.size hg)
    · rw [set_ne 5 m (Ne.symm e)] at hl
      exact e4 m hm hl g' (by simpa [upd, e] using hg')
  refine ⟨by simp [J.size], J'.bel, ?_, ?_, hx (by decide) J.tp, hx (by decide) J.tq, J'.vp.set (by decide) (by decide) (.inl (by decide)), fun _ => ⟨g, x, y, z, rfl, Nat.le_trans J.bel.size hg, hG, fun h => by rw [set_ne 5 7 (by decide), hs] at h; cases h⟩, ?_, ?_, ?_, ?_, ?_⟩
  · simp (disch := decide) only [set_ne, upd, if_neg]; exact J.p
  · simp (disch := decide) only [set_ne, upd, if_neg]; exact J.q
  · intro h4 _
    rw [set_ne 5 4 (by decide)] at h4
    obtain ⟨g', x', y', z', e1, e2, e3, e4⟩ := J.vp h4
    have hlt := e3.lt
    simp (disch := decide) only [upd, if_neg, if_pos]
    rw [e1]
    intro e
    have : g = g' := by cases e; rfl
    omega
  · simp (disch := decide) only [set_ne]; exact J.o6
  · simp (disch := decide) only [set_ne]; intro h; rw [hs] at h; cases h
  · simp (disch := decide) only [set_ne]; exact J.b1
  · simp (disch := decide) only [set_ne]; exact J.sep
/-- A value was stored. -/
theorem JTwo.put6 (J : JTwo w0 c k A n cp l c' k' A' n' cp' l' T1 B1 T2 B2 listed vs wx) (hl : listed.getD 4 false = true) (hlj : listed.getD 1 false = true) {g : Nat} {x y z v : Value} (e : vs 4 = .pointer (some ⟨g, 0, none⟩)) (e1 : vs 1 = .agg #[x, y, z]) (hG : Has wy g 24 #[x, y, z]) (hk : Frame' (fun b => b = g) wx wy) :
    JTwo w0 c k A n cp l c' k' A' n' cp' l' T1 B1 T2 B2 (listed.setIfInBounds 6 true) (upd vs 6 v) wy := by
  have hg : w0.heap.size ≤ g := by
    obtain ⟨g', x', y', z', d1, d2, d3, d4⟩ := J.vp hl
    have : g' = g := by have h := d1.symm.trans e; cases h; rfl
    subst this
    exact d2
  have hx : ∀ {j : Nat} {c k : Int} {l : List Row} {T : World} {B : Nat}, j ≠ 6 → GotTwin T B vs listed wx j c k l → GotTwin T B (upd vs 6 v) (listed.setIfInBounds 6 true) wy j c k l := fun {j c k l T B} hj h hh => by
    rw [set_ne 6 j (Ne.symm hj)] at hh
    obtain ⟨A1, n1, c1, d1, d2, d3, d4⟩ := h hh
    refine ⟨A1, n1, c1, by rw [← d1]; simp [upd, hj], d2, d3.put hk (d4 4 (by decide) hl g e), fun m hm hl g' hg' => ?_⟩
    have hm' : m ≠ 6 := by rcases hm with rfl | rfl <;> decide
    rw [set_ne 6 m (Ne.symm hm')] at hl
    exact d4 m hm hl g' (by simpa [upd, hm'] using hg')
  refine ⟨by simp [J.size], Frame'.below J.bel hk (fun b e' => by rw [e']; exact hg) J.bel.size, ?_, ?_, hx (by decide) J.tp, hx (by decide) J.tq, fun _ => ⟨g, x, y, z, by rw [← e]; simp [upd], hg, hG, fun _ => by rw [← e1]; simp [upd]⟩, fun hh => by
    rw [set_ne 6 5 (by decide)] at hh
    obtain ⟨g', x', y', z', d1, d2, d3, d4⟩ := J.vq hh
    refine ⟨g', x', y', z', by rw [← d1]; simp [upd], d2, hk.has d3 (fun e' => ?_), fun hs => ?_⟩
    · exact J.ne hl hh (by rw [e, d1, e'])
    · rw [set_ne 6 7 (by decide)] at hs
      rw [← d4 hs]; simp [upd], ?_, ?_, ?_, ?_, ?_⟩
  · simp (disch := decide) only [set_ne, upd, if_neg]; exact J.p
  · simp (disch := decide) only [set_ne, upd, if_neg]; exact J.q
  · simp (disch := decide) only [set_ne, upd, if_neg]; exact J.ne
  · simp (disch := decide) only [set_ne]; exact fun _ => ⟨hlj, hl⟩
  · simp (disch := decide) only [set_ne]; exact J.o7
  · simp (disch := decide) only [set_ne]; exact J.b1
  · simp (disch := decide) only [set_ne]; exact J.sep
/-- A value was stored. -/
theorem JTwo.put7 (J : JTwo w0 c k A n cp l c' k' A' n' cp' l' T1 B1 T2 B2 listed vs wx) (hl : listed.getD 5 false = true) (hlj : listed.getD 3 false = true) {g : Nat} {x y z v : Value} (e : vs 5 = .pointer (some ⟨g, 0, none⟩)) (e1 : vs 3 = .agg #[x, y, z]) (hG : Has wy g 24 #[x, y, z]) (hk : Frame' (fun b => b = g) wx wy) :
    JTwo w0 c k A n cp l c' k' A' n' cp' l' T1 B1 T2 B2 (listed.setIfInBounds 7 true) (upd vs 7 v) wy := by
  have hg : w0.heap.size ≤ g := by
    obtain ⟨g', x', y', z', d1, d2, d3, d4⟩ := J.vq hl
    have : g' = g := by have h := d1.symm.trans e; cases h; rfl
    subst this
    exact d2
  have hx : ∀ {j : Nat} {c k : Int} {l : List Row} {T : World} {B : Nat}, j ≠ 7 → GotTwin T B vs listed wx j c k l → GotTwin T B (upd vs 7 v) (listed.setIfInBounds 7 true) wy j c k l := fun {j c k l T B} hj h hh => by
    rw [set_ne 7 j (Ne.symm hj)] at hh
    obtain ⟨A1, n1, c1, d1, d2, d3, d4⟩ := h hh
    refine ⟨A1, n1, c1, by rw [← d1]; simp [upd, hj], d2, d3.put hk (d4 5 (by decide) hl g e), fun m hm hl g' hg' => ?_⟩
    have hm' : m ≠ 7 := by rcases hm with rfl | rfl <;> decide
    rw [set_ne 7 m (Ne.symm hm')] at hl
    exact d4 m hm hl g' (by simpa [upd, hm'] using hg')
  refine ⟨by simp [J.size], Frame'.below J.bel hk (fun b e' => by rw [e']; exact hg) J.bel.size, ?_, ?_, hx (by decide) J.tp, hx (by decide) J.tq, fun hh => by
    rw [set_ne 7 4 (by decide)] at hh
    obtain ⟨g', x', y', z', d1, d2, d3, d4⟩ := J.vp hh
    refine ⟨g', x', y', z', by rw [← d1]; simp [upd], d2, hk.has d3 (fun e' => ?_), fun hs => ?_⟩
    · exact J.ne hh hl |>.symm (by rw [e, d1, e'])
    · rw [set_ne 7 6 (by decide)] at hs
      rw [← d4 hs]; simp [upd], fun _ => ⟨g, x, y, z, by rw [← e]; simp [upd], hg, hG, fun _ => by rw [← e1]; simp [upd]⟩, ?_, ?_, ?_, ?_, ?_⟩
  · simp (disch := decide) only [set_ne, upd, if_neg]; exact J.p
  · simp (disch := decide) only [set_ne, upd, if_neg]; exact J.q
  · simp (disch := decide) only [set_ne, upd, if_neg]; exact J.ne
  · simp (disch := decide) only [set_ne]; exact J.o6
  · simp (disch := decide) only [set_ne]; exact fun _ => ⟨hlj, hl⟩
  · simp (disch := decide) only [set_ne]; exact J.b1
  · simp (disch := decide) only [set_ne]; exact J.sep
end
end Go.Proofs.Ytleniljhacnikaa
