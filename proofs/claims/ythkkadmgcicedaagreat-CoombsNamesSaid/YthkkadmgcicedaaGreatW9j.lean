/-
  The program's put.
-/
import Derived.Test.YthkkadmgcicedaaGreatW9i
import Derived.Deep.RegionWith
namespace Go.Proofs.YthkkadmgcicedaaGreat
open Go.RowKit Go.Proofs
attribute [local go_sem] cell?_more cell?_alloc_some cell?_setCell_far frozen?_alloc_some frozen?_more

/-- What put and drop leave: the profile behind the pointer has the rows l', its own. -/
def PutPost (w : World) (g B : Nat) (c k : Int) (v : Value) (l' : List Row) (v' : Value) (w' : World) : Prop :=
  Has w' g 24 #[.int .i64 c, .int .u8 k, v'] ∧ ORows w' B v' l' ∧ Frame' (fun b => b = g ∨ some b = v.ownBlock) w w'

theorem foundS_true {l : List Row} {m : List Int} (h : foundS l m = true) : ∃ z, l[plS l m]? = some (m, z) := by
  unfold foundS at h
  split at h
  · rename_i r e
    have := of_decide_eq_true h
    exact ⟨r.2, by rw [e, ← this]⟩
  · cases h
theorem foundS_false {l : List Row} {m : List Int} (h : foundS l m = false) : ∀ z, l[plS l m]? ≠ some (m, z) := by
  intro z hz
  unfold foundS at h
  rw [hz] at h
  simp at h

theorem flat_set2 (cs : List (Value × Row)) : ∀ (t : Nat) (x : Value × Row) (y : Int), cs[t]? = some x → (cs.flatMap cell2).set (t * 2 + 1) (.int .i64 y) = (cs.set t (x.1, (x.2.1, y))).flatMap cell2 := by
  induction cs with
  | nil => intro t x u h; simp at h
  | cons a r ih =>
    intro t x u h
    cases t with
    | zero => simp at h; subst h; simp [List.flatMap_cons, cell2]
    | succ t =>
      have := ih t x u (by simpa using h)
      rw [List.flatMap_cons, List.set_cons_succ, List.flatMap_cons, ← this, show (t + 1) * 2 + 1 = t * 2 + 1 + 1 + 1 by omega]
      simp [cell2]
theorem owns_slice {w : World} {B n : Nat} {v : Value} {t : TypeId} {s : Nat} {xs : List Value} (h : w.ownsRow B t s v n xs) : ∃ A n' c, v = .slice A n' c := by
  rcases h.2 with ⟨e, _⟩ | ⟨g, cap, cur, e, _⟩
  · exact ⟨_, _, _, e⟩
  · exact ⟨_, _, _, e⟩
/-- The count of a row is changed. -/
theorem ORows.setMany {w : World} {B g n cap t : Nat} {l : List Row} {m : List Int} {z y : Int} (h : ORows w B (.slice (some ⟨g, 0, none⟩) n cap) l) (hn : l.length = n) (ht : l[t]? = some (m, z)) (hy : I64 y) :
    ORows (w.setCell ⟨g, t * 2 + 1, none⟩ (.int .i64 y)) B (.slice (some ⟨g, 0, none⟩) n cap) (l.set t (m, y)) := by
  obtain ⟨cs, e, h1, h2⟩ := h
  rw [hn] at h1
  have hx : ∃ u, cs[t]? = some (u, (m, z)) := by
    rw [← e, List.getElem?_map] at ht
    cases hc : cs[t]? with
    | none => rw [hc] at ht; cases ht
    | some x => rw [hc] at ht; cases x; simp at ht; subst ht; exact ⟨_, rfl⟩
  obtain ⟨u, hx⟩ := hx
  obtain ⟨h3, h4⟩ := h1.stored (t * 2 + 1) (.int .i64 y)
  rw [flat_set2 cs t _ y hx] at h3
  have k : Frame' (fun b => b = g) w (w.setCell ⟨g, t * 2 + 1, none⟩ (.int .i64 y)) := Frame'.setCell (p := ⟨g, t * 2 + 1, none⟩) (Frame'.refl (fun b => b = g) w) (.inl rfl) _
  refine ⟨cs.set t (u, (m, y)), by rw [← e, List.map_set], by rw [List.length_set, hn]; exact h3, fun c hc => ?_⟩
  rcases List.mem_or_eq_of_mem_set hc with hc | rfl
  · exact ⟨(h2 c hc).1.frame k (fun b _ hb e => hb (by rw [e]; rfl)), (h2 c hc).2⟩
  · exact ⟨(h2 _ (List.mem_of_getElem? hx)).1.frame k (fun b _ hb e => hb (by rw [e]; rfl)), hy⟩

theorem cells_ins (cs : List (Value × Row)) (p : Nat) (u : Value) (m : List Int) (y : Int) :
    (cs.flatMap cell2).take (p * 2) ++ ([u, .int .i64 y] ++ (cs.flatMap cell2).drop (p * 2)) = (cs.take p ++ (u, (m, y)) :: cs.drop p).flatMap cell2 := by
  rw [take_cell2, drop_cell2, List.flatMap_append, List.flatMap_cons]
  rfl
theorem put_end {w w1 w2 w3 : World} {g B n c2 : Nat} {c k y : Int} {v v3 : Value} {l : List Row} {ms : List Int} {A2 : Option Addr} {o : Obj} {cs : List (Value × Row)} (hgB : g < B) (hB1 : B ≤ w1.heap.size) (hbw : Below w.heap.size w w1) (hb2 : Below w1.heap.size w1 w2)
    (hcs : cs.map (·.2) = l) (hmk : ∀ x ∈ cs, OMarks w1 B v.ownBlock x.1 x.2.1 ∧ I64 x.2.2) (hol : ∀ k, v.ownBlock = some k → B ≤ k ∧ k < w1.heap.size) (hy : I64 y)
    (hr2 : RInts w2 A2 n c2 ms) (hf2 : 0 < n → ∃ b, A2 = some ⟨b, 0, none⟩ ∧ w1.heap.size ≤ b ∧ ∀ i, i < n → w2.frozen? ⟨b, 0 + i, none⟩ = false)
    (hown3 : w3.ownsRow B 45 2 v3 (l.length + 1) ((cs.flatMap cell2).take (plS l ms * 2) ++ ([.slice A2 n c2, .int .i64 y] ++ (cs.flatMap cell2).drop (plS l ms * 2))))
    (hgr3 : (w2.alloc o).grownBy w3 v.ownBlock) (hat3 : v3.ownBlock = v.ownBlock ∨ ∃ g, v3.ownBlock = some g ∧ (w2.alloc o).heap.size ≤ g)
    (hP3 : Has w3 g 24 #[.int .i64 c, .int .u8 k, v]) (hput : putS l ms y = l.take (plS l ms) ++ (ms, y) :: l.drop (plS l ms)) :
    PutPost w g B c k v (putS l ms y) v3 (w3.setCell ⟨g, 2, none⟩ v3) := by
  have hba : Below w2.heap.size w2 (w2.alloc o) := (Below.refl _ _).alloc (Nat.le_refl _) o
  have k1 : Frame' (fun _ => False) w1 (w2.alloc o) := (Frame'.of_below hb2).trans (Frame'.of_below (S := fun _ => False) (Below_trans' (Below.refl _ _) (Nat.le_refl _) hba) |>.mono (fun _ _ h => h))
  have k3 := Frame'.of_grown hgr3
  have k4 : Frame' (fun b => b = g) w3 (w3.setCell ⟨g, 2, none⟩ v3) := Frame'.setCell (p := ⟨g, 2, none⟩) (Frame'.refl (fun b => b = g) w3) (.inl rfl) v3
  have hz2 := hb2.size
  have hother : ∀ b, b < (w2.alloc o).heap.size → some b = v3.ownBlock → some b = v.ownBlock := fun b hb e => by
    rcases hat3 with e2 | ⟨g', e2, hg'⟩
    · rw [e, e2]
    · rw [e2] at e; cases e; omega
  have keep : ∀ u xs, OMarks (w2.alloc o) B v.ownBlock u xs → OMarks (w3.setCell ⟨g, 2, none⟩ v3) B v3.ownBlock u xs := fun u xs h => by
    have h1 := h.frame k3 (fun b _ hb e => hb e)
    have h2 : OMarks w3 B v3.ownBlock u xs := by
      obtain ⟨A, n', c', e, r, f⟩ := h
      obtain ⟨A', n'', c'', e', r', f'⟩ := h1
      rw [e] at e'
      cases e'
      refine ⟨A, n', c', e, r', fun hn => ?_⟩
      obtain ⟨b, off, e1, e2, e3, e4⟩ := f hn
      obtain ⟨b', off', e1', _, _, e4'⟩ := f' hn
      rw [e1] at e1'
      cases e1'
      obtain ⟨b'', off'', e1'', hc⟩ := r.2.2.2.2 hn
      rw [e1] at e1''
      cases e1''
      exact ⟨b, off, e1, e2, fun e5 => e3 (hother b (World.block_lt_of_cell? _ _ (hc 0 hn)) e5), e4'⟩
    exact h2.frame k4 (fun b hb _ e => by omega)
  refine ⟨hP3.put 2 v3, ⟨cs.take (plS l ms) ++ (.slice A2 n c2, (ms, y)) :: cs.drop (plS l ms), ?_, ?_, ?_⟩, ?_⟩
  · rw [hput, ← hcs, List.map_append, List.map_cons, List.map_take, List.map_drop]
  · rw [← cells_ins]
    have hl : (putS l ms y).length = l.length + 1 := by rw [hput]; have := plS_le l ms; simp; omega
    rw [hl]
    exact owns_frame hown3 k4 (fun b hb e => by
      rcases hat3 with e2 | ⟨g', e2, hg'⟩
      · have := (hol b (by rw [← e2]; exact hb)).1; omega
      · rw [e2] at hb; cases hb; simp at hg'; omega)
  · intro x hx
    have hin : x = (.slice A2 n c2, (ms, y)) ∨ x ∈ cs := by
      rcases List.mem_append.1 hx with h | h
      · exact .inr (List.mem_of_mem_take h)
      · rcases List.mem_cons.1 h with h | h
        · exact .inl h
        · exact .inr (List.mem_of_mem_drop h)
    rcases hin with rfl | hin
    · refine ⟨keep _ _ ?_, hy⟩
      have : OMarks w2 B v.ownBlock (.slice A2 n c2) ms := ⟨A2, n, c2, rfl, hr2, fun hn => by
        obtain ⟨b, e, hb, hz⟩ := hf2 hn
        exact ⟨b, 0, e, by omega, fun e => by have := (hol b e.symm).2; omega, hz⟩⟩
      exact this.frame (Frame'.of_below (S := fun _ => False) hba) (fun _ _ _ h => h)
    · exact ⟨keep _ _ ((hmk x hin).1.frame k1 (fun _ _ _ h => h)), (hmk x hin).2⟩
  · have f1 : Frame' (fun b => b = g ∨ some b = v.ownBlock) w (w2.alloc o) := (Frame'.of_below hbw).trans ((Frame'.of_below hb2).trans (Frame'.of_below hba))
    exact (f1.trans (k3.mono fun b _ h => .inr h)).trans (k4.mono fun b _ h => .inl h)

set_option maxRecDepth 100000 in
set_option maxHeartbeats 2000000 in
theorem put_any (c k : Int) (v : Value) (l : List Row) (g B : Nat) (A : Option Addr) (n cp : Nat) (ms : List Int) (y : Int) (w : World) (hP : Has w g 24 #[.int .i64 c, .int .u8 k, v]) (hO : ORows w B v l) (hgB : g < B) (hB : B ≤ w.heap.size)
    (hasc : Asc l) (hll : l.length ≤ 1000) (hm : RInts w A n cp ms) (hn : n ≤ 1000000) (hy : I64 y) (hz : ∀ z, l[plS l ms]? = some (ms, z) → I64 (z + y)) :
    Calls Tryz.prog 63 #[.pointer (some ⟨g, 0, none⟩), .slice A n cp, .int .i64 y] w fun e w' => e = .returned (.tuple #[]) ∧ ∃ v', PutPost w g B c k v (putS l ms y) v' w' := by
  obtain ⟨A1, n1, c1, rfl⟩ : ∃ A1 n1 c1, v = .slice A1 n1 c1 := by
    rcases hO.slice with ⟨e, _⟩ | ⟨g', cap, cur, e, _⟩
    · exact ⟨none, 0, 0, e⟩
    · exact ⟨_, _, _, e⟩
  have hrow := hO.rows
  have hl1 := hrow.len
  have p0 : w.cell? ⟨g, 0, none⟩ = some (.int .i64 c) := hP.cell 0
  have p1 : w.cell? ⟨g, 1, none⟩ = some (.int .u8 k) := hP.cell 1
  have p2 : w.cell? ⟨g, 2, none⟩ = some (.slice A1 n1 c1) := hP.cell 2
  have hpl := plS_le l ms
  have Hasc := hide hasc
  have Hz := hide hz
  clear hasc hz
  go_enter Tryz.func63, Tryz.ntmps63
  go_wp2_with fail
  refine (place9_any c k A1 n1 c1 l A n cp ms w hrow hm (by omega) Hasc.out).mono ?_
  rintro e w1 ⟨rfl, hbw⟩
  have hP1 := hP.below hbw hP.lt
  have hO1 := hO.below hbw
  have hm1 := hm.below hbw
  have hB1 : B ≤ w1.heap.size := Nat.le_trans hB hbw.size
  have p2 : w1.cell? ⟨g, 2, none⟩ = some (.slice A1 n1 c1) := hP1.cell 2
  clear p0 p1
  cases hf : foundS l ms with
  | true =>
    obtain ⟨z, hat⟩ := foundS_true hf
    have hput := hide (putS_is (y := y) hat)
    have hI := Hz.out z hat
    have hlt := (List.getElem?_eq_some_iff.1 hat).1
    obtain ⟨gr, rfl, hgr⟩ : ∃ gr, A1 = some ⟨gr, 0, none⟩ ∧ B ≤ gr := by
      rcases hO1.slice with ⟨e, e2⟩ | ⟨g', cap, cur, e, hb, _⟩
      · rw [e2] at hlt; simp at hlt
      · cases e; exact ⟨g', rfl, hb⟩
    obtain ⟨b, off, Am, nm, cm, ms', y', eA, hc0, hm0, hc1, hd, hat', hy'⟩ := hO1.rows.step (k := plS l ms) (by omega)
    cases eA
    have hat2 := hat'.out
    rw [hat] at hat2
    cases hat2
    have hfr : w1.frozen? ⟨gr, plS l ms * 2 + 1, none⟩ = false := by
      obtain ⟨cs, e, h1, _⟩ := hO1
      rw [hl1] at h1
      exact h1.frozenAt _
    rw [Nat.zero_add] at hc1
    have hOs := hO1.setMany hl1 hat hI
    have hPs := hP1.far (p := ⟨gr, plS l ms * 2 + 1, none⟩) (by show g ≠ gr; omega) (.int .i64 (z + y))
    have hFs := Frame'.setCell (p := ⟨gr, plS l ms * 2 + 1, none⟩) (Frame'.of_below (S := fun b => b = g ∨ some b = some gr) hbw) (.inl (.inr rfl)) (.int .i64 (z + y))
    rw [← hput.out] at hOs
    have hplt : (plS l ms : Int) < (n1 : Int) := by omega
    have hsum : IntKind.i64.wrap (z + y) = z + y := IntWalk.i64_in _ ⟨hI.1, hI.2⟩
    generalize plS l ms = pl at *
    clear hput hat Hz Hasc hf hd hat'
    go_wp2
    refine bodyPost_ret (results_none rfl _ _ _) rfl ?_
    exact ⟨rfl, _, hPs, hOs, hFs⟩
  | false =>
    have hput := hide (putS_new (y := y) (foundS_false hf))
    obtain ⟨cs, hcs, hown, hmk⟩ := hO1
    have Hcs := hide hcs
    have Hmk := hide hmk
    clear hcs hmk hf Hz Hasc
    have hgl := hP1.lt
    have hm1d : RInts w1.drew A n cp ms := hm1
    have hone := hide (one_cell2 (cs := cs) fun i x hx => by
      obtain ⟨A', n', c', e, _⟩ := (Hmk.out x (List.mem_of_getElem? hx)).1
      exact ⟨A', n', c', e⟩)
    have hol := hown.lt
    go_wp2_with fail
    have hP1g := hP1.lt
    have hneg : ¬ (some g = (Value.slice A1 n1 c1).ownBlock) := fun e => by have := (hol g e.symm).1; omega
    have hll' : l.length ≤ 1000000 := by omega
    go_region_with (first
      | (go_at_call 50; refine (cloneI_any A n cp ms _ hm1d hn).mono ?_; rintro e w2 ⟨A2, c2, rfl, hr2, hf2, hb2⟩; have hb2' := undrew hb2; have hown2 := owns_frame hown (Frame'.of_below (S := fun _ => False) hb2') (fun _ _ h => h); have hP2 := hP1.below hb2' hP1g; have p2' : w2.cell? ⟨g, 2, none⟩ = some (.slice A1 n1 c1) := hP2.cell 2; have hne2 : (Value.slice A1 n1 c1).ownBlock ≠ some w2.heap.size := (fun e => by have h1 := (hol _ e).2; have h2 := hb2'.size; omega); have hB3 : B ≤ w2.heap.size := Nat.le_trans hB1 hb2'.size)
      | (go_at_call 98; refine (insert_any (.slice A1 n1 c1) B l.length (plS l ms) _ (cs.flatMap cell2) (.slice A2 n c2) y _ (hown2.alloc _) hll' hpl (Nat.le_trans hB3 (by simp)) (Has.new _ _ _) rfl hne2 hone.out).mono ?_; rintro e w3 ⟨v3, rfl, hown3, hgr3, hat3⟩; obtain ⟨A3, n3, c3, rfl⟩ := owns_slice hown3; have hP3 := (Frame'.of_grown hgr3).has (hP2.alloc _) hneg; have q2 : w3.cell? ⟨g, 2, none⟩ = some (.slice A1 n1 c1) := hP3.cell 2; have qf := hP3.free 2))
    all_goals
      refine bodyPost_end (results_none rfl _ _ _) rfl ?_
      exact ⟨rfl, _, put_end hgB hB1 hbw hb2' Hcs.out Hmk.out hol hy hr2 hf2 hown3 hgr3 hat3 hP3 hput.out⟩
end Go.Proofs.YthkkadmgcicedaaGreat
