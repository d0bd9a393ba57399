/-
  The reference's Great.
  Slices of profiles; right, great, and the reference's Great of a ballot.
  law09.great: one of the profiles is too great.
  Laws for the steps of a region that draws: a new profile variable; a profile stored.
-/
import Derived.Test.YtoeajgjpakilgaaGreatW9p
import Derived.Test.YtoeajgjpakilgaaGreatW9z
namespace Go.Proofs.YtoeajgjpakilgaaGreat
open Go.RowKit Go.Proofs
attribute [local go_sem] cell?_more cell?_alloc_some cell?_setCell_far frozen?_alloc_some frozen?_more
/-- A profile: its candidates, its kind, its rows. -/
abbrev Prof := Int × Int × List Row
/-- The slice value (A, n, c) reads as the profiles L in the world w (an element takes three cells). -/
def RProfs (w : World) (A : Option Addr) (n c : Nat) (L : List Prof) : Prop :=
  L.length = n ∧ n ≤ c ∧ c ≤ 9223372036854775807 ∧
    (0 < n → ∃ b off, A = some ⟨b, off, none⟩ ∧ ∀ i, i < n → ∃ Ap np cp, w.cell? ⟨b, off + i * 3, none⟩ = some (.int .i64 (L.getD i (0, 0, [])).1) ∧
      w.cell? ⟨b, off + i * 3 + 1, none⟩ = some (.int .u8 (L.getD i (0, 0, [])).2.1) ∧ w.cell? ⟨b, off + i * 3 + 2, none⟩ = some (.slice Ap np cp) ∧ RRows w Ap np cp (L.getD i (0, 0, [])).2.2)
namespace RProfs
variable {w w' : World} {A : Option Addr} {n c k : Nat} {L : List Prof}
theorem len (h : RProfs w A n c L) : L.length = n := h.1
theorem le (h : RProfs w A n c L) : n ≤ 9223372036854775807 := Nat.le_trans h.2.1 h.2.2.1
theorem step (h : RProfs w A n c L) (hk : k < n) : ∃ b off Ap np cp c1 k1 l1, A = some ⟨b, off, none⟩ ∧ w.cell? ⟨b, off + k * 3, none⟩ = some (.int .i64 c1) ∧ w.cell? ⟨b, off + k * 3 + 1, none⟩ = some (.int .u8 k1) ∧ w.cell? ⟨b, off + k * 3 + 2, none⟩ = some (.slice Ap np cp) ∧ RRows w Ap np cp l1 ∧
    Hid (L[k]? = some (c1, k1, l1)) ∧ Hid (L.drop k = (c1, k1, l1) :: L.drop (k + 1)) := by
  have hl : k < L.length := by have := h.1; omega
  obtain ⟨b, off, e, hc⟩ := h.2.2.2 (by omega)
  obtain ⟨Ap, np, cp, h1, h2, h3, h4⟩ := hc k hk
  have hg : L.getD k (0, 0, []) = L[k] := by simp [List.getD, hl]
  refine ⟨b, off, Ap, np, cp, (L.getD k (0, 0, [])).1, (L.getD k (0, 0, [])).2.1, (L.getD k (0, 0, [])).2.2, e, h1, h2, h3, h4, ?_, ?_⟩
  · rw [hg]; exact List.getElem?_eq_getElem hl
  · exact drop_step hl (0, 0, [])
theorem below (h : RProfs w A n c L) (hb : Below w.heap.size w w') : RProfs w' A n c L :=
  ⟨h.1, h.2.1, h.2.2.1, fun hn => let ⟨b, off, e, hc⟩ := h.2.2.2 hn; ⟨b, off, e, fun i hi => let ⟨Am, nm, cm, h1, h2, h3, h4⟩ := hc i hi; ⟨Am, nm, cm, keep_cell hb h1, keep_cell hb h2, keep_cell hb h3, h4.below hb⟩⟩⟩
end RProfs
/-- Two profiles side by side. -/
theorem profs2 {w : World} {g : Nat} {c1 k1 : Int} {A1 : Option Addr} {n1 p1 : Nat} {l1 : List Row} {c2 k2 : Int} {A2 : Option Addr} {n2 p2 : Nat} {l2 : List Row}
    (hg : Has w g 27 #[.int .i64 c1, .int .u8 k1, .slice A1 n1 p1, .int .i64 c2, .int .u8 k2, .slice A2 n2 p2]) (h1 : RRows w A1 n1 p1 l1) (h2 : RRows w A2 n2 p2 l2) : RProfs w (some ⟨g, 0, none⟩) 2 2 [(c1, k1, l1), (c2, k2, l2)] := by
  refine ⟨rfl, Nat.le_refl _, by omega, fun _ => ⟨g, 0, rfl, fun i hi => ?_⟩⟩
  have : i = 0 ∨ i = 1 := by omega
  rcases this with rfl | rfl
  · exact ⟨_, _, _, hg.cell 0, hg.cell 1, hg.cell 2, h1⟩
  · exact ⟨_, _, _, hg.cell 3, hg.cell 4, hg.cell 5, h2⟩

def bgreatS (ms : List Int) : Bool := decide (60 < ms.length)
theorem bgreat_any (k : Int) (A : Option Addr) (n c : Nat) (ms : List Int) (w : World) (h : RInts w A n c ms) :
    Calls Tryz.prog 5 #[.agg #[.int .u8 k, .slice A n c]] w fun e w' => e = .returned (.bool (bgreatS ms)) ∧ Below w.heap.size w w' := by
  have hl := hide h.len
  have hle := h.le
  have hb0 : Below w.heap.size w (w.alloc (.cells #[.int .u8 k, .slice A n c] 29)) := (Below.refl _ _).alloc (Nat.le_refl _) _
  go_enter Tryz.func5, Tryz.ntmps5
  go_wp2
  go_ret
  exact ⟨ret_b (by unfold bgreatS; rw [hl.out]; exact decide_eq_decide.2 (by omega)), hb0⟩

theorem rcheck_val {E : Int} (c k : Int) (A : Option Addr) (n cp : Nat) (l : List Row) (w : World) (h : RRows w A n cp l) (hE : checkS c k l = E) :
    Calls Tryz.prog 50 #[.agg #[.int .i64 c, .int .u8 k, .slice A n cp]] w fun e w' => e = .returned (.int .i64 E) ∧ Below w.heap.size w w' := hE ▸ rcheck_any c k A n cp l w h

/-- All are valid, and of the first one's kind. -/
def rightB (c k : Int) (l : List Row) (L : List Prof) : Bool := decide (checkS c k l = 0) && L.all fun q => decide (checkS q.1 q.2.1 q.2.2 = 0 ∧ q.1 = c ∧ q.2.1 = k)

end Go.Proofs.YtoeajgjpakilgaaGreat

namespace Go.Proofs.YtoeajgjpakilgaaGreat
open Go.RowKit Go.Proofs
attribute [local go_sem] cell?_more cell?_alloc_some cell?_setCell_far frozen?_alloc_some frozen?_more
def great9 (L : List Prof) : Bool := L.any fun q => greatS q.2.2
end Go.Proofs.YtoeajgjpakilgaaGreat

namespace Go.Proofs.YtoeajgjpakilgaaGreat
open Go.RowKit Go.Proofs
attribute [local go_sem] cell?_more cell?_alloc_some cell?_setCell_far frozen?_alloc_some frozen?_more
section
variable {ops : Array Oper} {o : Oper} {a : Act} {w : World} {Q : Exit → Act → World → Prop} {K : Act → World → Prop} {E : Prop}
/-- A new variable. -/
theorem stepNew {d : Nat} (hd : o.dst = some d) (hg : o.guard = none) (ho : o.op = .alloc 27)
    (hK : ∀ g w', Has w' g 27 #[.int .i64 0, .int .u8 0, .slice none 0 0] → Below w.heap.size w w' → w.heap.size ≤ g → K (a.put (some d) (.pointer (some ⟨g, 0, none⟩))) w') : if Region.wanted o (yielded ops a.tmps) = true then Oper.wp Tryz.prog o a w K Q else E := by
  have hw : Region.wanted o (yielded ops a.tmps) = true := by simp [Region.wanted, hg]
  rw [if_pos hw]
  have h1 := hK w.heap.size _ (Has.new w 27 #[.int .i64 0, .int .u8 0, .slice none 0 0]) ((Below.refl _ _).alloc (Nat.le_refl _) _) (Nat.le_refl _)
  unfold Oper.wp execOp
  simp only [ho]
  go_simp
  exact h1
/-- A profile is stored into a variable. -/
theorem stepPut {p x : Operand} (hd : o.dst = none) (hg : o.guard = none) (ho : o.op = .store 27 p x) {g : Nat} {c k : Int} {A : Option Addr} {n cp : Nat} {x0 y0 z0 : Value} (hp : a.eval p = .pointer (some ⟨g, 0, none⟩)) (hx : a.eval x = .agg #[.int .i64 c, .int .u8 k, .slice A n cp])
    (hG : Has w g 27 #[x0, y0, z0]) (hK : ∀ w', Has w' g 27 #[.int .i64 c, .int .u8 k, .slice A n cp] → Frame' (fun b => b = g) w w' → K a w') : if Region.wanted o (yielded ops a.tmps) = true then Oper.wp Tryz.prog o a w K Q else E := by
  have hw : Region.wanted o (yielded ops a.tmps) = true := by simp [Region.wanted, hg]
  rw [if_pos hw]
  have h1 := hK _ (put3 (x' := .int .i64 c) (y' := .int .u8 k) (z' := .slice A n cp) hG) (frame3 w g (.int .i64 c) (.int .u8 k) (.slice A n cp))
  have e0 : w.cell? ⟨g, 0, none⟩ = some x0 := hG.cell 0
  have e1 : w.cell? ⟨g, 1, none⟩ = some y0 := hG.cell 1
  have e2 : w.cell? ⟨g, 2, none⟩ = some z0 := hG.cell 2
  have f0 := hG.free 0
  have f1 := hG.free 1
  have f2 := hG.free 2
  unfold Oper.wp execOp
  simp only [ho, hp, hx]
  go_simp
  exact h1
end
section
variable {o : Oper} {a : Act} {w : World} {Q : Exit → Act → World → Prop} {K : Act → World → Prop}
/-- A profile is read. -/
theorem operLoad (hg : o.guard = none) {p : Operand} (ho : o.op = .load 27 p) {g : Nat} {c k : Int} {A : Option Addr} {n cp : Nat} (hp : a.eval p = .pointer (some ⟨g, 0, none⟩))
    (e0 : w.cell? ⟨g, 0, none⟩ = some (.int .i64 c)) (e1 : w.cell? ⟨g, 1, none⟩ = some (.int .u8 k)) (e2 : w.cell? ⟨g, 2, none⟩ = some (.slice A n cp)) (hK : K (a.put o.dst (.agg #[.int .i64 c, .int .u8 k, .slice A n cp])) w) : Oper.wp Tryz.prog o a w K Q := by
  unfold Oper.wp execOp
  simp only [ho, hp]
  go_simp
  exact hK
theorem operNew {d : Nat} (hd : o.dst = some d) (hg : o.guard = none) (ho : o.op = .alloc 27)
    (hK : ∀ g w', Has w' g 27 #[.int .i64 0, .int .u8 0, .slice none 0 0] → Below w.heap.size w w' → w.heap.size ≤ g → K (a.put (some d) (.pointer (some ⟨g, 0, none⟩))) w') : Oper.wp Tryz.prog o a w K Q := by
  have h := stepNew (ops := #[]) (E := True) (Q := Q) hd hg ho hK
  rwa [if_pos (by simp [Region.wanted, hg])] at h
theorem operPut {p x : Operand} (hd : o.dst = none) (hg : o.guard = none) (ho : o.op = .store 27 p x) {g : Nat} {c k : Int} {A : Option Addr} {n cp : Nat} {x0 y0 z0 : Value} (hp : a.eval p = .pointer (some ⟨g, 0, none⟩)) (hx : a.eval x = .agg #[.int .i64 c, .int .u8 k, .slice A n cp])
    (hG : Has w g 27 #[x0, y0, z0]) (hK : ∀ w', Has w' g 27 #[.int .i64 c, .int .u8 k, .slice A n cp] → Frame' (fun b => b = g) w w' → K a w') : Oper.wp Tryz.prog o a w K Q := by
  have h := stepPut (ops := #[]) (E := True) (Q := Q) hd hg ho hp hx hG hK
  rwa [if_pos (by simp [Region.wanted, hg])] at h
end
/-- What a slice of rows of one's own is. -/
theorem ORows.isSlice {w : World} {B : Nat} {v : Value} {l : List Row} (h : ORows w B v l) : ∃ A n c, v = .slice A n c := by
  rcases h.slice with ⟨e, _⟩ | ⟨g', cap, cur, e, _⟩
  · exact ⟨none, 0, 0, e⟩
  · exact ⟨_, _, _, e⟩
/-- From T on, only blocks below B or made after T have changed. -/
abbrev Kept (T : World) (B : Nat) (w : World) : Prop := Frame' (fun b => b < B ∨ T.heap.size ≤ b) T w
theorem ORows.kept {w : World} {B : Nat} {v : Value} {l : List Row} (h : ORows w B v l) : ∃ T B', B' = B ∧ ORows T B' v l ∧ Kept T B' w := ⟨w, B, rfl, h, Frame'.refl _ _⟩
theorem ORows.now {T w : World} {B : Nat} {A : Option Addr} {n c : Nat} {l : List Row} (h : ORows T B (.slice A n c) l) (k : Kept T B w) : RRows w A n c l :=
  (h.frame k (fun b h1 h2 => by rintro (e | e) <;> omega)).rows
theorem Kept.put {T w w' : World} {B g : Nat} (k : Kept T B w) (f : Frame' (fun b => b = g) w w') (hg : g < B ∨ T.heap.size ≤ g) : Kept T B w' :=
  k.trans (f.mono fun b _ e => by rw [e]; exact hg)
theorem Below.putAt {B g : Nat} {w0 w w' : World} (h : Below B w0 w) (hB : B ≤ w.heap.size) (f : Frame' (fun b => b = g) w w') (hg : B ≤ g) : Below B w0 w' :=
  Frame'.below h f (fun b e => by rw [e]; exact hg) hB
end Go.Proofs.YtoeajgjpakilgaaGreat
