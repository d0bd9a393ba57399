/-
  Laws for the steps of a region that draws: a new profile variable; a profile stored.
-/
import Derived.Test.YtleniljhacnikaaL9d0
namespace Go.Proofs.Ytleniljhacnikaa
open Go.RowKit Go.Proofs
attribute [local go_sem] cell?_more cell?_alloc_some cell?_setCell_far frozen?_alloc_some frozen?_more

section
variable {ops : Array Oper} {o : Oper} {a : Act} {w : World} {Q : Exit → Act → World → Prop} {K : Act → World → Prop} {E : Prop}
/-- A new variable. -/
theorem stepNew {d : Nat} (hd : o.dst = some d) (hg : o.guard = none) (ho : o.op = .alloc 24)
    (hK : ∀ g w', Has w' g 24 #[.int .i64 0, .int .u8 0, .slice none 0 0] → Below w.heap.size w w' → w.heap.size ≤ g → K (a.put (some d) (.pointer (some ⟨g, 0, none⟩))) w') : if Region.wanted o (yielded ops a.tmps) = true then Oper.wp Try.prog o a w K Q else E := by
  have hw : Region.wanted o (yielded ops a.tmps) = true := by simp [Region.wanted, hg]
  rw [if_pos hw]
  have h1 := hK w.heap.size _ (Has.new w 24 #[.int .i64 0, .int .u8 0, .slice none 0 0]) ((Below.refl _ _).alloc (Nat.le_refl _) _) (Nat.le_refl _)
  unfold Oper.wp execOp
  simp only [ho]
  go_simp
  exact h1
/-- A profile is stored into a variable. -/
theorem stepPut {p x : Operand} (hd : o.dst = none) (hg : o.guard = none) (ho : o.op = .store 24 p x) {g : Nat} {c k : Int} {A : Option Addr} {n cp : Nat} {x0 y0 z0 : Value} (hp : a.eval p = .pointer (some ⟨g, 0, none⟩)) (hx : a.eval x = .agg #[.int .i64 c, .int .u8 k, .slice A n cp])
    (hG : Has w g 24 #[x0, y0, z0]) (hK : ∀ w', Has w' g 24 #[.int .i64 c, .int .u8 k, .slice A n cp] → Frame' (fun b => b = g) w w' → K a w') : if Region.wanted o (yielded ops a.tmps) = true then Oper.wp Try.prog o a w K Q else E := by
  have hw : Region.wanted o (yielded ops a.tmps) = true := by simp [Region.wanted, hg]
  rw [if_pos hw]
  have h1 := hK _ (put3 (x' := .int .i64 c) (y' := .int .u8 k) (z' := .slice A n cp) hG) (frame3 w g (.int .i64 c) (.int .u8 k) (.slice A n cp))
  have e0 : w.cell? ⟨g, 0, none⟩ = some x0 := hG.cell 0
  have e1 : w.cell? ⟨g, 1, none⟩ = some y0 := hG.cell 1
  have e2 : w.cell? ⟨g, 2, none⟩ = some z0 := hG.cell 2
  have f0 := hG.free 0
  have f1 := hG.free 1
  have f2 := hG.free 2
  unfold Oper.wp execOp
  simp only [ho, hp, hx]
  go_simp
  exact h1
end
section
variable {o : Oper} {a : Act} {w : World} {Q : Exit → Act → World → Prop} {K : Act → World → Prop}
/-- A profile is read. -/
theorem operLoad (hg : o.guard = none) {p : Operand} (ho : o.op = .load 24 p) {g : Nat} {c k : Int} {A : Option Addr} {n cp : Nat} (hp : a.eval p = .pointer (some ⟨g, 0, none⟩))
    (e0 : w.cell? ⟨g, 0, none⟩ = some (.int .i64 c)) (e1 : w.cell? ⟨g, 1, none⟩ = some (.int .u8 k)) (e2 : w.cell? ⟨g, 2, none⟩ = some (.slice A n cp)) (hK : K (a.put o.dst (.agg #[.int .i64 c, .int .u8 k, .slice A n cp])) w) : Oper.wp Try.prog o a w K Q := by
  unfold Oper.wp execOp
  simp only [ho, hp]
  go_simp
  exact hK
theorem operNew {d : Nat} (hd : o.dst = some d) (hg : o.guard = none) (ho : o.op = .alloc 24)
    (hK : ∀ g w', Has w' g 24 #[.int .i64 0, .int .u8 0, .slice none 0 0] → Below w.heap.size w w' → w.heap.size ≤ g → K (a.put (some d) (.pointer (some ⟨g, 0, none⟩))) w') : Oper.wp Try.prog o a w K Q := by
  have h := stepNew (ops := #[]) (E := True) (Q := Q) hd hg ho hK
  rwa [if_pos (by simp [Region.wanted, hg])] at h
theorem operPut {p x : Operand} (hd : o.dst = none) (hg : o.guard = none) (ho : o.op = .store 24 p x) {g : Nat} {c k : Int} {A : Option Addr} {n cp : Nat} {x0 y0 z0 : Value} (hp : a.eval p = .pointer (some ⟨g, 0, none⟩)) (hx : a.eval x = .agg #[.int .i64 c, .int .u8 k, .slice A n cp])
    (hG : Has w g 24 #[x0, y0, z0]) (hK : ∀ w', Has w' g 24 #[.int .i64 c, .int .u8 k, .slice A n cp] → Frame' (fun b => b = g) w w' → K a w') : Oper.wp Try.prog o a w K Q := by
  have h := stepPut (ops := #[]) (E := True) (Q := Q) hd hg ho hp hx hG hK
  rwa [if_pos (by simp [Region.wanted, hg])] at h
/-- A function of the program is called, its body not empty. -/
theorem operCall {P : Program} {f : FuncId} {x : Operand} {ats : Array TypeId} (ho : o.op = .call { callee := .value (.func f), args := #[x], argTypes := ats }) {v : Value} (hx : a.eval x = v)
    (hf : ∀ args w, (callFunc f args).run P w = .ok (.enter f args) w) (h : Calls P f #[v] w fun e w' => ∃ u, e = .returned u ∧ K (a.put o.dst u) w') : Oper.wp P o a w K Q := by
  have e : execOp a.eval o = callFunc f #[v] := by
    obtain ⟨dst, op, ty, pos, after, guard⟩ := o
    simp only at ho
    subst ho
    rw [← hx, execOp_call_go]
    simp
  unfold Oper.wp
  rw [e, hf, Oper.upon_enter]
  refine h.mono ?_
  rintro e' w' ⟨u, rfl, hK⟩
  exact hK
theorem call_in {P : Program} {f : FuncId} {fn : Func} (hf : P.funcs[f]? = some fn) (hname : (fn.name == "runtime.NumGoroutine") = false) (hb : fn.body.isNone = false) (args : Array Value) (w : World) :
    (callFunc f args).run P w = .ok (.enter f args) w := by
  have h1 : fn.name ≠ "runtime.NumGoroutine" := by simpa using hname
  have h2 : fn.body ≠ none := by intro h; rw [h] at hb; cases hb
  simp [callFunc, hf, h1, h2]
end
/-- What a slice of rows of one's own is. -/
theorem ORows.isSlice {w : World} {B : Nat} {v : Value} {l : List Row} (h : ORows w B v l) : ∃ A n c, v = .slice A n c := by
  rcases h.slice with ⟨e, _⟩ | ⟨g', cap, cur, e, _⟩
  · exact ⟨none, 0, 0, e⟩
  · exact ⟨_, _, _, e⟩
/-- From T on, only blocks below B or made after T have changed. -/
abbrev Kept (T : World) (B : Nat) (w : World) : Prop := Frame' (fun b => b < B ∨ T.heap.size ≤ b) T w
theorem ORows.kept {w : World} {B : Nat} {v : Value} {l : List Row} (h : ORows w B v l) : ∃ T B', B' = B ∧ ORows T B' v l ∧ Kept T B' w := ⟨w, B, rfl, h, Frame'.refl _ _⟩
theorem ORows.now {T w : World} {B : Nat} {A : Option Addr} {n c : Nat} {l : List Row} (h : ORows T B (.slice A n c) l) (k : Kept T B w) : RRows w A n c l :=
  (h.frame k (fun b h1 h2 => by rintro (e | e) <;> omega)).rows
theorem Kept.put {T w w' : World} {B g : Nat} (k : Kept T B w) (f : Frame' (fun b => b = g) w w') (hg : g < B ∨ T.heap.size ≤ g) : Kept T B w' :=
  k.trans (f.mono fun b _ e => by rw [e]; exact hg)
theorem Below.putAt {B g : Nat} {w0 w w' : World} (h : Below B w0 w) (hB : B ≤ w.heap.size) (f : Frame' (fun b => b = g) w w') (hg : B ≤ g) : Below B w0 w' :=
  Frame'.below h f (fun b e => by rw [e]; exact hg) hB
end Go.Proofs.Ytleniljhacnikaa
