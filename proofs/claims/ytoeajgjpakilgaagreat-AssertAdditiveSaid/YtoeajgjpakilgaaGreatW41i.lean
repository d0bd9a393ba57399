/-
  The layer contest: names, lists of names.
  The layer contest: rules; Check.
  The layer contest: Check.
-/
import Derived.Test.YtoeajgjpakilgaaGreatW41a
import Derived.Test.YtoeajgjpakilgaaGreatMat
namespace Go.Proofs.YtoeajgjpakilgaaGreat
open Go.RowKit Go.Proofs Go.Shelf
attribute [local go_sem] cell?_more cell?_alloc_some cell?_setCell_far frozen?_alloc_some frozen?_more
/-- A byte that no name has. -/
def badC (c : Int) : Bool := decide (c < 33) || decide (126 < c)
def bytesI (s : ByteArray) : List Int := s.data.toList.map fun b => (b.toNat : Int)
/-- Is it a name? -/
def nmB (s : ByteArray) : Bool := decide (1 ≤ s.size) && decide (s.size ≤ 40) && !(bytesI s).any badC
def oddB (ss : List ByteArray) : Bool := ss.any fun s => !nmB s
/-- The slice value reads as the strings ss. -/
def RStrs (w : World) (A : Option Addr) (n c : Nat) (ss : List ByteArray) : Prop :=
  ss.length = n ∧ n ≤ c ∧ c ≤ 9223372036854775807 ∧ (0 < n → ∃ b off, A = some ⟨b, off, none⟩ ∧ ∀ i, i < n → ∃ s, ss[i]? = some s ∧ w.cell? ⟨b, off + i, none⟩ = some (.string s))
namespace RStrs
variable {w w' : World} {A : Option Addr} {n c k : Nat} {ss : List ByteArray}
theorem nil_ (w : World) : RStrs w none 0 0 [] := ⟨rfl, Nat.le_refl _, by omega, fun h => absurd h (by omega)⟩
theorem len (h : RStrs w A n c ss) : ss.length = n := h.1
theorem le (h : RStrs w A n c ss) : n ≤ 9223372036854775807 := Nat.le_trans h.2.1 h.2.2.1
theorem below (h : RStrs w A n c ss) (hb : Below w.heap.size w w') : RStrs w' A n c ss :=
  ⟨h.1, h.2.1, h.2.2.1, fun hn => let ⟨b, off, e, hc⟩ := h.2.2.2 hn; ⟨b, off, e, fun i hi => let ⟨s, h1, h2⟩ := hc i hi; ⟨s, h1, keep_cell hb h2⟩⟩⟩
theorem step (h : RStrs w A n c ss) (hk : k < n) : ∃ b off s, A = some ⟨b, off, none⟩ ∧ w.cell? ⟨b, off + k, none⟩ = some (.string s) ∧ Hid (ss.drop k = s :: ss.drop (k + 1)) ∧ Hid (ss[k]? = some s) := by
  obtain ⟨b, off, e, hc⟩ := h.2.2.2 (by omega)
  obtain ⟨s, h1, h2⟩ := hc k hk
  refine ⟨b, off, s, e, h2, ?_, h1⟩
  have hl : k < ss.length := by have := h.1; omega
  have hg : ss[k] = s := by rw [List.getElem?_eq_getElem hl] at h1; exact Option.some.inj h1
  unfold Hid
  rw [List.drop_eq_getElem_cons hl, hg]
theorem done (h : RStrs w A n c ss) (hk : ¬ k < n) : ss.drop k = [] := List.drop_eq_nil_of_le (by have := h.1; omega)
theorem take (h : RStrs w A n c ss) (hk : k ≤ n) : RStrs w A k c (ss.take k) := by
  refine ⟨by have := h.1; simp; omega, by have := h.2.1; omega, h.2.2.1, fun hn => ?_⟩
  obtain ⟨b, off, e, hc⟩ := h.2.2.2 (by omega)
  refine ⟨b, off, e, fun i hi => ?_⟩
  obtain ⟨s, h1, h2⟩ := hc i (by omega)
  exact ⟨s, by rw [List.getElem?_take_of_lt hi]; exact h1, h2⟩
theorem more (h : RStrs w A n c ss) (q : Ext) : RStrs (More w q) A n c ss := h.below (more_below w q)
end RStrs

theorem odd11_any (c : Int) (w : World) : Calls Tryz.prog 73 #[.int .u8 c] w fun e w' => e = .returned (.bool (badC c)) ∧ w = w' := by
  by_cases h : c < 33
  · have b1 : decide (c < 33) = true := by simpa using h
    have hr : Hid (badC c = true) := by unfold Hid badC; rw [b1]; rfl
    go_enter Tryz.func73, Tryz.ntmps73
    go_wp2
    go_ret
    exact ⟨ret_b hr.out.symm, rfl⟩
  · have b1 : decide (c < 33) = false := by simpa using h
    have hr : Hid (badC c = decide (126 < c)) := by unfold Hid badC; rw [b1]; rfl
    go_enter Tryz.func73, Tryz.ntmps73
    go_wp2
    go_ret
    exact ⟨ret_b hr.out.symm, rfl⟩

set_option maxRecDepth 100000 in
theorem idxB_any (g n c : Nat) (xs : List Int) (w : World) (hl : xs.length = n) (hn : n ≤ 1000000) (hc : ∀ i, i < n → ∃ x, xs[i]? = some x ∧ w.cell? ⟨g, i, none⟩ = some (.int .u8 x)) :
    Calls Tryz.prog 85 #[.slice (some ⟨g, 0, none⟩) n c, .func (.func 73) #[] #[]] w fun e w' => (∃ r, e = .returned (.int .i64 r) ∧ decide (0 ≤ r) = xs.any badC) ∧ w = w' := by
  have eg : ∀ args w, (callFunc 73 args).run Tryz.prog w = .ok (.enter 73 args) w := enters_of Tryz.func73 (by kernel_rfl) rfl
  have Hc := hide hc
  have Hl := hide hl
  clear hc hl
  go_enter Tryz.func85, Tryz.ntmps85
  go_wp2
  go_loopw [8] (fun i wr => ∃ k : Nat, k ≤ n ∧ i = .int .i64 k ∧ Hid ((xs.take k).any badC = false) ∧ w = wr) (fun i _ => n - (intOf i).toNat)
  case atStart => exact ⟨0, Nat.zero_le _, rfl, rfl, rfl⟩
  case round =>
    obtain ⟨k, hk, rfl, hp, rfl⟩ := hrel
    by_cases hlt : k < n
    · obtain ⟨x, hx, hcx⟩ := Hc.out k hlt
      have Hx := hide hx
      clear hx
      cases hb : badC x with
      | true =>
        have hr : Hid (xs.any badC = true) := List.any_eq_true.2 ⟨x, List.mem_of_getElem? Hx.out, hb⟩
        have ho := odd11_any x w
        rw [hb] at ho
        clear hb
        go_wp2_with (go_at_fn 73; refine ho.mono ?_; rintro e w' ⟨rfl, rfl⟩)
        go_ret
        exact ⟨⟨_, rfl, by rw [hr.out]; simp⟩, by trivial⟩
      | false =>
        have hr : Hid ((xs.take (k + 1)).any badC = false) := by unfold Hid; rw [take_succ_of Hx.out, List.any_append, hp.out]; simp [hb]
        have ho := odd11_any x w
        rw [hb] at ho
        clear hb
        go_wp2_with (go_at_fn 73; refine ho.mono ?_; rintro e w' ⟨rfl, rfl⟩)
        go_roundw
        case rel => exact ⟨k + 1, by omega, by go_num, hr, by trivial⟩
        case measure => simp [intOf] <;> omega
    · have hr : Hid (xs.any badC = false) := by
        have h1 := hp.out
        rw [List.take_of_length_le (by rw [Hl.out]; omega)] at h1
        exact h1
      go_wp2
      go_ret
      exact ⟨⟨-1, rfl, by rw [hr.out]; rfl⟩, rfl⟩
theorem conB_any (g n c : Nat) (xs : List Int) (w : World) (hl : xs.length = n) (hn : n ≤ 1000000) (hc : ∀ i, i < n → ∃ x, xs[i]? = some x ∧ w.cell? ⟨g, i, none⟩ = some (.int .u8 x)) :
    Calls Tryz.prog 74 #[.slice (some ⟨g, 0, none⟩) n c, .func (.func 73) #[] #[]] w fun e w' => e = .returned (.bool (xs.any badC)) ∧ w = w' := by
  have hi := idxB_any g n c xs w hl hn hc
  clear hc hl
  go_enter Tryz.func74, Tryz.ntmps74
  go_wp2_with fail
  refine hi.mono ?_
  rintro e w' ⟨⟨r, rfl, hr⟩, rfl⟩
  have Hr := hide hr
  clear hr
  go_wp2
  go_ret
  exact ⟨ret_b Hr.out, rfl⟩

theorem bytesI_len (s : ByteArray) : (bytesI s).length = s.size := by simp [bytesI]
theorem bytesI_get (s : ByteArray) {i : Nat} (h : i < s.size) : (bytesI s)[i]? = some ((s[i].toNat : Int)) := by
  unfold bytesI
  rw [List.getElem?_map, Array.getElem?_toList, Array.getElem?_eq_getElem (show i < s.data.size from h)]
  rfl
theorem emp_iff (s : ByteArray) : s.toList = [] ↔ s.size = 0 := by
  rw [ByteArray.toList_eq, ← List.length_eq_zero_iff, Array.length_toList]; rfl

set_option maxRecDepth 100000 in
theorem odd1_any (s : ByteArray) (w : World) : Calls Tryz.prog 72 #[.string s] w fun e w' => e = .returned (.bool (!nmB s)) ∧ Below w.heap.size w w' := by
  have hconv := fun W => run_bytes_of_string (P := Tryz.prog) W 9 117 5 s (by kernel_rfl) (by kernel_rfl) (by kernel_rfl)
  by_cases h0 : s.size = 0
  · have hr : Hid ((!nmB s) = true) := by unfold Hid nmB; rw [h0]; rfl
    have hE := (emp_iff s).2 h0
    go_enter Tryz.func72, Tryz.ntmps72
    go_wp2
    go_ret
    exact ⟨ret_b hr.out.symm, Below.refl _ _⟩
  · have hE := mt (emp_iff s).1 h0
    have hE2 : (s.toList == []) = false := by simp [hE]
    by_cases h40 : 40 < s.size
    · have hr : Hid ((!nmB s) = true) := by unfold Hid nmB; rw [decide_eq_false (show ¬ s.size ≤ 40 by omega)]; simp
      have b1 : (40 : Int) < (s.size : Int) := by omega
      clear h0
      go_enter Tryz.func72, Tryz.ntmps72
      go_wp2
      go_ret
      exact ⟨ret_b hr.out.symm, Below.refl _ _⟩
    · have hr : Hid ((!nmB s) = (bytesI s).any badC) := by unfold Hid nmB; rw [decide_eq_true (show 1 ≤ s.size by omega), decide_eq_true (show s.size ≤ 40 by omega)]; simp
      have b1 : ¬ (40 : Int) < (s.size : Int) := by omega
      have hcall : Hid (∀ cap : Nat, Calls Tryz.prog 74 #[.slice (some ⟨w.heap.size, 0, none⟩) s.size cap, .func (.func 73) #[] #[]] (w.drew.alloc (.cells (bytesRow s cap) 5 ((bytesRow s cap).size, (bytesRow s cap).size + 1))) fun e w' => e = .returned (.bool ((bytesI s).any badC)) ∧ (w.drew.alloc (.cells (bytesRow s cap) 5 ((bytesRow s cap).size, (bytesRow s cap).size + 1))) = w') := fun cap => by
        refine conB_any w.heap.size s.size cap (bytesI s) _ (bytesI_len s) (by omega) fun i hi => ⟨_, bytesI_get s hi, ?_⟩
        rw [cell_of_row _ w.heap.size i (bytesRow s cap) 5 ((bytesRow s cap).size, (bytesRow s cap).size + 1) (World.alloc_heap_new w.drew _)]
        unfold bytesRow
        rw [Array.getElem?_append_left (by simpa using hi), Array.getElem?_map, Array.getElem?_eq_getElem (show i < s.data.size from hi)]
        rfl
      have hbel : Hid (∀ o : Obj, Below w.heap.size w (w.drew.alloc o)) := fun o => (Below.refl _ _).drew.alloc (Nat.le_refl _) o
      clear h0 h40
      go_enter Tryz.func72, Tryz.ntmps72
      go_wp2_with fail
      refine (hcall.out _).mono ?_
      rintro e w' ⟨rfl, rfl⟩
      clear hcall
      go_wp2
      go_ret
      exact ⟨ret_b hr.out.symm, hbel.out _⟩

set_option maxRecDepth 100000 in
theorem idxS_any (A : Option Addr) (n c : Nat) (ss : List ByteArray) (w : World) (h : RStrs w A n c ss) :
    Calls Tryz.prog 84 #[.slice A n c, .func (.func 72) #[] #[]] w fun e w' => (∃ r, e = .returned (.int .i64 r) ∧ decide (0 ≤ r) = oddB ss) ∧ Below w.heap.size w w' := by
  have eg : ∀ args w, (callFunc 72 args).run Tryz.prog w = .ok (.enter 72 args) w := enters_of Tryz.func72 (by kernel_rfl) rfl
  have hn := h.le
  have Hl := hide h.len
  go_enter Tryz.func84, Tryz.ntmps84
  go_wp2
  go_loopw [8] (fun i wr => ∃ k : Nat, k ≤ n ∧ i = .int .i64 k ∧ Hid (oddB (ss.take k) = false) ∧ Below w.heap.size w wr) (fun i _ => n - (intOf i).toNat)
  case atStart => exact ⟨0, Nat.zero_le _, rfl, rfl, Below.refl _ _⟩
  case round =>
    obtain ⟨k, hk, rfl, hp, hb⟩ := hrel
    by_cases hlt : k < n
    · obtain ⟨b, off, s, rfl, hc, _, Hx⟩ := (h.below hb).step hlt
      cases hs : (!nmB s) with
      | true =>
        have hr : Hid (oddB ss = true) := List.any_eq_true.2 ⟨s, List.mem_of_getElem? Hx.out, hs⟩
        have ho := odd1_any s wr
        rw [hs] at ho
        clear hs
        go_wp2_with (go_at_fn 72; refine ho.mono ?_; rintro e w' ⟨rfl, hb'⟩)
        go_ret
        exact ⟨⟨_, rfl, by rw [hr.out]; simp⟩, Below_trans' hb hb.size hb'⟩
      | false =>
        have hr : Hid (oddB (ss.take (k + 1)) = false) := by unfold Hid; rw [List.take_add_one, Hx.out]; show oddB (ss.take k ++ [s]) = false; unfold oddB at *; rw [List.any_append, hp.out]; simpa using hs
        have ho := odd1_any s wr
        rw [hs] at ho
        clear hs
        go_wp2_with (go_at_fn 72; refine ho.mono ?_; rintro e w' ⟨rfl, hb'⟩)
        have hbb := Below_trans' hb hb.size hb'
        go_roundw
        case rel => exact ⟨k + 1, by omega, by go_num, hr, hbb⟩
        case measure => simp [intOf] <;> omega
    · have hr : Hid (oddB ss = false) := by
        have h1 := hp.out
        rw [List.take_of_length_le (by rw [Hl.out]; omega)] at h1
        exact h1
      go_wp2
      go_ret
      exact ⟨⟨-1, rfl, by rw [hr.out]; rfl⟩, hb⟩
theorem odd_any (A : Option Addr) (n c : Nat) (ss : List ByteArray) (w : World) (h : RStrs w A n c ss) :
    Calls Tryz.prog 56 #[.slice A n c] w fun e w' => e = .returned (.bool (oddB ss)) ∧ Below w.heap.size w w' := by
  have hi : Calls Tryz.prog 71 #[.slice A n c, .func (.func 72) #[] #[]] w fun e w' => e = .returned (.bool (oddB ss)) ∧ Below w.heap.size w w' := by
    have hi := idxS_any A n c ss w h
    clear h
    go_enter Tryz.func71, Tryz.ntmps71
    go_wp2_with fail
    refine hi.mono ?_
    rintro e w' ⟨⟨r, rfl, hr⟩, hb⟩
    have Hr := hide hr
    clear hr
    go_wp2
    go_ret
    exact ⟨ret_b Hr.out, hb⟩
  clear h
  go_enter Tryz.func56, Tryz.ntmps56
  go_wp2_with fail
  refine hi.mono ?_
  rintro e w' ⟨rfl, hb⟩
  go_wp2
  go_ret
  exact ⟨rfl, hb⟩
/-- Is the string among them? -/
def hasS (ss : List ByteArray) (s : ByteArray) : Bool := ss.any fun t => s.toList == t.toList
/-- Are two of them equal? -/
def twS (ss : List ByteArray) : Bool := (List.range ss.length).any fun i => hasS (ss.take i) (ss.getD i ByteArray.empty)
set_option maxRecDepth 100000 in
theorem conS_any (A : Option Addr) (n c : Nat) (ss : List ByteArray) (s : ByteArray) (w : World) (h : RStrs w A n c ss) :
    Calls Tryz.prog 75 #[.slice A n c, .string s] w fun e w' => e = .returned (.bool (hasS ss s)) ∧ w = w' := by
  have hi : Calls Tryz.prog 86 #[.slice A n c, .string s] w fun e w' => (∃ r, e = .returned (.int .i64 r) ∧ decide (0 ≤ r) = hasS ss s) ∧ w = w' := by
    have hn := h.le
    have Hl := hide h.len
    go_enter Tryz.func86, Tryz.ntmps86
    go_wp2
    go_loopw [8] (fun i wr => ∃ k : Nat, k ≤ n ∧ i = .int .i64 k ∧ Hid (hasS (ss.take k) s = false) ∧ w = wr) (fun i _ => n - (intOf i).toNat)
    case atStart => exact ⟨0, Nat.zero_le _, rfl, rfl, rfl⟩
    case round =>
      obtain ⟨k, hk, rfl, hp, rfl⟩ := hrel
      by_cases hlt : k < n
      · obtain ⟨b, off, t, rfl, hc, _, Hx⟩ := h.step hlt
        cases hs : (s.toList == t.toList) with
        | true =>
          have hr : Hid (hasS ss s = true) := List.any_eq_true.2 ⟨t, List.mem_of_getElem? Hx.out, hs⟩
          have hs2 : s.toList = t.toList := by simpa using hs
          go_wp2
          go_ret
          exact ⟨⟨_, rfl, by rw [hr.out]; simp⟩, by trivial⟩
        | false =>
          have hr : Hid (hasS (ss.take (k + 1)) s = false) := by unfold Hid; rw [List.take_add_one, Hx.out]; show hasS (ss.take k ++ [t]) s = false; unfold hasS at *; rw [List.any_append, hp.out]; simpa using hs
          have hs2 : ¬ s.toList = t.toList := by simpa using hs
          go_wp2
          go_roundw
          case rel => exact ⟨k + 1, by omega, by go_num, hr, by trivial⟩
          case measure => simp [intOf] <;> omega
      · have hr : Hid (hasS ss s = false) := by
          have h1 := hp.out
          rw [List.take_of_length_le (by rw [Hl.out]; omega)] at h1
          exact h1
        go_wp2
        go_ret
        exact ⟨⟨-1, rfl, by rw [hr.out]; rfl⟩, rfl⟩
  clear h
  go_enter Tryz.func75, Tryz.ntmps75
  go_wp2_with fail
  refine hi.mono ?_
  rintro e w' ⟨⟨r, rfl, hr⟩, rfl⟩
  have Hr := hide hr
  clear hr
  go_wp2
  go_ret
  exact ⟨ret_b Hr.out, rfl⟩
theorem conS_val {E : Bool} (A : Option Addr) (n c : Nat) (ss : List ByteArray) (s : ByteArray) (w : World) (h : RStrs w A n c ss) (hE : hasS ss s = E) :
    Calls Tryz.prog 75 #[.slice A n c, .string s] w fun e w' => e = .returned (.bool E) ∧ w = w' := hE ▸ conS_any A n c ss s w h
set_option maxRecDepth 100000 in
theorem twice_any (A : Option Addr) (n c : Nat) (ss : List ByteArray) (w : World) (h : RStrs w A n c ss) :
    Calls Tryz.prog 57 #[.slice A n c] w fun e w' => e = .returned (.bool (twS ss)) ∧ w = w' := by
  have hn := h.le
  have hnc := h.2.1
  have hcm := h.2.2.1
  have Hl := hide h.len
  go_enter Tryz.func57, Tryz.ntmps57
  go_wp2
  go_loopw [7] (fun i wr => ∃ k : Nat, k ≤ n ∧ i = .int .i64 k ∧ Hid (∀ j, j < k → hasS (ss.take j) (ss.getD j ByteArray.empty) = false) ∧ w = wr) (fun i _ => n - (intOf i).toNat)
  case atStart => exact ⟨0, Nat.zero_le _, rfl, fun j hj => by omega, rfl⟩
  case round =>
    obtain ⟨k, hk, rfl, hp, rfl⟩ := hrel
    by_cases hlt : k < n
    · obtain ⟨b, off, t, rfl, hc, _, Hx⟩ := h.step hlt
      have hg : Hid (ss.getD k ByteArray.empty = t) := by unfold Hid; simp [List.getD, Hx.out]
      have hT := h.take (k := k) (by omega)
      have hkc : k ≤ c := by omega
      cases hs : hasS (ss.take k) t with
      | true =>
        have hr : Hid (twS ss = true) := List.any_eq_true.2 ⟨k, by rw [List.mem_range, Hl.out]; exact hlt, by rw [hg.out]; exact hs⟩
        have Hs := hide hs
        clear hs
        go_wp2_with (go_at_call 75; with_reducible refine (conS_val _ _ _ _ _ _ hT Hs.out).mono ?_; rintro e w' ⟨rfl, rfl⟩)
        go_ret
        exact ⟨ret_b hr.out.symm, by trivial⟩
      | false =>
        have hr : Hid (∀ j, j < k + 1 → hasS (ss.take j) (ss.getD j ByteArray.empty) = false) := fun j hj => by
          rcases Nat.lt_or_ge j k with h1 | h1
          · exact hp.out j h1
          · obtain rfl : j = k := by omega
            rw [hg.out]; exact hs
        have Hs := hide hs
        clear hs
        go_wp2_with (go_at_call 75; with_reducible refine (conS_val _ _ _ _ _ _ hT Hs.out).mono ?_; rintro e w' ⟨rfl, rfl⟩)
        go_roundw
        case rel => exact ⟨k + 1, by omega, by go_num, hr, by trivial⟩
        case measure => simp [intOf] <;> omega
    · have hr : Hid (twS ss = false) := by
        unfold Hid twS
        rw [List.any_eq_false]
        intro j hj
        rw [List.mem_range, Hl.out] at hj
        rw [hp.out j (by omega)]; simp
      go_wp2
      go_ret
      exact ⟨ret_b hr.out.symm, rfl⟩
end Go.Proofs.YtoeajgjpakilgaaGreat

namespace Go.Proofs.YtoeajgjpakilgaaGreat
open Go.RowKit Go.Proofs Go.Shelf
attribute [local go_sem] cell?_more cell?_alloc_some cell?_setCell_far frozen?_alloc_some frozen?_more
/-- The rules: word, kind of ballots, kind of seats, alone. -/
def rulesL : List (List UInt8 × Int × Int × Bool) :=
  [([], 0, 0, false), ([112, 108, 117, 114, 97, 108, 105, 116, 121], 2, 2, true), ([97, 112, 112, 114, 111, 118, 97, 108], 2, 2, false), ([115, 99, 111, 114, 101], 3, 2, false), ([98, 111, 114, 100, 97], 1, 2, false),
   ([99, 111, 112, 101, 108, 97, 110, 100], 1, 1, false), ([109, 105, 110, 105, 109, 97, 120], 1, 1, false), ([115, 99, 104, 117, 108, 122, 101], 1, 1, false), ([112, 97, 105, 114, 115], 1, 1, false), ([114, 117, 110, 111, 102, 102], 1, 1, false), ([99, 111, 111, 109, 98, 115], 1, 1, false),
   ([103, 114, 101, 103, 111, 114, 121], 1, 2, false), ([109, 101, 101, 107], 1, 2, false), ([112, 104, 114, 97, 103, 109, 101, 110], 2, 2, false), ([100, 104, 111, 110, 100, 116], 2, 3, true), ([115, 97, 105, 110, 116, 101], 2, 3, true), ([104, 97, 114, 101], 2, 3, true)]
def rulesC : Array Value := (rulesL.flatMap fun r => [Value.string ⟨r.1.toArray⟩, .int .u8 r.2.1, .int .i64 r.2.2.1, .bool r.2.2.2]).toArray
theorem infoRul : (Tryz.prog.info? 131).map (·.size) = some 68 := by kernel_rfl
theorem rulesC_size : rulesC.size = 68 := by kernel_rfl
section
variable {ops : Array Oper} {rest : List Oper} {o : Oper} {a : Act} {w : World} {Q : Exit → Act → World → Prop}
theorem stRul (hgd : o.guard = none) {x y : Operand} (ho : o.op = .store 131 x y) {g : Nat} (hx : a.eval x = .pointer (some ⟨g, 0, none⟩)) {C : Array Value} (hy : a.eval y = .agg rulesC) (hg : Has w g 131 C) (hs : C.size = 68)
    (h : wpList Tryz.prog ops Q rest (a.put o.dst undef) (w.setRow g rulesC)) : wpList Tryz.prog ops Q (o :: rest) a w :=
  wpList_plain hgd fun _ hK => wp_store_row 131 x y ho g rulesC hx hy _ C hg (infoRul.trans (by rw [rulesC_size])) (by rw [hs, rulesC_size]) (by kernel_rfl) (hK _ _ h)
end
set_option maxRecDepth 100000 in
set_option maxHeartbeats 8000000 in
theorem rules_any (w : World) : Calls Tryz.prog 87 #[] w fun e w' => e = .returned (.agg rulesC) ∧ Below w.heap.size w w' := by
  go_enter Tryz.func87, Tryz.ntmps87
  go_upto_region 1 with fail
  go_wp2_with (refine stRul rfl rfl rfl (by kernel_rfl) (Has.new _ _ _) (by kernel_rfl) ?_)
  refine bodyPost_ret (results_cell_row rfl _ _ w.heap.size _ rulesC _ _ rfl (Has.setRow (Has.new _ _ _) _) Tryz.underlying131 rfl (infoRul.trans (by rw [rulesC_size]))) rfl ?_
  exact ⟨rfl, below_setRow below_allocN (Nat.le_refl _) _⟩

end Go.Proofs.YtoeajgjpakilgaaGreat

namespace Go.Proofs.YtoeajgjpakilgaaGreat
open Go.RowKit Go.Proofs Go.Shelf
attribute [local go_sem] cell?_more cell?_alloc_some cell?_setCell_far frozen?_alloc_some frozen?_more
/-- The kind of seats of a rule. -/
def seatsOf (n : Nat) : Int := (rulesL.getD n ([], 0, 0, false)).2.2.1
theorem rule_at (n : Nat) (h : n < 17) : ∃ s k b, rulesC[n * 4]? = some (.string s) ∧ rulesC[n * 4 + 1]? = some (.int .u8 k) ∧ rulesC[n * 4 + 2]? = some (.int .i64 (seatsOf n)) ∧ rulesC[n * 4 + 3]? = some (.bool b) := by
  refine ⟨⟨(rulesL.getD n ([], 0, 0, false)).1.toArray⟩, (rulesL.getD n ([], 0, 0, false)).2.1, (rulesL.getD n ([], 0, 0, false)).2.2.2, ?_⟩
  have : n = 0 ∨ n = 1 ∨ n = 2 ∨ n = 3 ∨ n = 4 ∨ n = 5 ∨ n = 6 ∨ n = 7 ∨ n = 8 ∨ n = 9 ∨ n = 10 ∨ n = 11 ∨ n = 12 ∨ n = 13 ∨ n = 14 ∨ n = 15 ∨ n = 16 := by omega
  rcases this with rfl | rfl | rfl | rfl | rfl | rfl | rfl | rfl | rfl | rfl | rfl | rfl | rfl | rfl | rfl | rfl | rfl <;> exact ⟨by kernel_rfl, by kernel_rfl, by kernel_rfl, by kernel_rfl⟩
theorem sizeRul : (Tryz.prog.info? 122).map (·.size) = some 4 := by kernel_rfl
/-- What describes the rule n. -/
def RuleV (n : Nat) (v : Value) : Prop := ∃ s k b, v = .agg #[.string s, .int .u8 k, .int .i64 (seatsOf n), .bool b]
set_option maxRecDepth 100000 in
set_option maxHeartbeats 4000000 in
theorem of07_any (n : Nat) (hn : n ≤ 255) (w : World) : Calls Tryz.prog 76 #[.int .u8 (n : Int)] w fun e w' => (∃ v, e = .returned v ∧ RuleV n v) ∧ Below w.heap.size w w' := by
  have hb : Below w.heap.size w (w.alloc (.cells #[.string ⟨#[]⟩, .int .u8 0, .int .i64 0, .bool false] 122)) := below_allocN
  have hO := Has.new w 122 #[.string ⟨#[]⟩, .int .u8 0, .int .i64 0, .bool false]
  go_enter Tryz.func76, Tryz.ntmps76
  go_upto_region 1 with fail
  generalize World.alloc w _ = W0 at hb hO ⊢
  go_wp2_with fail
  refine (rules_any W0).mono ?_
  rintro e w1 ⟨rfl, hb1⟩
  have hO1 := hO.below hb1 hO.lt
  have hR : Has ((w1.alloc (.cells Tryz.zeroCells131 131)).setRow w1.heap.size rulesC) w1.heap.size 131 rulesC := (Has.new _ _ _).setRow _
  have hb2 : Below w1.heap.size w1 ((w1.alloc (.cells Tryz.zeroCells131 131)).setRow w1.heap.size rulesC) := below_setRow below_allocN (Nat.le_refl _) _
  go_upto_region 2 with (refine stRul rfl rfl rfl rfl (Has.new _ _ _) (by kernel_rfl) ?_)
  generalize World.setRow (World.alloc w1 _) _ _ = w2 at hR hb2 ⊢
  have hO2 := hO1.below hb2 hO1.lt
  have hbb := Below_trans' (Below_trans' hb hb.size hb1) (Below_trans' hb hb.size hb1).size hb2
  have hne : w.heap.size ≠ w1.heap.size := by have := hO1.lt; omega
  have f0 := hO2.free 0
  have f1 := hO2.free 1
  have f2 := hO2.free 2
  have f3 := hO2.free 3
  have d0 := hO2.cell 0
  have d1 := hO2.cell 1
  have d2 := hO2.cell 2
  have d3 := hO2.cell 3
  by_cases h17 : n < 17
  · obtain ⟨s, k, b, e0, e1, e2, e3⟩ := rule_at n h17
    have c0 := (hR.cell (n * 4)).trans e0
    have c1 := (hR.cell (n * 4 + 1)).trans e1
    have c2 := (hR.cell (n * 4 + 2)).trans e2
    have c3 := (hR.cell (n * 4 + 3)).trans e3
    have b1 : (n : Int) < 17 := by omega
    obtain ⟨sn, hsn⟩ : ∃ sn, sn = seatsOf n := ⟨_, rfl⟩
    rw [← hsn] at c2
    have Hsn := hide hsn
    clear hsn
    clear e0 e1 e2 e3
    go_wp2
    refine bodyPost_ret (results_cell_row rfl _ _ w.heap.size _ _ _ _ rfl ((((hO2.put 0 _).put 1 _).put 2 _).put 3 _) Tryz.underlying122 rfl (sizeRul.trans rfl)) rfl ?_
    exact ⟨⟨_, rfl, s, k, b, by rw [← Hsn.out]; rfl⟩, (((hbb.setCell (p := ⟨w.heap.size, 0, none⟩) (Nat.le_refl _) _).setCell (p := ⟨w.heap.size, 1, none⟩) (Nat.le_refl _) _).setCell (p := ⟨w.heap.size, 2, none⟩) (Nat.le_refl _) _).setCell (p := ⟨w.heap.size, 3, none⟩) (Nat.le_refl _) _⟩
  · have b1 : ¬ (n : Int) < 17 := by omega
    have hs : Hid (seatsOf n = 0) := by
      unfold Hid seatsOf
      rw [List.getD_eq_getElem?_getD, List.getElem?_eq_none (by show 17 ≤ n; omega)]; rfl
    go_wp2
    refine bodyPost_ret (results_cell_row rfl _ _ w.heap.size _ _ _ _ rfl ((((hO2.put 0 _).put 1 _).put 2 _).put 3 _) Tryz.underlying122 rfl (sizeRul.trans rfl)) rfl ?_
    exact ⟨⟨_, rfl, _, _, _, by rw [hs.out]; rfl⟩, (((hbb.setCell (p := ⟨w.heap.size, 0, none⟩) (Nat.le_refl _) _).setCell (p := ⟨w.heap.size, 1, none⟩) (Nat.le_refl _) _).setCell (p := ⟨w.heap.size, 2, none⟩) (Nat.le_refl _) _).setCell (p := ⟨w.heap.size, 3, none⟩) (Nat.le_refl _) _⟩

theorem fld_rule (s : ByteArray) (k sn : Int) (b : Bool) (W : World) : Sem.run Tryz.prog (Instr.field 122 (.agg #[.string s, .int .u8 k, .int .i64 sn, .bool b]) 2) W = .ok (.int .i64 sn) W := by kernel_rfl
/-- Is the number of seats allowed? -/
def fitsB (rule : Nat) (seats : Int) (n : Nat) : Bool :=
  if seats < 1 ∨ 10 < seats then false else if seatsOf rule = 1 then seats == 1 else if seatsOf rule = 2 then decide (seats ≤ (n : Int)) else decide (seatsOf rule = 3)
set_option maxRecDepth 100000 in
set_option maxHeartbeats 4000000 in
theorem fits_any (name : ByteArray) (A : Option Addr) (n cp : Nat) (seats : Int) (rule : Nat) (hr : rule ≤ 255) (w : World) :
    Calls Tryz.prog 58 #[.agg #[.string name, .slice A n cp, .int .i64 seats, .int .u8 (rule : Int)]] w fun e w' => e = .returned (.bool (fitsB rule seats n)) ∧ Below w.heap.size w w' := by
  have hb : Below w.heap.size w (w.alloc (.cells #[.string name, .slice A n cp, .int .i64 seats, .int .u8 (rule : Int)] 60)) := below_allocN
  have hP := Has.new w 60 #[.string name, .slice A n cp, .int .i64 seats, .int .u8 (rule : Int)]
  go_enter Tryz.func58, Tryz.ntmps58
  go_upto_region 1 with fail
  generalize World.alloc w _ = W0 at hb hP ⊢
  have p0 := hP.cell 0
  have p1 := hP.cell 1
  have p2 := hP.cell 2
  have p3 := hP.cell 3
  by_cases h1 : seats < 1
  · have hv : Hid (fitsB rule seats n = false) := by unfold Hid fitsB; rw [if_pos (.inl h1)]
    go_wp2
    go_ret
    exact ⟨ret_b hv.out.symm, hb⟩
  · by_cases h10 : 10 < seats
    · have hv : Hid (fitsB rule seats n = false) := by unfold Hid fitsB; rw [if_pos (.inr h10)]
      go_wp2
      go_ret
      exact ⟨ret_b hv.out.symm, hb⟩
    · have hv : Hid (fitsB rule seats n = if seatsOf rule = 1 then seats == 1 else if seatsOf rule = 2 then decide (seats ≤ (n : Int)) else decide (seatsOf rule = 3)) := by unfold Hid fitsB; rw [if_neg (by omega)]
      go_wp2_with fail
      refine (of07_any rule hr W0).mono ?_
      rintro e w1 ⟨⟨v, rfl, s, k, b, rfl⟩, hb1⟩
      have hP1 := hP.below hb1 hP.lt
      have hbb := Below_trans' hb hb.size hb1
      clear p0 p1 p2 p3
      have p1 := hP1.cell 1
      have p2 := hP1.cell 2
      have hfd := fld_rule s k (seatsOf rule) b w1
      generalize seatsOf rule = sn at *
      by_cases s1 : sn = 1
      · have hv2 : Hid (fitsB rule seats n = (seats == 1)) := by unfold Hid; rw [hv.out, if_pos s1]
        have b1 : (sn == 1) = true := by simp [s1]
        clear s1 hv
        go_wp2
        go_ret
        exact ⟨ret_b hv2.out.symm, hbb⟩
      · have b1 : (sn == 1) = false := by simp [s1]
        by_cases s2 : sn = 2
        · have hv2 : Hid (fitsB rule seats n = decide (seats ≤ (n : Int))) := by unfold Hid; rw [hv.out, if_neg s1, if_pos s2]
          have b2 : (sn == 2) = true := by simp [s2]
          clear s1 s2 hv
          go_wp2
          go_ret
          exact ⟨ret_b hv2.out.symm, hbb⟩
        · have b2 : (sn == 2) = false := by simp [s2]
          by_cases s3 : sn = 3
          · have hv2 : Hid (fitsB rule seats n = true) := by unfold Hid; rw [hv.out, if_neg s1, if_neg s2, decide_eq_true s3]
            have b3 : (sn == 3) = true := by simp [s3]
            clear s1 s2 s3 hv
            go_wp2
            go_ret
            exact ⟨ret_b hv2.out.symm, hbb⟩
          · have hv2 : Hid (fitsB rule seats n = false) := by unfold Hid; rw [hv.out, if_neg s1, if_neg s2, decide_eq_false s3]
            have b3 : (sn == 3) = false := by simp [s3]
            clear s1 s2 s3 hv
            go_wp2
            go_ret
            exact ⟨ret_b hv2.out.symm, hbb⟩

/-- The error of a contest. -/
def contestE (name : ByteArray) (cs : List ByteArray) (seats : Int) (rule : Nat) : Int :=
  if 10 < cs.length then 4 else if cs.length = 0 ∨ nmB name = false ∨ oddB cs = true ∨ twS cs = true ∨ fitsB rule seats cs.length = false then 8 else 0
theorem RStrs.lit {w : World} {g : Nat} {t : TypeId} {s : ByteArray} (h : Has w g t #[.string s]) : RStrs w (some ⟨g, 0, none⟩) 1 1 [s] := by
  refine ⟨rfl, Nat.le_refl _, by omega, fun _ => ⟨g, 0, rfl, fun i hi => ⟨s, ?_, ?_⟩⟩⟩
  · obtain rfl : i = 0 := by omega
    rfl
  · obtain rfl : i = 0 := by omega
    rw [h.cell]; rfl
set_option maxRecDepth 100000 in
set_option maxHeartbeats 4000000 in
theorem ccheck07_any (name : ByteArray) (A : Option Addr) (n cp : Nat) (cs : List ByteArray) (seats : Int) (rule : Nat) (hr : rule ≤ 255) (w : World) (h : RStrs w A n cp cs) :
    Calls Tryz.prog 27 #[.agg #[.string name, .slice A n cp, .int .i64 seats, .int .u8 (rule : Int)]] w fun e w' => e = .returned (.int .i64 (contestE name cs seats rule)) ∧ Below w.heap.size w w' := by
  have hl := hide h.len
  have hb : Below w.heap.size w (w.alloc (.cells #[.string name, .slice A n cp, .int .i64 seats, .int .u8 (rule : Int)] 60)) := below_allocN
  have hP := Has.new w 60 #[.string name, .slice A n cp, .int .i64 seats, .int .u8 (rule : Int)]
  go_enter Tryz.func27, Tryz.ntmps27
  go_upto_region 1 with fail
  generalize World.alloc w _ = W0 at hb hP ⊢
  have p0 := hP.cell 0
  have p1 := hP.cell 1
  have p2 := hP.cell 2
  have p3 := hP.cell 3
  by_cases h10 : 10 < n
  · have hv : Hid (contestE name cs seats rule = 4) := by unfold Hid contestE; rw [hl.out, if_pos h10]
    have b1 : (10 : Int) < (n : Int) := by omega
    go_wp2
    go_ret
    exact ⟨ret_i hv.out.symm, hb⟩
  · have b1 : ¬ (10 : Int) < (n : Int) := by omega
    by_cases h0 : n = 0
    · have hv : Hid (contestE name cs seats rule = 8) := by unfold Hid contestE; rw [hl.out, if_neg h10, if_pos (.inl h0)]
      have b0 : ((n : Int) == 0) = true := by simp [h0]
      clear h0 h10
      go_wp2
      go_ret
      exact ⟨ret_i hv.out.symm, hb⟩
    · have b0 : ((n : Int) == 0) = false := by simp [h0]
      have hv0 : Hid (contestE name cs seats rule = if nmB name = false ∨ oddB cs = true ∨ twS cs = true ∨ fitsB rule seats n = false then 8 else 0) := by
        unfold Hid contestE; rw [hl.out, if_neg h10]; simp only [h0, false_or]
      clear h0
      have hbN : Below W0.heap.size W0 (W0.alloc (.cells #[.string name] 9)) := below_allocN
      have hN := Has.new W0 9 #[.string name]
      have hO := odd_any (some ⟨W0.heap.size, 0, none⟩) 1 1 [name] (W0.alloc (.cells #[.string name] 9)) (RStrs.lit hN)
      have hON : oddB [name] = !nmB name := by simp [oddB]
      rw [hON] at hO
      have hbN0 := Below_trans' hb hb.size hbN
      cases hnm : nmB name with
      | false =>
        have hv : Hid (contestE name cs seats rule = 8) := by unfold Hid; rw [hv0.out, if_pos (.inl hnm)]
        rw [hnm] at hO
        clear hnm hON
        go_wp2_with (go_at_call 56; with_reducible refine hO.mono ?_; rintro e w1 ⟨rfl, hb1⟩)
        go_ret
        exact ⟨ret_i hv.out.symm, Below_trans' hbN0 hbN0.size hb1⟩
      | true =>
        rw [hnm] at hO
        have Hnm := hide hnm
        clear hnm hON
        go_wp2_with fail
        refine hO.mono ?_
        rintro e w1 ⟨rfl, hb1⟩
        have hb01 := Below_trans' hbN hbN.size hb1
        have hw1 := Below_trans' hb hb.size hb01
        have hP1 := hP.below hb01 hP.lt
        have h1 := h.below hw1
        have hO1 := odd_any A n cp cs w1 h1
        clear p0 p1 p2 p3
        have p0 := hP1.cell 0
        have p1 := hP1.cell 1
        have p2 := hP1.cell 2
        have p3 := hP1.cell 3
        cases ho : oddB cs with
        | true =>
          have hv : Hid (contestE name cs seats rule = 8) := by unfold Hid; rw [hv0.out, if_pos (.inr (.inl ho))]
          rw [ho] at hO1
          clear ho
          go_wp2_with (go_at_call 56; with_reducible refine hO1.mono ?_; rintro e w2 ⟨rfl, hb2⟩)
          go_ret
          exact ⟨ret_i hv.out.symm, Below_trans' hw1 hw1.size hb2⟩
        | false =>
          rw [ho] at hO1
          have Ho := hide ho
          clear ho
          go_wp2_with fail
          refine hO1.mono ?_
          rintro e w2 ⟨rfl, hb2⟩
          have hw2 := Below_trans' hw1 hw1.size hb2
          have hP2 := hP1.below hb2 hP1.lt
          have h2 := h.below hw2
          have hT := twice_any A n cp cs w2 h2
          clear p0 p1 p2 p3
          have p0 := hP2.cell 0
          have p1 := hP2.cell 1
          have p2 := hP2.cell 2
          have p3 := hP2.cell 3
          cases ht : twS cs with
          | true =>
            have hv : Hid (contestE name cs seats rule = 8) := by unfold Hid; rw [hv0.out, if_pos (.inr (.inr (.inl ht)))]
            rw [ht] at hT
            clear ht
            go_wp2_with (go_at_call 57; with_reducible refine hT.mono ?_; rintro e w3 ⟨rfl, rfl⟩)
            go_ret
            exact ⟨ret_i hv.out.symm, hw2⟩
          | false =>
            rw [ht] at hT
            have Ht := hide ht
            clear ht
            have hF := fits_any name A n cp seats rule hr w2
            cases hf : fitsB rule seats n with
            | false =>
              have hv : Hid (contestE name cs seats rule = 8) := by unfold Hid; rw [hv0.out, if_pos (.inr (.inr (.inr hf)))]
              rw [hf] at hF
              clear hf
              go_wp2_with (first | (go_at_call 57; with_reducible refine hT.mono ?_; rintro e w3 ⟨rfl, rfl⟩) | (go_at_call 58; with_reducible refine hF.mono ?_; rintro e w4 ⟨rfl, hb4⟩))
              go_ret
              exact ⟨ret_i hv.out.symm, Below_trans' hw2 hw2.size hb4⟩
            | true =>
              have hv : Hid (contestE name cs seats rule = 0) := by unfold Hid; rw [hv0.out, if_neg (by rw [Hnm.out, Ho.out, Ht.out, hf]; simp)]
              rw [hf] at hF
              clear hf
              go_wp2_with (first | (go_at_call 57; with_reducible refine hT.mono ?_; rintro e w3 ⟨rfl, rfl⟩) | (go_at_call 58; with_reducible refine hF.mono ?_; rintro e w4 ⟨rfl, hb4⟩))
              go_ret
              exact ⟨ret_i hv.out.symm, Below_trans' hw2 hw2.size hb4⟩
end Go.Proofs.YtoeajgjpakilgaaGreat
