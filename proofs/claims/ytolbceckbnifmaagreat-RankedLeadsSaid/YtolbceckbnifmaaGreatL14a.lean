/-
  The law RankedLeads.
-/
import Derived.Test.YtolbceckbnifmaaGreatW14q
namespace Go.Proofs.YtolbceckbnifmaaGreat
open Go.RowKit Go.Proofs Go.Shelf
attribute [local go_sem] cell?_more cell?_alloc_some cell?_setCell_far frozen?_alloc_some frozen?_more
set_option maxRecDepth 100000 in
set_option maxHeartbeats 4000000 in
theorem rankedLeads_any (A : Option Addr) (n cp : Nat) (l : List Lk) (x y z first : Int) (w : World) (h : RAgg ELnk 4 w A n cp l) :
    Calls Tryz.prog 4 #[.slice A n cp, .int .i64 x, .int .i64 y, .int .i64 z, .int .i64 first] w fun e w' => e = .returned (.bool true) ∧ Below w.heap.size w w' := by
  have hln := hide h.len
  have hnc : n ≤ cp := h.2.1
  go_enter Tryz.func4, Tryz.ntmps4
  by_cases hbig : 30 < n
  · have hz : (30 : Int) < (n : Int) := by omega
    have hb0 : Below w.heap.size w w := Below.refl _ _
    go_wp2_with fail
    refine (wakes14_any _).mono ?_
    rintro e w9 ⟨rfl, hb9⟩
    go_wp2
    go_ret
    exact ⟨rfl, Below_trans' hb0 (hb0).size hb9⟩
  · have hz : ¬ (30 : Int) < (n : Int) := by omega
    obtain ⟨m, hM⟩ : ∃ m, (min (max first 0) (n : Int)).toNat = m := ⟨_, rfl⟩
    have hm : m ≤ n := by omega
    have HM := hide hM
    clear hM
    have hb0 : Below w.heap.size w w := Below.refl _ _
    go_wp2_with fail
    refine (leads_any A n cp l (x) (y) w (h.below below_lnk hb0) (by omega)).mono ?_
    rintro e w1 ⟨rfl, hb1⟩
    go_wp2_with fail
    refine (leads_any A n cp l (y) (z) w1 (h.below below_lnk hb1) (by omega)).mono ?_
    rintro e w2 ⟨rfl, hb2⟩
    have hb02 := Below_trans' hb1 hb1.size hb2
    go_wp2_with fail
    refine (leads_any A n cp l (x) (z) w2 (h.below below_lnk hb02) (by omega)).mono ?_
    rintro e w3 ⟨rfl, hb3⟩
    have hb03 := Below_trans' hb02 hb02.size hb3
    go_wp2_with fail
    refine (rleads_any A n cp l x y w3 (h.below below_lnk hb03) (by omega)).mono ?_
    rintro e w4 ⟨rfl, hb4⟩
    have hb04 := Below_trans' hb03 hb03.size hb4
    have htr := hide (fun h1 h2 => leads_trans (l := l) (x := x) (y := y) (z := z) h1 h2)
    have hmo := hide (fun h1 => leads_more (l := l) (x := x) (y := y) (List.take_subset m l) h1)
    have hnil := hide (fun (e : l = []) => (show leadsB l x y = false by rw [e]; exact leads_nil x y))
    have hpre := leads_any A m cp (l.take m) x y w4 ((h.below below_lnk hb04).takes hm) (by omega)
    have hmc : (m : Int) ≤ (cp : Int) := by omega
    have hmc2 : m ≤ cp := by omega
    have hlk := hide (fun k (hk : k ∈ l) => leads_link hk)
    have hn0 := hide (fun (e : n = 0) => hnil.out (List.eq_nil_of_length_eq_zero (by rw [hln.out]; exact e)))
    clear hnil
    generalize leadsB l x y = b1 at *
    generalize leadsB l y z = b2 at *
    generalize leadsB l x z = b3 at *
    generalize leadsB (l.take m) x y = bp at *
    cases b1 with
    | false =>
      cases bp with
      | true => exact absurd (hmo.out rfl) (by simp)
      | false =>
        go_wp2_with fail
        rw [HM.out]
        refine hpre.mono ?_
        rintro e w5 ⟨rfl, hb5⟩
        have hb05 := Below_trans' hb04 hb04.size hb5
        clear hpre htr hmo
        go_wp2_with fail
        go_loopw [14] (fun s wr => ∃ i : Nat, i ≤ n ∧ s = .int .i64 i ∧ Below w.heap.size w wr) (fun s _ => n - (intOf s).toNat)
        case atStart => exact ⟨0, Nat.zero_le _, rfl, hb05⟩
        case round =>
          clear hb05
          obtain ⟨i, hi, rfl, hb⟩ := hrel
          by_cases hlt : i < n
          · have hR := h.below below_lnk hb
            obtain ⟨b, off, x', y', m', f', rfl, c0, c1, c2, c3, hat, _⟩ := hR.lnk hlt
            have hl1 := hide (hlk.out _ (List.mem_of_getElem? hat.out))
            have hq : ∀ q, Calls Tryz.prog 22 #[.slice (some ⟨b, off, none⟩) n cp, .int .i64 x', .int .i64 y'] (More wr q) fun e w'' => e = .returned (.bool true) ∧ ∃ q', w'' = More wr q' := fun q => more_of ((leads_any _ n cp l x' y' (More wr q) (hR.below below_lnk (more_below wr q)) (by omega)).mono fun e w' ⟨he, hb'⟩ => ⟨by rw [he, show leadsB l x' y' = true from hl1.out], hb'⟩)
            clear hat c2 c3
            go_wp2_with fail
            refine wp_region_more (by kernel_rfl) (by kernel_rfl) ?_
            repeat (go_big_quiet_step ((go_at_call 22; with_reducible exact hq _)))
            refine wpQuiet_nil ?_
            rintro w6 ⟨qw6, hww6⟩
            have hbw6 := below_of_eq hww6
            clear hww6 qw6
            have hb6 := Below_trans' hb hb.size hbw6
            clear c0 c1 hq
            go_wp2
            go_roundw
            case rel => exact ⟨i + 1, by omega, by go_num, hb6⟩
            case measure => simp [intOf] <;> omega
          · obtain rfl : i = n := by omega
            by_cases hi0 : i = 0
            · have hbf := hn0.out hi0
              have hz0 : ¬ (0 : Int) < (i : Int) := by omega
              clear hi0
              first
              | (cases hbf; done)
              | skip
                go_wp2_with fail
                refine (wakes14_any _).mono ?_
                rintro e w9 ⟨rfl, hb9⟩
                go_wp2
                go_ret
                exact ⟨rfl, Below_trans' hb hb.size hb9⟩
            · have hz0 : (0 : Int) < (i : Int) := by omega
              clear hi0
              go_wp2_with fail
              refine (wakes14_any _).mono ?_
              rintro e w9 ⟨rfl, hb9⟩
              go_wp2
              go_ret
              exact ⟨rfl, Below_trans' hb (hb).size hb9⟩
    | true =>
      cases b2 with
      | false =>
        go_wp2_with fail
        rw [HM.out]
        refine hpre.mono ?_
        rintro e w5 ⟨rfl, hb5⟩
        have hb05 := Below_trans' hb04 hb04.size hb5
        clear hpre htr hmo
        cases bp with
        | false =>
          go_wp2_with fail
          go_loopw [14] (fun s wr => ∃ i : Nat, i ≤ n ∧ s = .int .i64 i ∧ Below w.heap.size w wr) (fun s _ => n - (intOf s).toNat)
          case atStart => exact ⟨0, Nat.zero_le _, rfl, hb05⟩
          case round =>
            clear hb05
            obtain ⟨i, hi, rfl, hb⟩ := hrel
            by_cases hlt : i < n
            · have hR := h.below below_lnk hb
              obtain ⟨b, off, x', y', m', f', rfl, c0, c1, c2, c3, hat, _⟩ := hR.lnk hlt
              have hl1 := hide (hlk.out _ (List.mem_of_getElem? hat.out))
              have hq : ∀ q, Calls Tryz.prog 22 #[.slice (some ⟨b, off, none⟩) n cp, .int .i64 x', .int .i64 y'] (More wr q) fun e w'' => e = .returned (.bool true) ∧ ∃ q', w'' = More wr q' := fun q => more_of ((leads_any _ n cp l x' y' (More wr q) (hR.below below_lnk (more_below wr q)) (by omega)).mono fun e w' ⟨he, hb'⟩ => ⟨by rw [he, show leadsB l x' y' = true from hl1.out], hb'⟩)
              clear hat c2 c3
              go_wp2_with fail
              refine wp_region_more (by kernel_rfl) (by kernel_rfl) ?_
              repeat (go_big_quiet_step ((go_at_call 22; with_reducible exact hq _)))
              refine wpQuiet_nil ?_
              rintro w6 ⟨qw6, hww6⟩
              have hbw6 := below_of_eq hww6
              clear hww6 qw6
              have hb6 := Below_trans' hb hb.size hbw6
              clear c0 c1 hq
              go_wp2
              go_roundw
              case rel => exact ⟨i + 1, by omega, by go_num, hb6⟩
              case measure => simp [intOf] <;> omega
            · obtain rfl : i = n := by omega
              by_cases hi0 : i = 0
              · have hbf := hn0.out hi0
                have hz0 : ¬ (0 : Int) < (i : Int) := by omega
                clear hi0
                first
                | (cases hbf; done)
                | skip
                  go_wp2_with fail
                  refine (wakes14_any _).mono ?_
                  rintro e w9 ⟨rfl, hb9⟩
                  go_wp2
                  go_ret
                  exact ⟨rfl, Below_trans' hb hb.size hb9⟩
              · have hz0 : (0 : Int) < (i : Int) := by omega
                clear hi0
                go_wp2_with fail
                refine (wakes14_any _).mono ?_
                rintro e w9 ⟨rfl, hb9⟩
                go_wp2
                go_ret
                exact ⟨rfl, Below_trans' hb (hb).size hb9⟩
        | true =>
          go_wp2_with fail
          go_loopw [14] (fun s wr => ∃ i : Nat, i ≤ n ∧ s = .int .i64 i ∧ Below w.heap.size w wr) (fun s _ => n - (intOf s).toNat)
          case atStart => exact ⟨0, Nat.zero_le _, rfl, hb05⟩
          case round =>
            clear hb05
            obtain ⟨i, hi, rfl, hb⟩ := hrel
            by_cases hlt : i < n
            · have hR := h.below below_lnk hb
              obtain ⟨b, off, x', y', m', f', rfl, c0, c1, c2, c3, hat, _⟩ := hR.lnk hlt
              have hl1 := hide (hlk.out _ (List.mem_of_getElem? hat.out))
              have hq : ∀ q, Calls Tryz.prog 22 #[.slice (some ⟨b, off, none⟩) n cp, .int .i64 x', .int .i64 y'] (More wr q) fun e w'' => e = .returned (.bool true) ∧ ∃ q', w'' = More wr q' := fun q => more_of ((leads_any _ n cp l x' y' (More wr q) (hR.below below_lnk (more_below wr q)) (by omega)).mono fun e w' ⟨he, hb'⟩ => ⟨by rw [he, show leadsB l x' y' = true from hl1.out], hb'⟩)
              clear hat c2 c3
              go_wp2_with fail
              refine wp_region_more (by kernel_rfl) (by kernel_rfl) ?_
              repeat (go_big_quiet_step ((go_at_call 22; with_reducible exact hq _)))
              refine wpQuiet_nil ?_
              rintro w6 ⟨qw6, hww6⟩
              have hbw6 := below_of_eq hww6
              clear hww6 qw6
              have hb6 := Below_trans' hb hb.size hbw6
              clear c0 c1 hq
              go_wp2
              go_roundw
              case rel => exact ⟨i + 1, by omega, by go_num, hb6⟩
              case measure => simp [intOf] <;> omega
            · obtain rfl : i = n := by omega
              by_cases hi0 : i = 0
              · have hbf := hn0.out hi0
                have hz0 : ¬ (0 : Int) < (i : Int) := by omega
                clear hi0
                first
                | (cases hbf; done)
                | skip
                  go_wp2_with fail
                  refine (wakes14_any _).mono ?_
                  rintro e w9 ⟨rfl, hb9⟩
                  go_wp2
                  go_ret
                  exact ⟨rfl, Below_trans' hb hb.size hb9⟩
              · have hz0 : (0 : Int) < (i : Int) := by omega
                clear hi0
                go_wp2_with fail
                refine (wakes14_any _).mono ?_
                rintro e w9 ⟨rfl, hb9⟩
                go_wp2
                go_ret
                exact ⟨rfl, Below_trans' hb (hb).size hb9⟩
      | true =>
        obtain rfl : b3 = true := htr.out rfl rfl
        go_wp2_with fail
        rw [HM.out]
        refine hpre.mono ?_
        rintro e w5 ⟨rfl, hb5⟩
        have hb05 := Below_trans' hb04 hb04.size hb5
        clear hpre htr hmo
        cases bp with
        | false =>
          go_wp2_with fail
          go_loopw [14] (fun s wr => ∃ i : Nat, i ≤ n ∧ s = .int .i64 i ∧ Below w.heap.size w wr) (fun s _ => n - (intOf s).toNat)
          case atStart => exact ⟨0, Nat.zero_le _, rfl, hb05⟩
          case round =>
            clear hb05
            obtain ⟨i, hi, rfl, hb⟩ := hrel
            by_cases hlt : i < n
            · have hR := h.below below_lnk hb
              obtain ⟨b, off, x', y', m', f', rfl, c0, c1, c2, c3, hat, _⟩ := hR.lnk hlt
              have hl1 := hide (hlk.out _ (List.mem_of_getElem? hat.out))
              have hq : ∀ q, Calls Tryz.prog 22 #[.slice (some ⟨b, off, none⟩) n cp, .int .i64 x', .int .i64 y'] (More wr q) fun e w'' => e = .returned (.bool true) ∧ ∃ q', w'' = More wr q' := fun q => more_of ((leads_any _ n cp l x' y' (More wr q) (hR.below below_lnk (more_below wr q)) (by omega)).mono fun e w' ⟨he, hb'⟩ => ⟨by rw [he, show leadsB l x' y' = true from hl1.out], hb'⟩)
              clear hat c2 c3
              go_wp2_with fail
              refine wp_region_more (by kernel_rfl) (by kernel_rfl) ?_
              repeat (go_big_quiet_step ((go_at_call 22; with_reducible exact hq _)))
              refine wpQuiet_nil ?_
              rintro w6 ⟨qw6, hww6⟩
              have hbw6 := below_of_eq hww6
              clear hww6 qw6
              have hb6 := Below_trans' hb hb.size hbw6
              clear c0 c1 hq
              go_wp2
              go_roundw
              case rel => exact ⟨i + 1, by omega, by go_num, hb6⟩
              case measure => simp [intOf] <;> omega
            · obtain rfl : i = n := by omega
              by_cases hi0 : i = 0
              · have hbf := hn0.out hi0
                have hz0 : ¬ (0 : Int) < (i : Int) := by omega
                clear hi0
                first
                | (cases hbf; done)
                | skip
                  go_wp2_with fail
                  refine (wakes14_any _).mono ?_
                  rintro e w9 ⟨rfl, hb9⟩
                  go_wp2
                  go_ret
                  exact ⟨rfl, Below_trans' hb hb.size hb9⟩
              · have hz0 : (0 : Int) < (i : Int) := by omega
                clear hi0
                go_wp2_with fail
                refine (wakes14_any _).mono ?_
                rintro e w9 ⟨rfl, hb9⟩
                go_wp2
                go_ret
                exact ⟨rfl, Below_trans' hb (hb).size hb9⟩
        | true =>
          go_wp2_with fail
          go_loopw [14] (fun s wr => ∃ i : Nat, i ≤ n ∧ s = .int .i64 i ∧ Below w.heap.size w wr) (fun s _ => n - (intOf s).toNat)
          case atStart => exact ⟨0, Nat.zero_le _, rfl, hb05⟩
          case round =>
            clear hb05
            obtain ⟨i, hi, rfl, hb⟩ := hrel
            by_cases hlt : i < n
            · have hR := h.below below_lnk hb
              obtain ⟨b, off, x', y', m', f', rfl, c0, c1, c2, c3, hat, _⟩ := hR.lnk hlt
              have hl1 := hide (hlk.out _ (List.mem_of_getElem? hat.out))
              have hq : ∀ q, Calls Tryz.prog 22 #[.slice (some ⟨b, off, none⟩) n cp, .int .i64 x', .int .i64 y'] (More wr q) fun e w'' => e = .returned (.bool true) ∧ ∃ q', w'' = More wr q' := fun q => more_of ((leads_any _ n cp l x' y' (More wr q) (hR.below below_lnk (more_below wr q)) (by omega)).mono fun e w' ⟨he, hb'⟩ => ⟨by rw [he, show leadsB l x' y' = true from hl1.out], hb'⟩)
              clear hat c2 c3
              go_wp2_with fail
              refine wp_region_more (by kernel_rfl) (by kernel_rfl) ?_
              repeat (go_big_quiet_step ((go_at_call 22; with_reducible exact hq _)))
              refine wpQuiet_nil ?_
              rintro w6 ⟨qw6, hww6⟩
              have hbw6 := below_of_eq hww6
              clear hww6 qw6
              have hb6 := Below_trans' hb hb.size hbw6
              clear c0 c1 hq
              go_wp2
              go_roundw
              case rel => exact ⟨i + 1, by omega, by go_num, hb6⟩
              case measure => simp [intOf] <;> omega
            · obtain rfl : i = n := by omega
              by_cases hi0 : i = 0
              · have hbf := hn0.out hi0
                have hz0 : ¬ (0 : Int) < (i : Int) := by omega
                clear hi0
                first
                | (cases hbf; done)
                | skip
                  go_wp2_with fail
                  refine (wakes14_any _).mono ?_
                  rintro e w9 ⟨rfl, hb9⟩
                  go_wp2
                  go_ret
                  exact ⟨rfl, Below_trans' hb hb.size hb9⟩
              · have hz0 : (0 : Int) < (i : Int) := by omega
                clear hi0
                go_wp2_with fail
                refine (wakes14_any _).mono ?_
                rintro e w9 ⟨rfl, hb9⟩
                go_wp2
                go_ret
                exact ⟨rfl, Below_trans' hb (hb).size hb9⟩
end Go.Proofs.YtolbceckbnifmaaGreat
