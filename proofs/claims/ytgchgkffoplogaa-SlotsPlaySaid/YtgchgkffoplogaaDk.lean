/- The walk of the law SlotsPlay. -/
import Derived.Test.YtgchgkffoplogaaDj
namespace Go.Proofs.Ytgchgkffoplogaa
open Go.RowKit Go.Proofs.YtgchgkffoplogaaW.PrintWords
set_option linter.unusedVariables false
set_option linter.unusedSimpArgs false

set_option maxRecDepth 100000 in
set_option maxHeartbeats 3200000 in
theorem play_law (zero : Bool) (A : Option Addr) (cA : Nat) (xs : List StepV) (stop : Int) (w : World) (hx : ReadsRow StepR 3 w A xs.length xs) :
    Calls Try.prog 4 #[.bool zero, .slice A xs.length cA, .int .i64 stop] w fun e w' => e = .returned (.bool true) ∧ Below w.heap.size w w' := by
  by_cases hlx : 400 < xs.length
  · go_enter Try.func4, Try.ntmps4
    go_wp2_with (go_at_call 12; refine (awake12_any _).mono ?_; rintro e w3 ⟨rfl, hb⟩)
    go_ret
    exact ⟨rfl, hb⟩
  have Hx := Lib.hid hx; clear hx
  go_enter Try.func4, Try.ntmps4
  go_upto_if 16 with (go_at_call 13; refine (new_any _).mono ?_; rintro e w1 ⟨rfl, rfl⟩)
  go_cut [7] (fun pv wc => ∃ B, pv = .pointer (some ⟨B, 0, none⟩) ∧ Hid (Tab wc B (fun k => w.heap.size ≤ k) [] []) ∧ Hid (Below w.heap.size w wc))
  case first =>
    cases zero
    · go_wp2
      go_meet
      exact ⟨_, rfl, Lib.hid tab_new, Lib.hid (below_alloc (Below.refl _ _) _)⟩
    · go_wp2
      go_meet
      have h2 := tab_new (w := w.alloc (.cells #[.slice none 0 0, .slice none 0 0, .slice none 0 0] 34))
      rw [World.size_alloc] at h2
      exact ⟨_, rfl, Lib.hid (h2.mono (fun k e _ => by omega)), Lib.hid (below_alloc (below_alloc (Below.refl _ _) _) _)⟩
  case rest =>
    obtain ⟨B, rfl, HT, HB⟩ := hcut
    have hpl : PlayAt w (wc.alloc (.cells #[.slice none 0 0, .slice none 0 0] 38)) B wc.heap.size [] [] := ⟨_, pair_new HB.out HT.out, fun k hk => if_pos hk, below_then HB.out HB.out.size (below_alloc (Below.refl _ _) _)⟩
    have HP := Lib.hid hpl; clear hpl
    go_wp2
    go_loopw [9] (fun iv wr => ∃ (j : Nat) (X : List (List Int)) (T : List Bool), j ≤ xs.length ∧ iv = .int .i64 j ∧ X.length ≤ j ∧ Hid (PlayAt w wr B wc.heap.size X T)) (fun iv _ => xs.length - (intOf iv).toNat)
    case atStart => exact ⟨0, [], [], Nat.zero_le _, rfl, Nat.le_refl _, HP⟩
    case round =>
      obtain ⟨j, X, T, hj, rfl, hX, HPr⟩ := hrel
      clear HP HT HB
      by_cases hlt : j < xs.length
      · obtain ⟨b, o, rfl, hcells⟩ := steps_cells Hx.out (by omega)
        obtain ⟨c0, c1, c2⟩ := hcells j hlt
        obtain ⟨own, _, _, hbel⟩ := id HPr.out
        replace c0 := pw_cell_below hbel c0; replace c1 := pw_cell_below hbel c1; replace c2 := pw_cell_below hbel c2
        clear hcells hbel
        generalize (xs.getD j (0, 0, 0)) = x at *
        have p0 : (0 : Int) ≤ (j : Int) := by omega
        have p1 : (j : Int) < (xs.length : Int) := by omega
        go_upto_region 12 with (fail)
        have HPd := Lib.hid (HPr.out.below (below_drew (Below.refl _ _)))
        clear HPr
        go_region_with (first | (go_at_call 18; refine (HPd.out.does (by omega) _ _ _).mono ?_; rintro e w2 ⟨rfl, X2, T2, hp2, hx2⟩; have hl2 := hp2.lens; have HP2 := Lib.hid hp2; have Hl2 := Lib.hid hl2; clear hp2 hl2) | (go_at_call 16; refine (HP2.out.len_ (by omega)).mono ?_; rintro e w3 ⟨rfl, hp3⟩; have HP3 := Lib.hid hp3; clear hp3) | (go_at_call 19; refine (HP3.out.all_ (by omega)).mono ?_; rintro e w4 ⟨A4, c4, rfl, hp4⟩; obtain ⟨A5, c5, hcC⟩ := hp4.cell; have HP4 := Lib.hid hp4; clear hp4) | (go_at_call 15; refine HP4.out.high_.mono ?_; rintro e w5 ⟨rfl, rfl⟩))
        all_goals
          go_wp2
          go_roundw
          case rel => exact ⟨j + 1, X2, T2, by omega, by go_num, by omega, HP4⟩
          case measure => simp [intOf]; omega
      · skip
        have hx4 : X.length ≤ 100000 := by omega
        have hnf := neq_fn wr.heap.size
        go_wp2_with (first | (go_at_call 20; refine (HPr.out.iter hx4).mono ?_; rintro e w1 ⟨rfl, hI, hp⟩; have HI := Lib.hid hI; have HP1 := Lib.hid hp; clear hI hp) | (go_at_call 21; refine (HP2.out.goes_ HI2.out hx4 0).mono ?_; rintro e w3 ⟨rfl, hI3, hp3⟩; have HP3 := Lib.hid hp3.bel; clear hI3 hp3) | (go_at_call 21; refine (HP1.out.goes_ HI.out hx4 stop).mono ?_; rintro e w2 ⟨rfl, hI2, hp2⟩; have HI2 := Lib.hid hI2; have HP2 := Lib.hid hp2; clear hI2 hp2) | (go_at_call 12; refine (awake12_any _).mono ?_; rintro e w4 ⟨rfl, hb4⟩; have HB4 := Lib.hid (below_then HP3.out HP3.out.size hb4); clear hb4))
        go_ret
        exact ⟨rfl, HB4.out⟩
end Go.Proofs.Ytgchgkffoplogaa
