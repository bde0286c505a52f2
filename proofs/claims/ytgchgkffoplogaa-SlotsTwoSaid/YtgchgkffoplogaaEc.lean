/- The walk of the law SlotsTwo. -/
import Derived.Test.YtgchgkffoplogaaEb
import Derived.Deep.RegionLaw
namespace Go.Proofs.Ytgchgkffoplogaa
open Go.RowKit Go.Proofs.YtgchgkffoplogaaW.PrintWords
set_option linter.unusedVariables false
set_option linter.unusedSimpArgs false

set_option maxRecDepth 100000 in
set_option maxHeartbeats 3200000 in
theorem two_law (A1 : Option Addr) (c1 : Nat) (xs : List StepV) (A2 : Option Addr) (c2 : Nat) (ys : List StepV) (w : World) (hx : ReadsRow StepR 3 w A1 xs.length xs) (hy : ReadsRow StepR 3 w A2 ys.length ys) :
    Calls Try.prog 6 #[.slice A1 xs.length c1, .slice A2 ys.length c2] w fun e w' => e = .returned (.bool true) ∧ Below w.heap.size w w' := by
  by_cases hlx : 400 < xs.length
  · go_enter Try.func6, Try.ntmps6
    go_wp2_with (go_at_call 12; refine (awake12_any _).mono ?_; rintro e w3 ⟨rfl, hb⟩)
    go_ret
    exact ⟨rfl, hb⟩
  by_cases hly : 400 < ys.length
  · go_enter Try.func6, Try.ntmps6
    go_wp2_with (go_at_call 12; refine (awake12_any _).mono ?_; rintro e w3 ⟨rfl, hb⟩)
    go_ret
    exact ⟨rfl, hb⟩
  have Hx := Lib.hid hx; have Hy := Lib.hid hy; clear hx hy
  have HD := Lib.hid (duo_new w)
  go_enter Try.func6, Try.ntmps6
  go_wp2_with (go_at_call 13; refine (new_any _).mono ?_; rintro e w1 ⟨rfl, rfl⟩)
  go_loopw [9] (fun iv wr => ∃ (j : Nat) (own : Nat → Nat) (X : List (List Int)) (T : List Bool), j ≤ xs.length ∧ iv = .int .i64 j ∧ X.length ≤ j ∧ Hid (Duo w wr own w.heap.size (w.heap.size + 2) (w.heap.size + 1) (w.heap.size + 3) X T [] [])) (fun iv _ => xs.length - (intOf iv).toNat)
  case atStart => exact ⟨0, _, [], [], Nat.zero_le _, rfl, Nat.le_refl _, HD⟩
  case round =>
    obtain ⟨j, own, X, T, hj, rfl, hX, H⟩ := hrel
    clear HD
    by_cases hlt : j < xs.length
    · obtain ⟨b, o, rfl, hcells⟩ := steps_cells Hx.out (by omega)
      obtain ⟨c0, c1', c2'⟩ := hcells j hlt
      have hbel := H.out.b
      replace c0 := pw_cell_below hbel c0; replace c1' := pw_cell_below hbel c1'; replace c2' := pw_cell_below hbel c2'
      clear hcells hbel
      generalize (xs.getD j (0, 0, 0)) = x at *
      have p0 : (0 : Int) ≤ (j : Int) := by omega
      have p1 : (j : Int) < (xs.length : Int) := by omega
      go_wp2_with (go_at_call 18; refine (H.out.does1 (by omega) _ _ _).mono ?_; rintro e w2 ⟨rfl, own2, X2, T2, hd2, hx2, _⟩; have H2 := Lib.hid hd2; clear hd2)
      go_roundw
      case rel => exact ⟨j + 1, own2, X2, T2, by omega, by go_num, by omega, H2⟩
      case measure => simp [intOf]; omega
    · have hX4 : X.length ≤ 400 := by omega
      go_upto_region 15 with (go_at_call 20; refine (H.out.iter1 (by omega)).mono ?_; rintro e w2 ⟨rfl, own2, hd2, hi2⟩; have H2 := Lib.hid hd2; have HI := Lib.hid hi2; clear hd2 hi2)
      go_wp2
      replace H2 : Hid (Duo w w2 own2 w.heap.size (w.heap.size + 1 + 1) (w.heap.size + 1) (w.heap.size + 1 + 1 + 1) X T [] []) := H2
      clear H
      generalize w.heap.size + 1 + 1 + 1 = E at *
      generalize w.heap.size + 1 + 1 = C at *
      generalize w.heap.size + 1 = D at *
      obtain ⟨V, hV⟩ : ∃ V, V = w2.alloc (.cells #[.slice none 0 0, .slice none 0 0] 38) := ⟨_, rfl⟩
      obtain ⟨F, hF⟩ : ∃ F, F = w2.heap.size := ⟨_, rfl⟩
      rw [← hV, ← hF]
      obtain ⟨vL, vT, M, hr⟩ := H2.out.p1.ref
      have hrl := hr.rl
      have hrt := hr.rt
      obtain ⟨A, c, rfl⟩ := own_slice hrl
      obtain ⟨A', c', rfl⟩ := own_slice hrt
      have HR := Lib.hid hr
      have hbV : Below w2.heap.size w2 V := by rw [hV]; exact below_alloc (Below.refl _ _) _
      have hM4 : M.length ≤ 400 := by rw [← hr.lenX]; exact hX4
      have hbF : V.heap[F]? = some (.cells #[.slice none 0 0, .slice none 0 0] 38 (0, 0)) := by rw [hV, hF]; exact blk_new _ _
      have hbC := blk_below hr.blk hbV
      have hM1 : ∀ u ∈ M, u.oneCell' = true := by
        intro u hu
        obtain ⟨i, hi, rfl⟩ := List.mem_iff_getElem.1 hu
        obtain ⟨A0, c0, e, _⟩ := hr.el i M[i] (X[i]'(by rw [hr.lenX]; exact hi)) (List.getElem?_eq_getElem hi) (List.getElem?_eq_getElem _)
        rw [e]; rfl
      have hs1 : 0 < M.length → ∃ ad, A = some ad ∧ ∀ j u, M[j]? = some u → V.drew.cell? (ad.add j) = some u := fun h0 => by
        obtain ⟨ad, e, h⟩ := (own_src (xs := M) (by simpa [encs] using own_move hrl (fun k e => hbV.block k (own_lt hrl k e)))).2.2 h0
        exact ⟨ad, e, fun j u hu => h j u hu⟩
      have hszV : w2.heap.size ≤ V.heap.size := hbV.size
      have hbVd : Below w2.heap.size w2 V.drew := below_drew hbV
      have HbF := Lib.hid hbF; have HbC := Lib.hid hbC; have Hs1 := Lib.hid hs1; have HM1 := Lib.hid hM1; have HrL := Lib.hid hrl; have HrT := Lib.hid hrt; have HF := Lib.hid hF; have HV := Lib.hid hV; have HbV := Lib.hid hbVd
      have cF0 := blk_cell hbF 0
      have cC0 := blk_cell hbC 0
      clear hr hbF hbC hs1 hM1 hrl hrt hF hV hbV hbVd
      go_cut [11] (fun pv wc => pv = .pointer (some ⟨F, 0, none⟩) ∧ Hid (∃ v1, wc.heap[F]? = some (.cells #[v1, .slice none 0 0] 38 (0, 0)) ∧ wc.ownsRow w2.heap.size 22 1 v1 M.length M ∧ Below w2.heap.size w2 wc))
      case first =>
        go_region_law (first | (refine step_append_vals (w0 := w2) w2.heap.size (by rfl) (.tmp 56) (.tmp 60) 36 22 (.slice none 0 0) 24 rfl Try.underlying36 info22 rfl (by decide) (.slice none 0 0) [] M A M.length c (by rfl) (by rfl) HM1.out (own_nil _ _ _ _) rfl Hs1.out HbV.out hszV (by simp; omega) ?_; intro v1 w3 hown hb hg hat; obtain ⟨A3, c3, rfl⟩ := own_slice hown; have hF3 := blk_grown (w := V.drew) HbF.out hg (by simp [Value.ownBlock]); have cF3 := blk_cell hF3 0; have fF3 := blk_frozen hF3 0; have HF3 := Lib.hid hF3; have Hown := Lib.hid hown; have Hb := Lib.hid hb; clear hF3 hown hb hg hat))
        all_goals
          go_wp2
          go_meet
          exact ⟨rfl, Lib.hid ⟨_, blk_set HF3.out 0 _, by simpa using own_setCell Hown.out (p := ⟨F, 0, none⟩) (own_ne Hown.out HF3.out (by decide)) _, Hb.out.setCell (p := ⟨F, 0, none⟩) (by rw [HF.out]; exact Nat.le_refl _) _⟩⟩
      case rest =>
        obtain ⟨rfl, hc1⟩ := hcut
        obtain ⟨v1, hF1, ho1, hb1⟩ := hc1.out
        obtain ⟨A3, c3, rfl⟩ := own_slice ho1
        clear hc1 cF0 cC0 HbF HbC Hs1 HbV HV hszV
        have hbC := blk_below HR.out.blk hb1
        have hTl : T.length = M.length := HR.out.len
        have hs1 : 0 < M.length → ∃ ad, A' = some ad ∧ ∀ j u, (encs Value.bool T)[j]? = some u → wc.drew.cell? (ad.add j) = some u := fun h0 => by
          obtain ⟨ad, e, h⟩ := (own_src (own_move HrT.out (fun k e => hb1.block k (own_lt HrT.out k e)))).2.2 h0
          exact ⟨ad, e, fun j u hu => h j u hu⟩
        have hszc : w2.heap.size ≤ wc.heap.size := hb1.size
        have hM1 : ∀ u ∈ encs Value.bool T, u.oneCell' = true := by
          intro u hu
          simp only [encs, List.mem_map] at hu
          obtain ⟨b, _, rfl⟩ := hu
          rfl
        have hbd : Below w2.heap.size w2 wc.drew := below_drew hb1
        have HF1 := Lib.hid hF1; have Ho1 := Lib.hid ho1; have Hs1 := Lib.hid hs1; have HM2 := Lib.hid hM1; have Hbd := Lib.hid hbd; have HTl := Lib.hid hTl
        have cF1 := blk_cell hF1 1
        have cC1 := blk_cell hbC 1
        clear hF1 ho1 hs1 hM1 hbd hb1 hbC hTl
        go_upto_region 17 with (fail)
        go_cut [11] (fun pv wx => pv = .pointer (some ⟨F, 0, none⟩) ∧ Hid (∃ v1 v2, wx.heap[F]? = some (.cells #[v1, v2] 38 (0, 0)) ∧ wx.ownsRow w2.heap.size 22 1 v1 M.length M ∧ wx.ownsRow w2.heap.size 4 1 v2 M.length (encs .bool T) ∧ Below w2.heap.size w2 wx))
        case first =>
          go_region_law (first | (refine step_append_vals (w0 := w2) w2.heap.size (by rfl) (.tmp 68) (.tmp 72) 26 4 (.bool false) 1 rfl Try.underlying26 info4 rfl (by decide) (.slice none 0 0) [] (encs .bool T) A' M.length c' (by rfl) (by rfl) HM2.out (own_nil _ _ _ _) (by rw [encs_length]; exact HTl.out) Hs1.out Hbd.out hszc (by simp; omega) ?_; intro v2 w5 hown hb hg hat; obtain ⟨A4, c4, rfl⟩ := own_slice hown; have hF5 := blk_grown (w := wc.drew) HF1.out hg (by simp [Value.ownBlock]); have cF5 := blk_cell hF5 1; have fF5 := blk_frozen hF5 1; have ho5 := own_other (w := wc.drew) Ho1.out hg (by cases (Value.slice A3 M.length c3).ownBlock <;> simp [Value.ownBlock]); have HF5 := Lib.hid hF5; have Hown := Lib.hid hown; have Ho5 := Lib.hid ho5; have Hb := Lib.hid hb; clear hF5 hown hb hg hat ho5))
          all_goals
            go_wp2
            go_meet
            exact ⟨rfl, Lib.hid ⟨_, _, blk_set HF5.out 1 _, own_setCell Ho5.out (p := ⟨F, 1, none⟩) (own_ne Ho5.out HF5.out (by decide)) _, by simpa [encs_length, HTl.out] using own_setCell Hown.out (p := ⟨F, 1, none⟩) (own_ne Hown.out HF5.out (by decide)) _, Hb.out.setCell (p := ⟨F, 1, none⟩) (by rw [HF.out]; exact Nat.le_refl _) _⟩⟩
        case rest =>
          obtain ⟨rfl, hc2⟩ := hcut
          obtain ⟨v1', v2', hF6, ho6, ht6, hb6⟩ := hc2.out
          obtain ⟨hd, hw⟩ := was_close H2.out HI.out HR.out HF.out hb6 hF6 ho6 ht6
          have HD := Lib.hid hd; have HW := Lib.hid hw
          clear hd hw hF6 ho6 ht6 hb6 hc2 HF1 Ho1 Hs1 HM2 Hbd HTl cF1 cC1 HrL HrT HM1 HR HF HI H2 hszc
          generalize tagged own2 w2.heap.size 7 = own3 at *
          generalize wr.heap.size = lb at *
          go_wp2
          go_loopw [12] (fun iv wq => ∃ (k : Nat) (ow : Nat → Nat) (X2 : List (List Int)) (T2 : List Bool) (Y : List (List Int)) (U : List Bool), k ≤ ys.length ∧ iv = .int .i64 k ∧ X2.length ≤ 400 + k ∧ Y.length ≤ k ∧ Hid (Duo w wq ow w.heap.size C D E X2 T2 Y U) ∧ Hid (Was wq ow lb F X T)) (fun iv _ => ys.length - (intOf iv).toNat)
          case atStart => exact ⟨0, own3, X, T, [], [], Nat.zero_le _, rfl, by omega, Nat.le_refl _, HD, HW⟩
          case round =>
            obtain ⟨k, ow, X2, T2, Y, U, hk, rfl, hX2, hY, HQ, HWq⟩ := hrel
            clear HD HW
            by_cases hlt2 : k < ys.length
            · obtain ⟨b, o, rfl, hcells⟩ := steps_cells Hy.out (by omega)
              obtain ⟨d0, d1, d2⟩ := hcells k hlt2
              have hbel := HQ.out.b
              have c0 := pw_cell_below hbel d0; have c1' := pw_cell_below hbel d1; have c2' := pw_cell_below hbel d2
              clear hcells hbel
              generalize (ys.getD k (0, 0, 0)) = x at *
              have Hd0 := Lib.hid d0; have Hd1 := Lib.hid d1; have Hd2 := Lib.hid d2
              clear d0 d1 d2
              have p0 : (0 : Int) ≤ (k : Int) := by omega
              have p1 : (k : Int) < (ys.length : Int) := by omega
              go_wp2_with (first | (go_at_call 18; refine (HQ2.out.does1 (by omega) _ _ _).mono ?_; rintro e w8 ⟨rfl, own8, X8, T8, hd8, hx8, hs8⟩; have HQ3 := Lib.hid hd8; have HW3 := Lib.hid (HW2.out.step hs8 (by decide) (by decide) (by decide) (by decide) (by decide) (by decide)); clear hd8 hs8) | (go_at_call 18; refine (HQ.out.does2 (by omega) _ _ _).mono ?_; rintro e w7 ⟨rfl, own7, Y7, U7, hd7, hy7, hs7⟩; have e0 := pw_cell_below hd7.b Hd0.out; have e1 := pw_cell_below hd7.b Hd1.out; have e2 := pw_cell_below hd7.b Hd2.out; have HQ2 := Lib.hid hd7; have HW2 := Lib.hid (HWq.out.step hs7 (by decide) (by decide) (by decide) (by decide) (by decide) (by decide)); clear hd7 hs7))
              go_roundw
              case rel => exact ⟨k + 1, own8, X8, T8, Y7, U7, by omega, by go_num, by omega, by omega, HQ3, HW3⟩
              case measure => simp [intOf]; omega
            · have hnf := neq_fn lb
              go_wp2_with (first | (go_at_call 12; refine (awake12_any _).mono ?_; rintro e w6 ⟨rfl, hb6⟩; have HB := Lib.hid (below_then HQ5.out.b HQ5.out.b.size hb6); clear hb6) | (go_at_call 21; refine (HQ4.out.goes2 HI4.out (by omega) 0).mono ?_; rintro e w5 ⟨rfl, own5, hd5⟩; have HQ5 := Lib.hid hd5; clear hd5) | (go_at_call 20; refine (HQ3.out.iter2 (by omega)).mono ?_; rintro e w4 ⟨rfl, own4, hd4, hi4⟩; have HQ4 := Lib.hid hd4; have HI4 := Lib.hid hi4; clear hd4 hi4) | (go_at_call 21; refine (HQ2.out.goes1 HI2.out (by omega) 0).mono ?_; rintro e w3 ⟨rfl, own3', hd3⟩; have HQ3 := Lib.hid hd3; clear hd3) | (go_at_call 20; refine (HQ1.out.iter1 (by omega)).mono ?_; rintro e w2' ⟨rfl, own2', hd2, hi2⟩; have HQ2 := Lib.hid hd2; have HI2 := Lib.hid hi2; clear hd2 hi2) | (go_at_call 21; refine (HWq.out.goes_ (by omega) 0).mono ?_; rintro e w1' ⟨rfl, hb1'⟩; have HQ1 := Lib.hid (HQ.out.below 0 hb1'); clear hb1'))
              go_ret
              exact ⟨rfl, HB.out⟩
end Go.Proofs.Ytgchgkffoplogaa
