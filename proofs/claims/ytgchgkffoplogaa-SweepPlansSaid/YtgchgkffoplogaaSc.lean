/- heap.down over the free numbers. -/
import Derived.Test.YtgchgkffoplogaaSb
namespace Go.Proofs.Ytgchgkffoplogaa
open Go.RowKit Go.Proofs.YtgchgkffoplogaaW.PrintWords
set_option linter.unusedVariables false

set_option maxHeartbeats 1600000 in
set_option maxRecDepth 100000 in
theorem down_any (B tS g n c i0 m : Nat) (c0 c1 : Value) (F : List Int) (w : World) (ht : 3 ≠ tS) (h : Third w B tS c0 c1 (.slice (some ⟨g, 0, none⟩) n c) F) (hl : n = F.length) (hn : n ≤ 2305843009213693952) (hm : m ≤ n) (hi : i0 ≤ m) (hI : DownInv F i0 m) :
    Calls Try.prog 58 #[.iface 70 (.pointer (some ⟨B, 2, none⟩)), .int .i64 i0, .int .i64 m] w fun e w' => (∃ v, e = .returned v) ∧ ∃ F', Third w' B tS c0 c1 (.slice (some ⟨g, 0, none⟩) n c) F' ∧ F'.Perm F ∧ Heap F' m ∧ (∀ k : Nat, m ≤ k → rd F' (k : Int) = rd F (k : Int)) ∧ Kept (fun k => k = g) w w' := by
  have HT := Lib.hid h; clear h
  have HI := Lib.hid hI; clear hI
  have Hl := Lib.hid hl; clear hl
  go_enter Try.func58, Try.ntmps58
  go_wp2
  go_loopw [7] (fun iv wr => ∃ (i : Nat) (F' : List Int), i ≤ m ∧ iv = .int .i64 i ∧ Hid (Third wr B tS c0 c1 (.slice (some ⟨g, 0, none⟩) n c) F') ∧ Hid (F'.Perm F) ∧ Hid (DownInv F' i m) ∧ Hid (∀ k : Nat, m ≤ k → rd F' (k : Int) = rd F (k : Int)) ∧ Hid (Kept (fun k => k = g) w wr)) (fun iv _ => m - (intOf iv).toNat)
  case atStart => exact ⟨i0, F, hi, rfl, HT, Lib.hid (List.Perm.refl _), HI, Lib.hid (fun _ _ => rfl), Lib.hid (Kept.refl _ _)⟩
  case round =>
    obtain ⟨i, F', him, rfl, HT', HP, HI', HB, HK⟩ := hrel
    have hlen : F'.length = n := HP.out.length_eq.trans Hl.out.symm
    have Hlen := Lib.hid hlen; clear hlen
    obtain ⟨j1, hj1⟩ : ∃ j1 : Nat, j1 = 2 * i + 1 := ⟨_, rfl⟩
    have q1 : (2 : Int) * (i : Int) ≤ 9223372036854775806 := by omega
    by_cases h0 : m ≤ j1
    · have hH := DownInv.none F' i m HI'.out (by omega)
      have HH := Lib.hid hH; clear hH
      go_wp2
      go_ret
      exact ⟨⟨_, rfl⟩, F', HT'.out, HP.out, HH.out, HB.out, HK.out⟩
    · have hless : ∀ W (a b : Int) (j k : Nat), a = j → b = k → Row3 W (.slice (some ⟨g, 0, none⟩) n c) F' → j < n → k < n → Calls Try.prog 79 #[(.slice (some ⟨g, 0, none⟩) n c), .int .i64 a, .int .i64 b] W fun e w' => e = .returned (.bool (decide (rd F' a < rd F' b))) ∧ Drawn0 W w' := by
        rintro W a b j k rfl rfl h hj hk
        exact nless_any (.slice (some ⟨g, 0, none⟩) n c) F' W j k h (by rw [Hlen.out]; exact hj) (by rw [Hlen.out]; exact hk) (by rw [Hlen.out]; omega)
      have hswap : ∀ W (a b : Int) (j k : Nat), a = j → b = k → Row3 W (.slice (some ⟨g, 0, none⟩) n c) F' → j < n → k < n → Calls Try.prog 80 #[(.slice (some ⟨g, 0, none⟩) n c), .int .i64 a, .int .i64 b] W fun e w' => e = .returned (.tuple #[]) ∧ Row3 w' (.slice (some ⟨g, 0, none⟩) n c) (swapL F' j k) ∧ Kept (fun k => k = g) W w' := by
        rintro W a b j k rfl rfl h hj hk
        exact nswap_any g n c F' W j k h Hlen.out.symm hj hk (by omega)
      have Hless := Lib.hid hless; have Hswap := Lib.hid hswap
      clear hless hswap
      have e1 := m_less ⟨B, 2, none⟩ wr _ HT'.out.cell
      have e1q := fun q => m_less ⟨B, 2, none⟩ (wr.drewN q) _ (HT'.out.drewN q).cell
      have e2 := fun q => m_swap ⟨B, 2, none⟩ (wr.drewN q) _ (HT'.out.drewN q).cell
      -- what is left, once the lesser child stands
      have fin : ∀ (j : Nat), j < m → (j = 2 * i + 1 ∨ j = 2 * i + 2) → (∀ k : Nat, k < m → (k = 2 * i + 1 ∨ k = 2 * i + 2) → rd F' (j : Int) ≤ rd F' (k : Int)) → (¬ rd F' (j : Int) < rd F' (i : Int) → Heap F' m) ∧ (rd F' (j : Int) < rd F' (i : Int) → DownInv (swapL F' i j) j m ∧ (swapL F' i j).Perm F ∧ ∀ k : Nat, m ≤ k → rd (swapL F' i j) (k : Int) = rd F (k : Int)) := by
        intro j hj hjj hmin
        refine ⟨fun hd => DownInv.last F' i m j HI'.out hjj hmin hd, fun hd => ⟨DownInv.step F' i m j HI'.out (by rw [Hlen.out]; exact hm) hj hjj hmin hd, (swap_perm F' i j (by rw [Hlen.out]; omega) (by rw [Hlen.out]; omega)).trans HP.out, fun k hk => ?_⟩⟩
        rw [rd_swap F' i j k (by rw [Hlen.out]; omega) (by rw [Hlen.out]; omega), if_neg (by omega), if_neg (by omega)]
        exact HB.out k hk
      have Fin := Lib.hid fin; clear fin
      have q2 : (i : Int) < (m : Int) := by omega
      by_cases h2 : 2 * i + 2 < m
      · have d2 : (2 : Int) * (i : Int) + 1 + 1 < (m : Int) := by omega
        by_cases hlt : rd F' (2 * (i : Int) + 1 + 1) < rd F' (2 * (i : Int) + 1)
        · have hd : decide (rd F' (2 * (i : Int) + 1 + 1) < rd F' (2 * (i : Int) + 1)) = true := by simpa using hlt
          have hfin := Fin.out (2 * i + 2) (by omega) (by omega) (by
            intro k hk hkk
            rcases hkk with rfl | rfl
            · rw [show ((2 * i + 2 : Nat) : Int) = 2 * (i : Int) + 1 + 1 by omega, show ((2 * i + 1 : Nat) : Int) = 2 * (i : Int) + 1 by omega]; exact Int.le_of_lt hlt
            · exact Int.le_refl _)
          rw [show ((2 * i + 2 : Nat) : Int) = 2 * (i : Int) + 1 + 1 by omega] at hfin
          by_cases hsw : rd F' (2 * (i : Int) + 1 + 1) < rd F' (i : Int)
          · have hd2 : decide (rd F' (2 * (i : Int) + 1 + 1) < rd F' (i : Int)) = true := by simpa using hsw
            have Hf := Lib.hid (hfin.2 hsw); clear hfin
            go_wp2_with (first | (go_at_call 79; refine (Hless.out _ _ _ (2 * i + 2) (2 * i + 1) (by omega) (by omega) (by first | exact HT'.out.row | exact (HT'.out.drewN _).row) (by omega) (by omega)).mono ?_; rintro e w1 ⟨rfl, ⟨q, rfl⟩⟩; have e3 := e1q q) | (go_at_call 79; refine (Hless.out _ _ _ (2 * i + 2) i (by omega) (by omega) (by first | exact HT'.out.row | exact (HT'.out.drewN _).row) (by omega) (by omega)).mono ?_; rintro e w1 ⟨rfl, ⟨q', rfl⟩⟩; have e4 := e2 (q + q')) | (go_at_call 80; refine (Hswap.out _ _ _ i (2 * i + 2) (by omega) (by omega) (HT'.out.drewN _).row (by omega) (by omega)).mono ?_; rintro e w2 ⟨rfl, hr2, hk2⟩))
            go_roundw
            case rel => exact ⟨2 * i + 2, _, by omega, congrArg _ (by omega), Lib.hid ((HT'.out.drewN _).of ht hk2 hr2), Lib.hid Hf.out.2.1, Lib.hid Hf.out.1, Lib.hid Hf.out.2.2, Lib.hid (HK.out.trans ((Kept.drewN (Kept.refl _ _) _).trans (hk2.mono (fun k e _ => .inl (.inl e)))))⟩
            case measure => simp [intOf]; omega
          · have hd2 : decide (rd F' (2 * (i : Int) + 1 + 1) < rd F' (i : Int)) = false := by simpa using hsw
            have Hf := Lib.hid (hfin.1 hsw); clear hfin
            go_wp2_with (first | (go_at_call 79; refine (Hless.out _ _ _ (2 * i + 2) (2 * i + 1) (by omega) (by omega) (by first | exact HT'.out.row | exact (HT'.out.drewN _).row) (by omega) (by omega)).mono ?_; rintro e w1 ⟨rfl, ⟨q, rfl⟩⟩; have e3 := e1q q) | (go_at_call 79; refine (Hless.out _ _ _ (2 * i + 2) i (by omega) (by omega) (by first | exact HT'.out.row | exact (HT'.out.drewN _).row) (by omega) (by omega)).mono ?_; rintro e w1 ⟨rfl, ⟨q', rfl⟩⟩; have e4 := e2 (q + q')))
            go_ret
            exact ⟨⟨_, rfl⟩, F', HT'.out.drewN _, HP.out, Hf.out, HB.out, HK.out.drewN _⟩
        · have hd : decide (rd F' (2 * (i : Int) + 1 + 1) < rd F' (2 * (i : Int) + 1)) = false := by simpa using hlt
          have hfin := Fin.out (2 * i + 1) (by omega) (by omega) (by
            intro k hk hkk
            rcases hkk with rfl | rfl
            · exact Int.le_refl _
            · rw [show ((2 * i + 2 : Nat) : Int) = 2 * (i : Int) + 1 + 1 by omega, show ((2 * i + 1 : Nat) : Int) = 2 * (i : Int) + 1 by omega]; exact Int.not_lt.1 hlt)
          rw [show ((2 * i + 1 : Nat) : Int) = 2 * (i : Int) + 1 by omega] at hfin
          by_cases hsw : rd F' (2 * (i : Int) + 1) < rd F' (i : Int)
          · have hd2 : decide (rd F' (2 * (i : Int) + 1) < rd F' (i : Int)) = true := by simpa using hsw
            have Hf := Lib.hid (hfin.2 hsw); clear hfin
            go_wp2_with (first | (go_at_call 79; refine (Hless.out _ _ _ (2 * i + 2) (2 * i + 1) (by omega) (by omega) (by first | exact HT'.out.row | exact (HT'.out.drewN _).row) (by omega) (by omega)).mono ?_; rintro e w1 ⟨rfl, ⟨q, rfl⟩⟩; have e3 := e1q q) | (go_at_call 79; refine (Hless.out _ _ _ (2 * i + 1) i (by omega) (by omega) (by first | exact HT'.out.row | exact (HT'.out.drewN _).row) (by omega) (by omega)).mono ?_; rintro e w1 ⟨rfl, ⟨q', rfl⟩⟩; have e4 := e2 (q + q')) | (go_at_call 80; refine (Hswap.out _ _ _ i (2 * i + 1) (by omega) (by omega) (HT'.out.drewN _).row (by omega) (by omega)).mono ?_; rintro e w2 ⟨rfl, hr2, hk2⟩))
            go_roundw
            case rel => exact ⟨2 * i + 1, _, by omega, congrArg _ (by omega), Lib.hid ((HT'.out.drewN _).of ht hk2 hr2), Lib.hid Hf.out.2.1, Lib.hid Hf.out.1, Lib.hid Hf.out.2.2, Lib.hid (HK.out.trans ((Kept.drewN (Kept.refl _ _) _).trans (hk2.mono (fun k e _ => .inl (.inl e)))))⟩
            case measure => simp [intOf]; omega
          · have hd2 : decide (rd F' (2 * (i : Int) + 1) < rd F' (i : Int)) = false := by simpa using hsw
            have Hf := Lib.hid (hfin.1 hsw); clear hfin
            go_wp2_with (first | (go_at_call 79; refine (Hless.out _ _ _ (2 * i + 2) (2 * i + 1) (by omega) (by omega) (by first | exact HT'.out.row | exact (HT'.out.drewN _).row) (by omega) (by omega)).mono ?_; rintro e w1 ⟨rfl, ⟨q, rfl⟩⟩; have e3 := e1q q) | (go_at_call 79; refine (Hless.out _ _ _ (2 * i + 1) i (by omega) (by omega) (by first | exact HT'.out.row | exact (HT'.out.drewN _).row) (by omega) (by omega)).mono ?_; rintro e w1 ⟨rfl, ⟨q', rfl⟩⟩; have e4 := e2 (q + q')))
            go_ret
            exact ⟨⟨_, rfl⟩, F', HT'.out.drewN _, HP.out, Hf.out, HB.out, HK.out.drewN _⟩
      · have d2 : ¬ (2 : Int) * (i : Int) + 1 + 1 < (m : Int) := by omega
        have hfin := Fin.out (2 * i + 1) (by omega) (by omega) (by
          intro k hk hkk
          obtain rfl : k = 2 * i + 1 := by omega
          exact Int.le_refl _)
        rw [show ((2 * i + 1 : Nat) : Int) = 2 * (i : Int) + 1 by omega] at hfin
        by_cases hsw : rd F' (2 * (i : Int) + 1) < rd F' (i : Int)
        · have hd2 : decide (rd F' (2 * (i : Int) + 1) < rd F' (i : Int)) = true := by simpa using hsw
          have Hf := Lib.hid (hfin.2 hsw); clear hfin
          go_wp2_with (first | (go_at_call 79; refine (Hless.out _ _ _ (2 * i + 1) i (by omega) (by omega) (by first | exact HT'.out.row | exact (HT'.out.drewN _).row) (by omega) (by omega)).mono ?_; rintro e w1 ⟨rfl, ⟨q', rfl⟩⟩; have e4 := e2 q') | (go_at_call 80; refine (Hswap.out _ _ _ i (2 * i + 1) (by omega) (by omega) (HT'.out.drewN _).row (by omega) (by omega)).mono ?_; rintro e w2 ⟨rfl, hr2, hk2⟩))
          go_roundw
          case rel => exact ⟨2 * i + 1, _, by omega, congrArg _ (by omega), Lib.hid ((HT'.out.drewN _).of ht hk2 hr2), Lib.hid Hf.out.2.1, Lib.hid Hf.out.1, Lib.hid Hf.out.2.2, Lib.hid (HK.out.trans ((Kept.drewN (Kept.refl _ _) _).trans (hk2.mono (fun k e _ => .inl (.inl e)))))⟩
          case measure => simp [intOf]; omega
        · have hd2 : decide (rd F' (2 * (i : Int) + 1) < rd F' (i : Int)) = false := by simpa using hsw
          have Hf := Lib.hid (hfin.1 hsw); clear hfin
          go_wp2_with (first | (go_at_call 79; refine (Hless.out _ _ _ (2 * i + 1) i (by omega) (by omega) (by first | exact HT'.out.row | exact (HT'.out.drewN _).row) (by omega) (by omega)).mono ?_; rintro e w1 ⟨rfl, ⟨q', rfl⟩⟩; have e4 := e2 q'))
          go_ret
          exact ⟨⟨_, rfl⟩, F', HT'.out.drewN _, HP.out, Hf.out, HB.out, HK.out.drewN _⟩
end Go.Proofs.Ytgchgkffoplogaa
