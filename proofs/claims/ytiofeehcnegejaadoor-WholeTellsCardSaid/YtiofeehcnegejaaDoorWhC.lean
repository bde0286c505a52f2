/- Words: compare. -/
import Derived.Test.YtiofeehcnegejaaDoorWhB
namespace Go.Proofs.YtiofeehcnegejaaDoor
open Go.RowKit Go.Proofs.YtiofeehcnegejaaDoorW.PrintWords
set_option linter.unusedVariables false
set_option linter.unusedSimpArgs false

theorem rd_take (xs : List Int) (k i : Nat) (h : i < k) : rd (xs.take k) (i : Int) = rd xs (i : Int) := by
  unfold rd
  rw [Int.toNat_natCast, List.getD_eq_getElem?_getD, List.getElem?_take, if_pos h, ← List.getD_eq_getElem?_getD]
theorem drewN_two (w : World) (a b : Nat) : (w.drewN a).drewN b = w.drewN (a + b) := by simp
/-- At the loop's head the words from i on are alike. -/
def AlikeFrom (xs ys : List Int) (t i : Nat) : Prop := Dv.valW ((xs.take t).drop i) = Dv.valW ((ys.take t).drop i)

set_option maxRecDepth 100000 in
set_option maxHeartbeats 1600000 in
theorem compare_any (A B : Option Addr) (n n' c c' : Nat) (xs ys : List Int) (w : World) (hx : Dv.Wd xs) (hy : Dv.Wd ys) (hr : ReadsInt w .u32 A n xs) (hr' : ReadsInt w .u32 B n' ys) (hc : n ≤ c) (hc' : n' ≤ c') (hn : n ≤ 9223372036854775807) (hn' : n' ≤ 9223372036854775807) :
    Calls Tryd.prog 44 #[.slice A n c, .slice B n' c'] w fun e w' => e = .returned (.int .i64 (cmpI (Dv.valW xs) (Dv.valW ys))) ∧ ∃ q, w' = w.drewN q := by
  have ht1 := trim_any A n c xs w hr hc hn
  have ht2 := fun q => trim_any B n' c' ys (w.drewN q) hr' hc' hn'
  have hl1 : trimLen xs ≤ n := by have := trimLen_le xs; have := hr.1; omega
  have hl2 : trimLen ys ≤ n' := by have := trimLen_le ys; have := hr'.1; omega
  obtain ⟨s, hs⟩ : ∃ s, s = trimLen xs := ⟨_, rfl⟩
  obtain ⟨t, ht⟩ : ∃ t, t = trimLen ys := ⟨_, rfl⟩
  obtain ⟨r, hrr⟩ : ∃ r, r = cmpI (Dv.valW xs) (Dv.valW ys) := ⟨_, rfl⟩
  rw [← hs] at ht1 hl1
  rw [← ht] at ht2 hl2
  rw [← hrr]
  have Ht1 := Lib.hid ht1; have Ht2 := Lib.hid ht2; have Hs := Lib.hid hs; have Ht := Lib.hid ht; have Hrr := Lib.hid hrr; have Hr := Lib.hid hr; have Hr' := Lib.hid hr'
  clear ht1 ht2 hs ht hrr hr hr'
  by_cases hst : s = t
  · subst hst
    have hbs : ((s : Int) == (s : Int)) = true := beq_self_eq_true _
    go_enter Tryd.func44, Tryd.ntmps44
    go_wp2_with (first | (go_at_call 54; refine (Ht2.out q1).mono ?_; rintro e w2 ⟨rfl, q2, rfl⟩) | (go_at_call 54; refine Ht1.out.mono ?_; rintro e w1 ⟨rfl, q1, rfl⟩))
    have hlx : (xs.take s).length = s := by rw [List.length_take]; have := trimLen_le xs; have := Hs.out; omega
    have hly : (ys.take s).length = s := by rw [List.length_take]; have := trimLen_le ys; have := Ht.out; omega
    have hvx := valW_trim xs
    have hvy := valW_trim ys
    rw [← Hs.out] at hvx
    rw [← Ht.out] at hvy
    have Hlx := Lib.hid hlx; have Hly := Lib.hid hly; have Hvx := Lib.hid hvx; have Hvy := Lib.hid hvy
    clear hlx hly hvx hvy
    go_loopw [5] (fun iv wr => ∃ (i q : Nat) (z : Int), i ≤ s ∧ z + 1 = (i : Int) ∧ iv = .int .i64 z ∧ Hid (AlikeFrom xs ys s i) ∧ wr = w.drewN q) (fun iv _ => (intOf iv + 1).toNat)
    case atStart => exact ⟨s, _, (s : Int) - 1, Nat.le_refl _, by omega, rfl, Lib.hid (by unfold AlikeFrom; rw [List.drop_eq_nil_of_le (by rw [Hlx.out]; omega), List.drop_eq_nil_of_le (by rw [Hly.out]; omega)]), rfl⟩
    case round =>
      obtain ⟨i, q, z, hi, hz, rfl, HA, rfl⟩ := hrel
      cases i with
      | zero =>
        obtain rfl : z = -1 := by omega
        have hv : Dv.valW xs = Dv.valW ys := by
          have h := HA.out
          unfold AlikeFrom at h
          rw [List.drop_zero, List.drop_zero, Hvx.out, Hvy.out] at h
          exact h
        have hv2 : r = 0 := by rw [Hrr.out, cmpI_eq hv]
        subst hv2
        clear hv hz
        go_wp2
        go_ret
        exact ⟨rfl, _, rfl⟩
      | succ k =>
        obtain rfl : z = (k : Int) := by omega
        obtain ⟨ad, rfl, hcx⟩ := Hr.out.at_ (k : Int) (by omega) (by omega)
        obtain ⟨bd, rfl, hcy⟩ := Hr'.out.at_ (k : Int) (by omega) (by omega)
        rw [Int.toNat_natCast] at hcx hcy
        have hdx := Dv.valW_drop (xs := xs.take s) (k := k) (by rw [Hlx.out]; omega)
        have hdy := Dv.valW_drop (xs := ys.take s) (k := k) (by rw [Hly.out]; omega)
        have hwx := hx.get (k : Int)
        have hwy := hy.get (k : Int)
        have hless : rd xs (k : Int) < rd ys (k : Int) → Dv.valW xs < Dv.valW ys := fun h => by
          have h2 := val_word (hx.take s) (hy.take s) (k := k) (by rw [Hlx.out]; omega) (by rw [Hly.out]; omega) HA.out (by rw [rd_take _ _ _ (by omega), rd_take _ _ _ (by omega)]; exact h)
          rwa [Hvx.out, Hvy.out] at h2
        have hmore : rd ys (k : Int) < rd xs (k : Int) → Dv.valW ys < Dv.valW xs := fun h => by
          have h2 := val_word (hy.take s) (hx.take s) (k := k) (by rw [Hly.out]; omega) (by rw [Hlx.out]; omega) HA.out.symm (by rw [rd_take _ _ _ (by omega), rd_take _ _ _ (by omega)]; exact h)
          rwa [Hvx.out, Hvy.out] at h2
        have halike : rd xs (k : Int) = rd ys (k : Int) → AlikeFrom xs ys s k := fun h => by
          have h2 := HA.out
          unfold AlikeFrom at h2 ⊢
          rw [hdx, hdy, h2, rd_take _ _ _ (by omega), rd_take _ _ _ (by omega), h]
        have p0 : (0 : Int) ≤ (k : Int) := by omega
        have p1 : (k : Int) < (s : Int) := by omega
        have Hless := Lib.hid hless; have Hmore := Lib.hid hmore; have Halike := Lib.hid halike
        clear hdx hdy hless hmore halike hz hwx hwy
        generalize rd xs (k : Int) = x at *
        generalize rd ys (k : Int) = y at *
        by_cases h1 : x < y
        · have hv2 : r = -1 := by rw [Hrr.out, cmpI_lt (Hless.out h1)]
          subst hv2
          have q1' : decide (x < y) = true := by simpa using h1
          clear h1
          go_upto_region 9 with (fail)
          go_quiet (fail)
          go_wp2
          go_ret
          exact ⟨rfl, _, drewN_two w q _⟩
        · have q1' : decide (x < y) = false := by simpa using h1
          by_cases h2 : y < x
          · have hv2 : r = 1 := by rw [Hrr.out, cmpI_gt (Hmore.out h2)]
            subst hv2
            have q2' : decide (y < x) = true := by simpa using h2
            clear h1 h2
            go_upto_region 9 with (fail)
            go_quiet (fail)
            go_upto_region 11 with (fail)
            go_quiet (fail)
            go_wp2
            go_ret
            exact ⟨rfl, _, (congrArg (World.drewN · _) (drewN_two w q _)).trans (drewN_two w _ _)⟩
          · have hal := Halike.out (by omega)
            have Hal := Lib.hid hal
            have q2' : decide (y < x) = false := by simpa using h2
            clear h1 h2 hal
            go_upto_region 9 with (fail)
            go_quiet (fail)
            go_upto_region 11 with (fail)
            go_quiet (fail)
            go_wp2
            go_roundw
            case rel => exact ⟨k, _, (k : Int) - 1, by omega, by omega, rfl, Hal, rfl⟩
            case measure => simp [intOf]
  · by_cases hlt : s < t
    · have hv := val_len hx hy (by rw [← Hs.out, ← Ht.out]; exact hlt)
      have hv2 : r = -1 := by rw [Hrr.out, cmpI_lt hv]
      subst hv2
      have p1 : ¬ (s : Int) = (t : Int) := by omega
      have p2 : (s : Int) < (t : Int) := by omega
      clear hv
      go_enter Tryd.func44, Tryd.ntmps44
      go_wp2_with (first | (go_at_call 54; refine (Ht2.out q1).mono ?_; rintro e w2 ⟨rfl, q2, rfl⟩) | (go_at_call 54; refine Ht1.out.mono ?_; rintro e w1 ⟨rfl, q1, rfl⟩))
      go_ret
      exact ⟨rfl, _, rfl⟩
    · have hv := val_len hy hx (by rw [← Hs.out, ← Ht.out]; omega)
      have hv2 : r = 1 := by rw [Hrr.out, cmpI_gt hv]
      subst hv2
      have p1 : ¬ (s : Int) = (t : Int) := by omega
      have p2 : ¬ (s : Int) < (t : Int) := by omega
      clear hv
      go_enter Tryd.func44, Tryd.ntmps44
      go_wp2_with (first | (go_at_call 54; refine (Ht2.out q1).mono ?_; rintro e w2 ⟨rfl, q2, rfl⟩) | (go_at_call 54; refine Ht1.out.mono ?_; rintro e w1 ⟨rfl, q1, rfl⟩))
      go_ret
      exact ⟨rfl, _, rfl⟩
end Go.Proofs.YtiofeehcnegejaaDoor
