/- math/bits.Div64 and Rem64 (turned from the seat of law3 by port_dd.py). -/
import Derived.Test.YtiofeehcnegejaaDoorWhS
import Derived.Deep.DeepCutAuto
import Derived.Deep.CutBlock
namespace Go.Proofs.YtiofeehcnegejaaDoor
open Go.RowKit Go.Proofs.YtiofeehcnegejaaDoorW.PrintWords
set_option linter.unusedVariables false

theorem div_small (lo y : Int) (w : World) (hl0 : 0 ≤ lo) (hl1 : lo ≤ 18446744073709551615) (hy0 : 0 < y) (hy1 : y ≤ 18446744073709551615) :
    Calls Tryd.prog 81 #[.int .u64 0, .int .u64 lo, .int .u64 y] w fun e w' => e = .returned (.tuple #[.int .u64 (lo / y), .int .u64 (lo % y)]) ∧ Drawn0 w w' := by
  have hy : (y == 0) = false := beq_eq_false_iff_ne.2 (by omega)
  go_enter Tryd.func81, Tryd.ntmps81
  go_wp2
  go_quiet (fail)
  go_wp2
  go_ret2
  exact ⟨rfl, ⟨_, rfl⟩⟩

set_option maxHeartbeats 3200000 in
set_option maxRecDepth 100000 in
/-- Div64 where the higher word is not 0: Y is the divisor shifted so that its highest digit is 1; p, c its halves; U, d1, d0 the shifted number's words. -/
theorem div_great (hi lo y Y p c U L d1 d0 m1 m0 Q1 R1 Q0 R : Int) (s : Nat) (w : World) (hh0 : 0 < hi) (hhy : hi < y) (hl0 : 0 ≤ lo) (hl1 : lo ≤ 18446744073709551615) (hy1 : y ≤ 18446744073709551615) (hs : s ≤ 63)
    (hlz : ∀ w, Calls Tryd.prog 93 #[.int .u64 y] w fun e w' => e = .returned (.int .i64 (s : Int)) ∧ w = w')
    (e1 : IntKind.u64.wrap (y * 2 ^ s) = Y) (e2 : Y / 4294967296 = p) (e3 : bits .and .u64 Y 4294967295 = c)
    (e4 : bits .or .u64 (IntKind.u64.wrap (hi * 2 ^ s)) (lo / 2 ^ (64 - s)) = U) (e5 : IntKind.u64.wrap (lo * 2 ^ s) = L) (e6 : L / 4294967296 = d1) (e7 : bits .and .u64 L 4294967295 = d0)
    (hp0 : 2147483648 ≤ p) (hp1 : p < 4294967296) (hc0 : 0 ≤ c) (hc1 : c < 4294967296) (hU0 : 0 ≤ U) (hU1 : U ≤ 18446744073709551615) (hUY : U < p * 4294967296 + c) (hd10 : 0 ≤ d1) (hd11 : d1 < 4294967296) (hd00 : 0 ≤ d0) (hd01 : d0 < 4294967296)
    (e8 : IntKind.u64.wrap (U / p * p) = m1) (HI1 : Hid (Dv.Inv 4294967296 p c U d1 (U / p) (U - m1))) (hs1 : 0 ≤ U / p ∧ U / p ≤ 4294967297 ∧ 0 ≤ U - m1 ∧ U - m1 < 4294967296)
    (HQ1 : Hid (Q1 = (U * 4294967296 + d1) / (p * 4294967296 + c))) (hQ10 : 0 ≤ Q1) (hQ11 : Q1 < 4294967296)
    (e9 : IntKind.u64.wrap (IntKind.u64.wrap (IntKind.u64.wrap (U * 4294967296) + d1) - IntKind.u64.wrap (Q1 * Y)) = R1) (hR0 : 0 ≤ R1) (hR1 : R1 ≤ 18446744073709551615) (hRY : R1 < p * 4294967296 + c)
    (e10 : IntKind.u64.wrap (R1 / p * p) = m0) (HI0 : Hid (Dv.Inv 4294967296 p c R1 d0 (R1 / p) (R1 - m0))) (hs0 : 0 ≤ R1 / p ∧ R1 / p ≤ 4294967297 ∧ 0 ≤ R1 - m0 ∧ R1 - m0 < 4294967296)
    (HQ0 : Hid (Q0 = (R1 * 4294967296 + d0) / (p * 4294967296 + c))) (hQ00 : 0 ≤ Q0) (hQ01 : Q0 < 4294967296)
    (e11 : IntKind.u64.wrap (IntKind.u64.wrap (IntKind.u64.wrap (R1 * 4294967296) + d0) - IntKind.u64.wrap (Q0 * Y)) = R) :
    Calls Tryd.prog 81 #[.int .u64 hi, .int .u64 lo, .int .u64 y] w fun e w' => e = .returned (.tuple #[.int .u64 (Q1 * 4294967296 + Q0), .int .u64 (R / 2 ^ s)]) ∧ w = w' := by
  have hy : (y == 0) = false := beq_eq_false_iff_ne.2 (by omega)
  have hh : (hi == 0) = false := beq_eq_false_iff_ne.2 (by omega)
  have Hlz := Lib.hid hlz; clear hlz
  have hp : (p == 0) = false := beq_eq_false_iff_ne.2 (by omega)
  obtain ⟨h11, h12, h13, h14⟩ := hs1
  obtain ⟨h01, h02, h03, h04⟩ := hs0
  go_enter Tryd.func81, Tryd.ntmps81
  go_upto_block 0 with (go_at_call 93; refine (Hlz.out _).mono ?_; rintro e w' ⟨rfl, rfl⟩)
  go_cut [15] (fun a wc => a = .int .u64 Q1 ∧ w = wc)
  case first =>
    clear e9 e10 e11
    go_wp2
    go_loop [15, 16] (fun a e => ∃ q r : Int, a = .int .u64 q ∧ e = .int .u64 r ∧ Hid (Dv.Inv 4294967296 p c U d1 q r) ∧ 0 ≤ q ∧ q ≤ 4294967297 ∧ 0 ≤ r ∧ r < 4294967296) (fun a _ => (intOf a).toNat)
    case atStart => exact ⟨_, _, rfl, rfl, HI1, by omega, by omega, by omega, by omega⟩
    case round =>
      obtain ⟨q, r, rfl, rfl, HI, hq0, hq1, hr0, hr1⟩ := hrel
      by_cases hqb : 4294967296 ≤ q
      · obtain ⟨hI', hq', hq''⟩ := Dv.down (by omega) (by omega) hc0 hU0 hUY hd10 hd11 HI.out (.inl hqb)
        have HI' := Lib.hid hI'; clear hI' HI
        by_cases hrb : 4294967296 ≤ r + p
        · have HE := Lib.hid (Dv.last (by omega) (by omega) hc0 hc1 hU0 hUY hd10 hd11 HI'.out hq' hrb)
          go_wp2
          go_meet
          exact ⟨by rw [HQ1.out, HE.out], rfl⟩
        · go_wp2
          go_round
          case rel => exact ⟨_, _, rfl, rfl, HI', by omega, by omega, by omega, by omega⟩
          case measure => simp [intOf]; omega
      · obtain ⟨m, hm⟩ : ∃ m : Int, q * c = m := ⟨_, rfl⟩
        have hm0 : 0 ≤ m := by rw [← hm]; exact Int.mul_nonneg hq0 hc0
        have hm1 : m ≤ 18446744073709551615 := by rw [← hm]; exact Dv.prod_le hq0 (by omega) hc0 (by omega)
        have ew : IntKind.u64.wrap (q * c) = m := by rw [hm]; exact IntWalk.u64_in m ⟨hm0, hm1⟩
        have Hm := Lib.hid hm; clear hm
        by_cases hB : 4294967296 * r + d1 < m
        · have hBB : Dv.Big 4294967296 c d1 q r := .inr (by rw [Hm.out]; exact hB)
          obtain ⟨hI', hq', hq''⟩ := Dv.down (by omega) (by omega) hc0 hU0 hUY hd10 hd11 HI.out hBB
          have HI' := Lib.hid hI'; clear hI' HI hBB
          by_cases hrb : 4294967296 ≤ r + p
          · have HE := Lib.hid (Dv.last (by omega) (by omega) hc0 hc1 hU0 hUY hd10 hd11 HI'.out hq' hrb)
            go_wp2
            go_meet
            exact ⟨by rw [HQ1.out, HE.out], rfl⟩
          · go_wp2
            go_round
            case rel => exact ⟨_, _, rfl, rfl, HI', by omega, by omega, by omega, by omega⟩
            case measure => simp [intOf]; omega
        · have hBB : ¬ Dv.Big 4294967296 c d1 q r := fun h => Or.elim h hqb (fun h => hB (by rw [← Hm.out]; exact h))
          have HE := Lib.hid (Dv.done (by omega) (by omega) hc0 hU0 hUY hd10 hd11 HI.out hBB).1
          clear hBB
          go_wp2
          go_meet
          exact ⟨by rw [HQ1.out, HE.out], rfl⟩
  case rest =>
    obtain ⟨rfl, rfl⟩ := hcut
    go_upto_block 2 with (fail)
    go_cut [18] (fun a wc => a = .int .u64 Q0 ∧ w = wc)
    case first =>
      clear e9 e10 e11
      go_wp2
      go_loop [18, 16] (fun a e => ∃ q r : Int, a = .int .u64 q ∧ e = .int .u64 r ∧ Hid (Dv.Inv 4294967296 p c R1 d0 q r) ∧ 0 ≤ q ∧ q ≤ 4294967297 ∧ 0 ≤ r ∧ r < 4294967296) (fun a _ => (intOf a).toNat)
      case atStart => exact ⟨_, _, rfl, rfl, HI0, by omega, by omega, by omega, by omega⟩
      case round =>
        obtain ⟨q, r, rfl, rfl, HI, hq0, hq1, hr0, hr1⟩ := hrel
        by_cases hqb : 4294967296 ≤ q
        · obtain ⟨hI', hq', hq''⟩ := Dv.down (by omega) (by omega) hc0 hR0 hRY hd00 hd01 HI.out (.inl hqb)
          have HI' := Lib.hid hI'; clear hI' HI
          by_cases hrb : 4294967296 ≤ r + p
          · have HE := Lib.hid (Dv.last (by omega) (by omega) hc0 hc1 hR0 hRY hd00 hd01 HI'.out hq' hrb)
            go_wp2
            go_meet
            exact ⟨by rw [HQ0.out, HE.out], rfl⟩
          · go_wp2
            go_round
            case rel => exact ⟨_, _, rfl, rfl, HI', by omega, by omega, by omega, by omega⟩
            case measure => simp [intOf]; omega
        · obtain ⟨m, hm⟩ : ∃ m : Int, q * c = m := ⟨_, rfl⟩
          have hm0 : 0 ≤ m := by rw [← hm]; exact Int.mul_nonneg hq0 hc0
          have hm1 : m ≤ 18446744073709551615 := by rw [← hm]; exact Dv.prod_le hq0 (by omega) hc0 (by omega)
          have ew : IntKind.u64.wrap (q * c) = m := by rw [hm]; exact IntWalk.u64_in m ⟨hm0, hm1⟩
          have Hm := Lib.hid hm; clear hm
          by_cases hB : 4294967296 * r + d0 < m
          · have hBB : Dv.Big 4294967296 c d0 q r := .inr (by rw [Hm.out]; exact hB)
            obtain ⟨hI', hq', hq''⟩ := Dv.down (by omega) (by omega) hc0 hR0 hRY hd00 hd01 HI.out hBB
            have HI' := Lib.hid hI'; clear hI' HI hBB
            by_cases hrb : 4294967296 ≤ r + p
            · have HE := Lib.hid (Dv.last (by omega) (by omega) hc0 hc1 hR0 hRY hd00 hd01 HI'.out hq' hrb)
              go_wp2
              go_meet
              exact ⟨by rw [HQ0.out, HE.out], rfl⟩
            · go_wp2
              go_round
              case rel => exact ⟨_, _, rfl, rfl, HI', by omega, by omega, by omega, by omega⟩
              case measure => simp [intOf]; omega
          · have hBB : ¬ Dv.Big 4294967296 c d0 q r := fun h => Or.elim h hqb (fun h => hB (by rw [← Hm.out]; exact h))
            have HE := Lib.hid (Dv.done (by omega) (by omega) hc0 hR0 hRY hd00 hd01 HI.out hBB).1
            clear hBB
            go_wp2
            go_meet
            exact ⟨by rw [HQ0.out, HE.out], rfl⟩
    case rest =>
      obtain ⟨rfl, rfl⟩ := hcut
      go_wp2
      go_ret2
      exact ⟨rfl, rfl⟩
end Go.Proofs.YtiofeehcnegejaaDoor
namespace Go.Proofs.YtiofeehcnegejaaDoor
open Go.RowKit Go.Proofs.YtiofeehcnegejaaDoorW.PrintWords
set_option linter.unusedVariables false

theorem div64_any (hi lo y : Int) (w : World) (hh0 : 0 ≤ hi) (hhy : hi < y) (hl0 : 0 ≤ lo) (hl1 : lo ≤ 18446744073709551615) (hy1 : y ≤ 18446744073709551615) :
    Calls Tryd.prog 81 #[.int .u64 hi, .int .u64 lo, .int .u64 y] w fun e w' =>
      e = .returned (.tuple #[.int .u64 ((hi * 18446744073709551616 + lo) / y), .int .u64 ((hi * 18446744073709551616 + lo) % y)]) ∧ Drawn0 w w' := by
  by_cases h0 : hi = 0
  · subst h0
    have e : (0 : Int) * 18446744073709551616 + lo = lo := by omega
    rw [e]
    exact div_small lo y w hl0 hl1 (by omega) hy1
  obtain ⟨s, hs, es, hY0, hY1⟩ := Dv.shift_word y (by omega) hy1
  have ht := Dv.pow_pos' s
  obtain ⟨hg0, hg1, hsp⟩ := Dv.split_low hi lo s hs hl0 hl1
  have hiY : hi * 2 ^ s + 2 ^ s ≤ y * 2 ^ s := by
    have := Int.mul_le_mul_of_nonneg_right (show hi + 1 ≤ y by omega) (show (0 : Int) ≤ 2 ^ s by omega)
    rw [Int.add_mul, Int.one_mul] at this
    exact this
  have hi0 : 0 ≤ hi * 2 ^ s := Int.mul_nonneg hh0 (by omega)
  have hlz : ∀ w, Calls Tryd.prog 93 #[.int .u64 y] w fun e w' => e = .returned (.int .i64 (s : Int)) ∧ w = w' := fun w =>
    (Tryd.bits_LeadingZeros64 y w (by omega) hy1).mono fun e w' ⟨he, hw⟩ => ⟨by rw [he, es], hw.symm⟩
  have sh : ∀ X : Int, (X * 2 ^ s) / (y * 2 ^ s) = X / y ∧ (X * 2 ^ s) % (y * 2 ^ s) = X % y * 2 ^ s := fun X => Dv.shifted (by omega) ht
  have sh1 := (sh (hi * 18446744073709551616 + lo)).1
  have sh2 := (sh (hi * 18446744073709551616 + lo)).2
  rw [← hsp] at sh1 sh2
  have hlast : (hi * 18446744073709551616 + lo) % y * 2 ^ s / 2 ^ s = (hi * 18446744073709551616 + lo) % y := Int.mul_ediv_cancel _ (by omega)
  have e1 : IntKind.u64.wrap (y * 2 ^ s) = y * 2 ^ s := IntWalk.u64_in _ ⟨by omega, hY1⟩
  have e4 : bits .or .u64 (IntKind.u64.wrap (hi * 2 ^ s)) (lo / 2 ^ (64 - s)) = hi * 2 ^ s + lo / 2 ^ (64 - s) := by
    rw [IntWalk.u64_in (hi * 2 ^ s) ⟨hi0, by omega⟩]
    exact Dv.or_sum hi _ s hh0 (by omega) hg0 hg1 (by omega)
  have e5 : IntKind.u64.wrap (lo * 2 ^ s) = (lo * 2 ^ s) % 18446744073709551616 := Dv.u64w _
  have hL0 : 0 ≤ (lo * 2 ^ s) % 18446744073709551616 := Int.emod_nonneg _ (by omega)
  have hL1 : (lo * 2 ^ s) % 18446744073709551616 < 18446744073709551616 := Int.emod_lt_of_pos _ (by omega)
  obtain ⟨Y, hY⟩ : ∃ Y, y * 2 ^ s = Y := ⟨_, rfl⟩
  obtain ⟨L, hL⟩ : ∃ L, (lo * 2 ^ s) % 18446744073709551616 = L := ⟨_, rfl⟩
  replace e1 := e1.trans hY
  replace e5 := e5.trans hL
  rw [hY] at hY0 hY1 hiY sh1 sh2
  rw [hL] at hL0 hL1 sh1 sh2 hsp
  clear hY hL
  have hU : ∃ U, hi * 2 ^ s + lo / 2 ^ (64 - s) = U := ⟨_, rfl⟩
  obtain ⟨U, hU⟩ := hU
  rw [hU] at e4 sh1 sh2
  have hU0 : 0 ≤ U := by omega
  have hUY : U < Y := by omega
  clear hU hiY hi0 hg0 hg1 hsp
  have hYc : Y / 4294967296 * 4294967296 + Y % 4294967296 = Y := by omega
  have S1 := Dv.start (b := 4294967296) (p := Y / 4294967296) (s := Y % 4294967296) (u := U) (d := L / 4294967296) (by omega) (by omega) (by omega) (by omega) (by omega) hU0 (by omega) (by omega) (by omega)
  have A1 := S1.eq
  have A2 := S1.q0
  have A3 := S1.q1
  have A4 := S1.r0
  have A5 : U - U / (Y / 4294967296) * (Y / 4294967296) < 4294967296 := by
    have := Int.emod_lt_of_pos U (show 0 < Y / 4294967296 by omega)
    have := Int.mul_ediv_add_emod U (Y / 4294967296)
    rw [Int.mul_comm] at this
    omega
  have B0 : 0 ≤ U * 4294967296 + L / 4294967296 := by omega
  have C1 := Int.mul_ediv_add_emod (U * 4294967296 + L / 4294967296) Y
  have C2 := Int.emod_nonneg (U * 4294967296 + L / 4294967296) (show Y ≠ 0 by omega)
  have C3 := Int.emod_lt_of_pos (U * 4294967296 + L / 4294967296) (show 0 < Y by omega)
  have C4 : 0 ≤ (U * 4294967296 + L / 4294967296) / Y := Int.ediv_nonneg B0 (by omega)
  have C5 : (U * 4294967296 + L / 4294967296) / Y < 4294967296 := Int.ediv_lt_of_lt_mul (by omega) (by omega)
  rw [Int.mul_comm] at C1
  obtain ⟨Q1, hQ1⟩ : ∃ Q, Q = (U * 4294967296 + L / 4294967296) / Y := ⟨_, rfl⟩
  obtain ⟨R1, hR1⟩ : ∃ R, R = (U * 4294967296 + L / 4294967296) % Y := ⟨_, rfl⟩
  rw [← hQ1, ← hR1] at C1
  rw [← hR1] at C2 C3
  rw [← hQ1] at C4 C5
  have S0 := Dv.start (b := 4294967296) (p := Y / 4294967296) (s := Y % 4294967296) (u := R1) (d := L % 4294967296) (by omega) (by omega) (by omega) (by omega) (by omega) C2 (by omega) (by omega) (by omega)
  have A6 := S0.eq
  have A7 := S0.q0
  have A8 := S0.q1
  have A9 := S0.r0
  have A10 : R1 - R1 / (Y / 4294967296) * (Y / 4294967296) < 4294967296 := by
    have := Int.emod_lt_of_pos R1 (show 0 < Y / 4294967296 by omega)
    have := Int.mul_ediv_add_emod R1 (Y / 4294967296)
    rw [Int.mul_comm] at this
    omega
  have D0 : 0 ≤ R1 * 4294967296 + L % 4294967296 := by omega
  have D1 := Int.mul_ediv_add_emod (R1 * 4294967296 + L % 4294967296) Y
  have D2 := Int.emod_nonneg (R1 * 4294967296 + L % 4294967296) (show Y ≠ 0 by omega)
  have D3 := Int.emod_lt_of_pos (R1 * 4294967296 + L % 4294967296) (show 0 < Y by omega)
  have D4 : 0 ≤ (R1 * 4294967296 + L % 4294967296) / Y := Int.ediv_nonneg D0 (by omega)
  have D5 : (R1 * 4294967296 + L % 4294967296) / Y < 4294967296 := Int.ediv_lt_of_lt_mul (by omega) (by omega)
  rw [Int.mul_comm] at D1
  obtain ⟨Q0, hQ0⟩ : ∃ Q, Q = (R1 * 4294967296 + L % 4294967296) / Y := ⟨_, rfl⟩
  obtain ⟨R0, hR0⟩ : ∃ R, R = (R1 * 4294967296 + L % 4294967296) % Y := ⟨_, rfl⟩
  rw [← hQ0, ← hR0] at D1
  rw [← hR0] at D2 D3
  rw [← hQ0] at D4 D5
  have bth := Dv.both (b := 4294967296) (by omega : 0 < Y) hQ1 hR1 hQ0 hR0
  have e64 : U * (4294967296 * 4294967296) + (L / 4294967296 * 4294967296 + L % 4294967296) = U * 18446744073709551616 + L := by omega
  rw [e64, sh1, sh2] at bth
  have main := div_great hi lo y Y (Y / 4294967296) (Y % 4294967296) U L (L / 4294967296) (L % 4294967296) (U / (Y / 4294967296) * (Y / 4294967296)) (R1 / (Y / 4294967296) * (Y / 4294967296)) Q1 R1 Q0 R0 s w
    (by omega) hhy hl0 hl1 hy1 hs hlz e1 rfl (Dv.and_low Y (by omega) hY1) e4 e5 rfl (Dv.and_low L hL0 (by omega))
    (by omega) (by omega) (by omega) (by omega) hU0 (by omega) (by omega) (by omega) (by omega) (by omega) (by omega)
    (IntWalk.u64_in _ ⟨Int.mul_nonneg A2 (by omega), by omega⟩) (Lib.hid S1) ⟨A2, A3, A4, A5⟩
    (Lib.hid (by rw [hYc]; exact hQ1)) C4 C5
    (Dv.rest_wrap _ _ _ _ (by omega) C2 (by omega)) C2 (by omega) (by omega)
    (IntWalk.u64_in _ ⟨Int.mul_nonneg A7 (by omega), by omega⟩) (Lib.hid S0) ⟨A7, A8, A9, A10⟩
    (Lib.hid (by rw [hYc]; exact hQ0)) D4 D5
    (Dv.rest_wrap _ _ _ _ (by omega) D2 (by omega))
  refine main.mono ?_
  rintro e w' ⟨rfl, rfl⟩
  refine ⟨?_, Drawn0.refl _⟩
  rw [bth.1, bth.2, hlast]

theorem rem64_any (hi lo y : Int) (w : World) (hh0 : 0 ≤ hi) (hh1 : hi ≤ 18446744073709551615) (hl0 : 0 ≤ lo) (hl1 : lo ≤ 18446744073709551615) (hy0 : 0 < y) (hy1 : y ≤ 18446744073709551615) :
    Calls Tryd.prog 68 #[.int .u64 hi, .int .u64 lo, .int .u64 y] w fun e w' => e = .returned (.int .u64 ((hi * 18446744073709551616 + lo) % y)) ∧ Drawn0 w w' := by
  have hy : (y == 0) = false := beq_eq_false_iff_ne.2 (by omega)
  have h0 := Int.emod_nonneg hi (show y ≠ 0 by omega)
  have h1 := Int.emod_lt_of_pos hi hy0
  have hm : (hi % y * 18446744073709551616 + lo) % y = (hi * 18446744073709551616 + lo) % y := by
    rw [Int.add_emod, Int.mul_emod, Int.emod_emod, ← Int.mul_emod, ← Int.add_emod]
  have Hm := Lib.hid hm; clear hm
  go_enter Tryd.func68, Tryd.ntmps68
  go_wp2_with (go_at_call 81; refine (div64_any _ _ _ _ h0 h1 hl0 hl1 hy1).mono ?_; rintro e w' ⟨rfl, ⟨q, rfl⟩⟩)
  go_ret
  exact ⟨by rw [← Hm.out]; rfl, ⟨q, rfl⟩⟩
end Go.Proofs.YtiofeehcnegejaaDoor
