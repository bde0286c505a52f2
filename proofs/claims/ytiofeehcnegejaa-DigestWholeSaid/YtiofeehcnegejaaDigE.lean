/- The walk of math/bits.Div64. -/
import Derived.Test.YtiofeehcnegejaaDigD
import Derived.Test.YtiofeehcnegejaaMa
import Derived.Test.YtiofeehcnegejaaShelf
import Derived.Deep.DeepCutAuto
import Derived.Deep.CutBlock
namespace Go.Proofs.Ytiofeehcnegejaa
open Go.RowKit Go.Proofs.YtiofeehcnegejaaW.PrintWords
set_option linter.unusedVariables false

theorem div_small (lo y : Int) (w : World) (hl0 : 0 ≤ lo) (hl1 : lo ≤ 18446744073709551615) (hy0 : 0 < y) (hy1 : y ≤ 18446744073709551615) :
    Calls Try.prog 39 #[.int .u64 0, .int .u64 lo, .int .u64 y] w fun e w' => e = .returned (.tuple #[.int .u64 (lo / y), .int .u64 (lo % y)]) ∧ Drawn0 w w' := by
  have hy : (y == 0) = false := beq_eq_false_iff_ne.2 (by omega)
  go_enter Try.func39, Try.ntmps39
  go_wp2
  go_quiet (fail)
  go_wp2
  go_ret2
  exact ⟨rfl, ⟨_, rfl⟩⟩

set_option maxHeartbeats 3200000 in
set_option maxRecDepth 100000 in
/-- Div64 where the higher word is not 0: Y is the divisor shifted so that its highest digit is 1; p, c its halves; U, d1, d0 the shifted number's words. -/
theorem div_great (hi lo y Y p c U L d1 d0 m1 m0 Q1 R1 Q0 R : Int) (s : Nat) (w : World) (hh0 : 0 < hi) (hhy : hi < y) (hl0 : 0 ≤ lo) (hl1 : lo ≤ 18446744073709551615) (hy1 : y ≤ 18446744073709551615) (hs : s ≤ 63)
    (hlz : ∀ w, Calls Try.prog 40 #[.int .u64 y] w fun e w' => e = .returned (.int .i64 (s : Int)) ∧ w = w')
    (e1 : IntKind.u64.wrap (y * 2 ^ s) = Y) (e2 : Y / 4294967296 = p) (e3 : bits .and .u64 Y 4294967295 = c)
    (e4 : bits .or .u64 (IntKind.u64.wrap (hi * 2 ^ s)) (lo / 2 ^ (64 - s)) = U) (e5 : IntKind.u64.wrap (lo * 2 ^ s) = L) (e6 : L / 4294967296 = d1) (e7 : bits .and .u64 L 4294967295 = d0)
    (hp0 : 2147483648 ≤ p) (hp1 : p < 4294967296) (hc0 : 0 ≤ c) (hc1 : c < 4294967296) (hU0 : 0 ≤ U) (hU1 : U ≤ 18446744073709551615) (hUY : U < p * 4294967296 + c) (hd10 : 0 ≤ d1) (hd11 : d1 < 4294967296) (hd00 : 0 ≤ d0) (hd01 : d0 < 4294967296)
    (e8 : IntKind.u64.wrap (U / p * p) = m1) (HI1 : Hid (Dv.Inv 4294967296 p c U d1 (U / p) (U - m1))) (hs1 : 0 ≤ U / p ∧ U / p ≤ 4294967297 ∧ 0 ≤ U - m1 ∧ U - m1 < 4294967296)
    (HQ1 : Hid (Q1 = (U * 4294967296 + d1) / (p * 4294967296 + c))) (hQ10 : 0 ≤ Q1) (hQ11 : Q1 < 4294967296)
    (e9 : IntKind.u64.wrap (IntKind.u64.wrap (IntKind.u64.wrap (U * 4294967296) + d1) - IntKind.u64.wrap (Q1 * Y)) = R1) (hR0 : 0 ≤ R1) (hR1 : R1 ≤ 18446744073709551615) (hRY : R1 < p * 4294967296 + c)
    (e10 : IntKind.u64.wrap (R1 / p * p) = m0) (HI0 : Hid (Dv.Inv 4294967296 p c R1 d0 (R1 / p) (R1 - m0))) (hs0 : 0 ≤ R1 / p ∧ R1 / p ≤ 4294967297 ∧ 0 ≤ R1 - m0 ∧ R1 - m0 < 4294967296)
    (HQ0 : Hid (Q0 = (R1 * 4294967296 + d0) / (p * 4294967296 + c))) (hQ00 : 0 ≤ Q0) (hQ01 : Q0 < 4294967296)
    (e11 : IntKind.u64.wrap (IntKind.u64.wrap (IntKind.u64.wrap (R1 * 4294967296) + d0) - IntKind.u64.wrap (Q0 * Y)) = R) :
    Calls Try.prog 39 #[.int .u64 hi, .int .u64 lo, .int .u64 y] w fun e w' => e = .returned (.tuple #[.int .u64 (Q1 * 4294967296 + Q0), .int .u64 (R / 2 ^ s)]) ∧ w = w' := by
  have hy : (y == 0) = false := beq_eq_false_iff_ne.2 (by omega)
  have hh : (hi == 0) = false := beq_eq_false_iff_ne.2 (by omega)
  have Hlz := Lib.hid hlz; clear hlz
  have hp : (p == 0) = false := beq_eq_false_iff_ne.2 (by omega)
  obtain ⟨h11, h12, h13, h14⟩ := hs1
  obtain ⟨h01, h02, h03, h04⟩ := hs0
  go_enter Try.func39, Try.ntmps39
  go_upto_block 0 with (go_at_call 40; refine (Hlz.out _).mono ?_; rintro e w' ⟨rfl, rfl⟩)
  go_cut [15] (fun a wc => a = .int .u64 Q1 ∧ w = wc)
  case first =>
    clear e9 e10 e11
    go_wp2
    go_loop [15, 16] (fun a e => ∃ q r : Int, a = .int .u64 q ∧ e = .int .u64 r ∧ Hid (Dv.Inv 4294967296 p c U d1 q r) ∧ 0 ≤ q ∧ q ≤ 4294967297 ∧ 0 ≤ r ∧ r < 4294967296) (fun a _ => (intOf a).toNat)
    case atStart => exact ⟨_, _, rfl, rfl, HI1, by omega, by omega, by omega, by omega⟩
    case round =>
      obtain ⟨q, r, rfl, rfl, HI, hq0, hq1, hr0, hr1⟩ := hrel
      by_cases hqb : 4294967296 ≤ q
      · obtain ⟨hI', hq', hq''⟩ := Dv.down (by omega) (by omega) hc0 hU0 hUY hd10 hd11 HI.out (.inl hqb)
        have HI' := Lib.hid hI'; clear hI' HI
        by_cases hrb : 4294967296 ≤ r + p
        · have HE := Lib.hid (Dv.last (by omega) (by omega) hc0 hc1 hU0 hUY hd10 hd11 HI'.out hq' hrb)
          go_wp2
          go_meet
          exact ⟨by rw [HQ1.out, HE.out], rfl⟩
        · go_wp2
          go_round
          case rel => exact ⟨_, _, rfl, rfl, HI', by omega, by omega, by omega, by omega⟩
          case measure => simp [intOf]; omega
      · obtain ⟨m, hm⟩ : ∃ m : Int, q * c = m := ⟨_, rfl⟩
        have hm0 : 0 ≤ m := by rw [← hm]; exact Int.mul_nonneg hq0 hc0
        have hm1 : m ≤ 18446744073709551615 := by rw [← hm]; exact Dv.prod_le hq0 (by omega) hc0 (by omega)
        have ew : IntKind.u64.wrap (q * c) = m := by rw [hm]; exact IntWalk.u64_in m ⟨hm0, hm1⟩
        have Hm := Lib.hid hm; clear hm
        by_cases hB : 4294967296 * r + d1 < m
        · have hBB : Dv.Big 4294967296 c d1 q r := .inr (by rw [Hm.out]; exact hB)
          obtain ⟨hI', hq', hq''⟩ := Dv.down (by omega) (by omega) hc0 hU0 hUY hd10 hd11 HI.out hBB
          have HI' := Lib.hid hI'; clear hI' HI hBB
          by_cases hrb : 4294967296 ≤ r + p
          · have HE := Lib.hid (Dv.last (by omega) (by omega) hc0 hc1 hU0 hUY hd10 hd11 HI'.out hq' hrb)
            go_wp2
            go_meet
            exact ⟨by rw [HQ1.out, HE.out], rfl⟩
          · go_wp2
            go_round
            case rel => exact ⟨_, _, rfl, rfl, HI', by omega, by omega, by omega, by omega⟩
            case measure => simp [intOf]; omega
        · have hBB : ¬ Dv.Big 4294967296 c d1 q r := fun h => Or.elim h hqb (fun h => hB (by rw [← Hm.out]; exact h))
          have HE := Lib.hid (Dv.done (by omega) (by omega) hc0 hU0 hUY hd10 hd11 HI.out hBB).1
          clear hBB
          go_wp2
          go_meet
          exact ⟨by rw [HQ1.out, HE.out], rfl⟩
  case rest =>
    obtain ⟨rfl, rfl⟩ := hcut
    go_upto_block 2 with (fail)
    go_cut [18] (fun a wc => a = .int .u64 Q0 ∧ w = wc)
    case first =>
      clear e9 e10 e11
      go_wp2
      go_loop [18, 16] (fun a e => ∃ q r : Int, a = .int .u64 q ∧ e = .int .u64 r ∧ Hid (Dv.Inv 4294967296 p c R1 d0 q r) ∧ 0 ≤ q ∧ q ≤ 4294967297 ∧ 0 ≤ r ∧ r < 4294967296) (fun a _ => (intOf a).toNat)
      case atStart => exact ⟨_, _, rfl, rfl, HI0, by omega, by omega, by omega, by omega⟩
      case round =>
        obtain ⟨q, r, rfl, rfl, HI, hq0, hq1, hr0, hr1⟩ := hrel
        by_cases hqb : 4294967296 ≤ q
        · obtain ⟨hI', hq', hq''⟩ := Dv.down (by omega) (by omega) hc0 hR0 hRY hd00 hd01 HI.out (.inl hqb)
          have HI' := Lib.hid hI'; clear hI' HI
          by_cases hrb : 4294967296 ≤ r + p
          · have HE := Lib.hid (Dv.last (by omega) (by omega) hc0 hc1 hR0 hRY hd00 hd01 HI'.out hq' hrb)
            go_wp2
            go_meet
            exact ⟨by rw [HQ0.out, HE.out], rfl⟩
          · go_wp2
            go_round
            case rel => exact ⟨_, _, rfl, rfl, HI', by omega, by omega, by omega, by omega⟩
            case measure => simp [intOf]; omega
        · obtain ⟨m, hm⟩ : ∃ m : Int, q * c = m := ⟨_, rfl⟩
          have hm0 : 0 ≤ m := by rw [← hm]; exact Int.mul_nonneg hq0 hc0
          have hm1 : m ≤ 18446744073709551615 := by rw [← hm]; exact Dv.prod_le hq0 (by omega) hc0 (by omega)
          have ew : IntKind.u64.wrap (q * c) = m := by rw [hm]; exact IntWalk.u64_in m ⟨hm0, hm1⟩
          have Hm := Lib.hid hm; clear hm
          by_cases hB : 4294967296 * r + d0 < m
          · have hBB : Dv.Big 4294967296 c d0 q r := .inr (by rw [Hm.out]; exact hB)
            obtain ⟨hI', hq', hq''⟩ := Dv.down (by omega) (by omega) hc0 hR0 hRY hd00 hd01 HI.out hBB
            have HI' := Lib.hid hI'; clear hI' HI hBB
            by_cases hrb : 4294967296 ≤ r + p
            · have HE := Lib.hid (Dv.last (by omega) (by omega) hc0 hc1 hR0 hRY hd00 hd01 HI'.out hq' hrb)
              go_wp2
              go_meet
              exact ⟨by rw [HQ0.out, HE.out], rfl⟩
            · go_wp2
              go_round
              case rel => exact ⟨_, _, rfl, rfl, HI', by omega, by omega, by omega, by omega⟩
              case measure => simp [intOf]; omega
          · have hBB : ¬ Dv.Big 4294967296 c d0 q r := fun h => Or.elim h hqb (fun h => hB (by rw [← Hm.out]; exact h))
            have HE := Lib.hid (Dv.done (by omega) (by omega) hc0 hR0 hRY hd00 hd01 HI.out hBB).1
            clear hBB
            go_wp2
            go_meet
            exact ⟨by rw [HQ0.out, HE.out], rfl⟩
    case rest =>
      obtain ⟨rfl, rfl⟩ := hcut
      go_wp2
      go_ret2
      exact ⟨rfl, rfl⟩
end Go.Proofs.Ytiofeehcnegejaa
