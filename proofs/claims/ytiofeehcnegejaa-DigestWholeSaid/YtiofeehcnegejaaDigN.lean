/- Plain: the hashes of the objects of numbers are those of the document, are never -1, and unlike ones have unlike numbers. -/
import Derived.Test.YtiofeehcnegejaaDigM
namespace Go.Proofs.Ytiofeehcnegejaa
open Go.RowKit Go.Proofs.YtiofeehcnegejaaW.PrintWords
set_option linter.unusedVariables false

theorem hashI_ne (h n : Int) (hn : n ≠ -1) : hashI h n ≠ -1 := by
  unfold hashI
  split
  · exact hn
  · assumption

theorem bits_or_comm (k : IntKind) (a b : Int) : bits .or k a b = bits .or k b a := by
  unfold bits
  simp [BitVec.or_comm]
theorem refNum_eq (n : Int) : refNumI n = numI n := by
  unfold refNumI numI rotB
  rw [bits_or_comm]

theorem rotB_small (h : Int) (h0 : 0 ≤ h) (h1 : h ≤ 2147483647) : rotB h = (h % 16) * 1152921504606846976 + h / 16 := by
  unfold rotB
  have e : IntKind.u64.wrap (h * 1152921504606846976) = (h % 16) * 2 ^ 60 := by
    rw [Dv.u64w]
    have e2 : (2 : Int) ^ 60 = 1152921504606846976 := by decide
    rw [e2]; omega
  rw [e]
  have e2 : (2 : Int) ^ 60 = 1152921504606846976 := by decide
  rw [Dv.or_sum (h % 16) (h / 16) 60 (by omega) (by rw [e2]; omega) (by omega) (by rw [e2]; omega) (by omega), e2]

theorem numI_small (n : Int) (h0 : 0 ≤ n) (h1 : n ≤ 2147483647) : numI n = wrap64 ((n % 16) * 1152921504606846976 + n / 16) := by
  unfold numI
  rw [Dv.u64w, Int.emod_eq_of_lt h0 (by omega), rotB_small n h0 h1]
  unfold hashI
  rw [if_neg]
  unfold wrap64
  omega

theorem wrap_inj (x y : Int) (x0 : 0 ≤ x) (x1 : x < 18446744073709551616) (y0 : 0 ≤ y) (y1 : y < 18446744073709551616) (h : wrap64 x = wrap64 y) : x = y := by
  unfold wrap64 at h
  omega
theorem numI_inj (a b : Int) (a0 : 0 ≤ a) (a1 : a ≤ 2147483647) (b0 : 0 ≤ b) (b1 : b ≤ 2147483647) (h : numI a = numI b) : a = b := by
  rw [numI_small a a0 a1, numI_small b b0 b1] at h
  have e : a % 16 * 1152921504606846976 + a / 16 = b % 16 * 1152921504606846976 + b / 16 :=
    wrap_inj _ _ (by omega) (by omega) (by omega) (by omega) h
  have e1 : a / 16 = b / 16 := by omega
  omega
end Go.Proofs.Ytiofeehcnegejaa
