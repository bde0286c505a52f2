/- Plain arithmetic: a number's length in binary digits; two words shifted. No program in sight. -/
import Derived.Test.YtiofeehcnegejaaDoorMa
import Derived.Lib.BitFns
import Derived.Laws.BitsAllLaws
namespace Go.Proofs.YtiofeehcnegejaaDoor
namespace Dv
set_option linter.unusedVariables false

theorem len_bounds : ∀ (f x : Nat), 0 < x → x < 2 ^ f → ∃ k, Lib.bitLenAux f x = k + 1 ∧ k < f ∧ 2 ^ k ≤ x ∧ x < 2 ^ (k + 1)
  | 0, x, h0, h => by simp at h; omega
  | f + 1, x, h0, h => by
    rw [Lib.bitLenAux, if_neg (by omega)]
    by_cases h1 : x = 1
    · subst h1
      refine ⟨0, ?_, by omega, by simp, by simp⟩
      cases f <;> simp [Lib.bitLenAux]
    · obtain ⟨k, e, hk, h2, h3⟩ := len_bounds f (x / 2) (by omega) (by rw [Nat.pow_succ] at h; omega)
      rw [e]
      refine ⟨k + 1, by omega, by omega, ?_, ?_⟩
      · rw [Nat.pow_succ]; omega
      · rw [Nat.pow_succ] at h3 ⊢; rw [Nat.pow_succ]; omega

/-- The shift that brings a word's highest digit to the front. -/
theorem shift_word (y : Int) (h0 : 0 < y) (h1 : y ≤ 18446744073709551615) :
    ∃ s : Nat, s ≤ 63 ∧ (64 : Int) - (Lib.bitLen y.toNat : Int) = (s : Int) ∧ 9223372036854775808 ≤ y * 2 ^ s ∧ y * 2 ^ s ≤ 18446744073709551615 := by
  obtain ⟨n, rfl⟩ := Int.eq_ofNat_of_zero_le (by omega : 0 ≤ y)
  rw [Int.toNat_natCast]
  obtain ⟨k, e, hk, h2, h3⟩ := len_bounds 64 n (by omega) (by omega)
  refine ⟨63 - k, by omega, by rw [Lib.bitLen, e]; omega, ?_, ?_⟩
  · have h : 2 ^ k * 2 ^ (63 - k) ≤ n * 2 ^ (63 - k) := Nat.mul_le_mul_right _ h2
    rw [← Nat.pow_add, show k + (63 - k) = 63 by omega] at h
    have hh : ((2 ^ 63 : Nat) : Int) ≤ ((n * 2 ^ (63 - k) : Nat) : Int) := Int.ofNat_le.2 h
    rw [Int.natCast_mul, Int.natCast_pow, Int.natCast_pow] at hh
    simpa using hh
  · have h : n * 2 ^ (63 - k) < 2 ^ (k + 1) * 2 ^ (63 - k) := Nat.mul_lt_mul_of_pos_right h3 (Nat.two_pow_pos _)
    rw [← Nat.pow_add, show k + 1 + (63 - k) = 64 by omega] at h
    have hh : ((n * 2 ^ (63 - k) : Nat) : Int) < ((2 ^ 64 : Nat) : Int) := Int.ofNat_lt.2 h
    rw [Int.natCast_mul, Int.natCast_pow, Int.natCast_pow] at hh
    have e2 : ((2 : Nat) : Int) ^ 64 = 18446744073709551616 := by decide
    rw [e2] at hh
    have e3 : ((2 : Nat) : Int) = 2 := rfl
    rw [e3] at hh
    omega

theorem two_split (s : Nat) (hs : s ≤ 64) : (2 : Int) ^ s * 2 ^ (64 - s) = 18446744073709551616 := by
  rw [← Int.pow_add, show s + (64 - s) = 64 by omega]; decide

theorem pow_pos' (s : Nat) : (0 : Int) < 2 ^ s := Int.pow_pos (by omega)

/-- 'or' of what has noughts where the other has digits is the sum. -/
theorem or_sum (h l : Int) (s : Nat) (hh0 : 0 ≤ h) (hh1 : h * 2 ^ s ≤ 18446744073709551615) (hl0 : 0 ≤ l) (hl : l < 2 ^ s) (hl1 : l ≤ 18446744073709551615) : bits .or .u64 (h * 2 ^ s) l = h * 2 ^ s + l := by
  have hp := pow_pos' s
  have h0 : 0 ≤ h * 2 ^ s := Int.mul_nonneg hh0 (by omega)
  rw [u64_or _ _ h0 (by omega) hl0 (by omega)]
  obtain ⟨a, rfl⟩ := Int.eq_ofNat_of_zero_le hh0
  obtain ⟨c, rfl⟩ := Int.eq_ofNat_of_zero_le hl0
  have e : ((a : Int) * 2 ^ s) = ((2 ^ s * a : Nat) : Int) := by rw [Int.natCast_mul, Int.natCast_pow, Int.mul_comm]; rfl
  have hc : c < 2 ^ s := by
    have : (c : Int) < ((2 ^ s : Nat) : Int) := by rw [Int.natCast_pow]; exact hl
    exact Int.ofNat_lt.1 this
  rw [e, Int.toNat_natCast, Int.toNat_natCast, ← Nat.two_pow_add_eq_or_of_lt hc, Int.natCast_add]

theorem and_low (x : Int) (h0 : 0 ≤ x) (h1 : x ≤ 18446744073709551615) : bits .and .u64 x 4294967295 = x % 4294967296 := by
  rw [u64_and x 4294967295 h0 (by omega) (by omega) (by omega)]
  obtain ⟨a, rfl⟩ := Int.eq_ofNat_of_zero_le h0
  rw [Int.toNat_natCast]
  have e : (4294967295 : Int).toNat = 2 ^ 32 - 1 := by decide
  rw [e, Nat.and_two_pow_sub_one_eq_mod]
  rfl

/-- The words of the shifted number. -/
theorem split_low (hi lo : Int) (s : Nat) (hs : s ≤ 63) (hl0 : 0 ≤ lo) (hl1 : lo ≤ 18446744073709551615) :
    0 ≤ lo / 2 ^ (64 - s) ∧ lo / 2 ^ (64 - s) < 2 ^ s ∧ (hi * 2 ^ s + lo / 2 ^ (64 - s)) * 18446744073709551616 + (lo * 2 ^ s) % 18446744073709551616 = (hi * 18446744073709551616 + lo) * 2 ^ s := by
  have hp := pow_pos' s
  have hq := pow_pos' (64 - s)
  have e := two_split s (by omega)
  refine ⟨Int.ediv_nonneg hl0 (by omega), Int.ediv_lt_of_lt_mul hq (by omega), ?_⟩
  have e1 : (lo * 2 ^ s) / 18446744073709551616 = lo / 2 ^ (64 - s) := by
    rw [← e, Int.mul_comm lo, Int.mul_ediv_mul_of_pos _ _ hp]
  have e2 := Int.mul_ediv_add_emod (lo * 2 ^ s) 18446744073709551616
  rw [e1] at e2
  have e3 : (hi * 18446744073709551616 + lo) * 2 ^ s = hi * 2 ^ s * 18446744073709551616 + lo * 2 ^ s := by
    rw [Int.add_mul, Int.mul_assoc, Int.mul_assoc, Int.mul_comm 18446744073709551616]
  omega
end Dv
end Go.Proofs.YtiofeehcnegejaaDoor
