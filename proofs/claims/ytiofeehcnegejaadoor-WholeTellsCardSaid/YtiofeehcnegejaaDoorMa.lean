/- Plain arithmetic: a division of two words by one, digit by digit, as math/bits.Div64 does it. No program in sight. -/
import Derived.WalkKit
namespace Go.Proofs.YtiofeehcnegejaaDoor
namespace Dv
set_option linter.unusedVariables false

/-- What is known of a digit q and its rest r, on the way down: Y = p * b + s divides u * b + d. -/
structure Inv (b p s u d q r : Int) : Prop where
  eq : q * p + r = u
  q0 : 0 ≤ q
  q1 : q ≤ b + 1
  r0 : 0 ≤ r
  hi : u * b + d < (q + 1) * (p * b + s)

/-- The digit is still too great. -/
def Big (b s d q r : Int) : Prop := b ≤ q ∨ b * r + d < q * s

theorem key {b p s u d q r : Int} (h : q * p + r = u) : q * (p * b + s) = u * b - b * r + q * s := by
  subst h
  have e1 : q * (p * b + s) = q * p * b + q * s := by rw [Int.mul_add, Int.mul_assoc]
  have e2 : (q * p + r) * b = q * p * b + b * r := by rw [Int.add_mul, Int.mul_comm r b]
  omega

theorem start {b p s u d : Int} (hb : 0 < b) (hp : b ≤ 2 * p) (hpb : p < b) (hs : 0 ≤ s) (hsb : s < b) (hu : 0 ≤ u) (huY : u < p * b + s) (hd : 0 ≤ d) (hdb : d < b) :
    Inv b p s u d (u / p) (u - u / p * p) := by
  have hp0 : 0 < p := by omega
  have e := Int.mul_ediv_add_emod u p
  have m0 := Int.emod_nonneg u (show p ≠ 0 by omega)
  have m1 := Int.emod_lt_of_pos u hp0
  have q0 : 0 ≤ u / p := Int.ediv_nonneg hu (by omega)
  have ec : p * (u / p) = u / p * p := Int.mul_comm _ _
  have hq1 : u / p ≤ b + 1 := by
    have h2 : u / p < b + 2 := by
      apply Int.ediv_lt_of_lt_mul hp0
      have e3 : (b + 2) * p = p * b + 2 * p := by rw [Int.add_mul, Int.mul_comm b p]
      omega
    omega
  refine ⟨by omega, q0, hq1, by omega, ?_⟩
  have h3 : u + 1 ≤ (u / p + 1) * p := by rw [Int.add_mul]; omega
  have h4 : (u + 1) * b ≤ (u / p + 1) * p * b := Int.mul_le_mul_of_nonneg_right h3 (by omega)
  have e4 : (u / p + 1) * (p * b + s) = (u / p + 1) * p * b + (u / p + 1) * s := by rw [Int.mul_add, Int.mul_assoc]
  have h5 : 0 ≤ (u / p + 1) * s := Int.mul_nonneg (by omega) hs
  have e5 : (u + 1) * b = u * b + b := by rw [Int.add_mul, Int.one_mul]
  omega

theorem big_iff {b p s u d q r : Int} (hb : 0 < b) (hp0 : 0 < p) (hs : 0 ≤ s) (huY : u < p * b + s) (hdb : d < b) (h : q * p + r = u) :
    Big b s d q r ↔ u * b + d < q * (p * b + s) := by
  have k := key (b := b) (s := s) (d := d) h
  unfold Big
  constructor
  · rintro (hq | hq)
    · have hY : 0 ≤ p * b + s := Int.add_nonneg (Int.mul_nonneg (by omega) (by omega)) hs
      have h1 : b * (p * b + s) ≤ q * (p * b + s) := Int.mul_le_mul_of_nonneg_right hq hY
      have h2 : (u + 1) * b ≤ (p * b + s) * b := Int.mul_le_mul_of_nonneg_right (by omega) (by omega)
      have e5 : (u + 1) * b = u * b + b := by rw [Int.add_mul, Int.one_mul]
      have e6 : (p * b + s) * b = b * (p * b + s) := Int.mul_comm _ _
      omega
    · omega
  · intro hh
    exact .inr (by omega)

theorem down {b p s u d q r : Int} (hb : 0 < b) (hp0 : 0 < p) (hs : 0 ≤ s) (hu : 0 ≤ u) (huY : u < p * b + s) (hd : 0 ≤ d) (hdb : d < b) (h : Inv b p s u d q r) (hB : Big b s d q r) :
    Inv b p s u d (q - 1) (r + p) ∧ q - 1 ≤ b ∧ 1 ≤ q := by
  have hB' := (big_iff hb hp0 hs huY hdb h.eq).1 hB
  have hY : 0 ≤ p * b + s := Int.add_nonneg (Int.mul_nonneg (by omega) (by omega)) hs
  have q1 : 1 ≤ q := by
    rcases Int.lt_or_le 0 q with h0 | h0
    · omega
    · have : q * (p * b + s) ≤ 0 := Int.mul_nonpos_of_nonpos_of_nonneg h0 hY
      have : 0 ≤ u * b := Int.mul_nonneg hu (by omega)
      omega
  have e : (q - 1) * p = q * p - p := by rw [Int.sub_mul, Int.one_mul]
  have := h.eq
  have := h.q1
  have := h.r0
  refine ⟨⟨by omega, by omega, by omega, by omega, ?_⟩, by omega, q1⟩
  rw [show q - 1 + 1 = q by omega]; exact hB'

/-- At the end the digit is the quotient's. -/
theorem done {b p s u d q r : Int} (hb : 0 < b) (hp0 : 0 < p) (hs : 0 ≤ s) (hu : 0 ≤ u) (huY : u < p * b + s) (hd : 0 ≤ d) (hdb : d < b) (h : Inv b p s u d q r) (hB : ¬ Big b s d q r) :
    q = (u * b + d) / (p * b + s) ∧ u * b + d - q * (p * b + s) = (u * b + d) % (p * b + s) ∧ q < b := by
  have hB' := fun x => hB ((big_iff hb hp0 hs huY hdb h.eq).2 x)
  have hY : 0 < p * b + s := Int.add_pos_of_pos_of_nonneg (Int.mul_pos hp0 hb) hs
  have h1 : q * (p * b + s) ≤ u * b + d := Int.not_lt.1 hB'
  have h2 := h.hi
  rw [Int.add_mul, Int.one_mul] at h2
  have e := Int.mul_ediv_add_emod (u * b + d) (p * b + s)
  have eq : q = (u * b + d) / (p * b + s) := by
    apply Int.le_antisymm
    · exact (Int.le_ediv_iff_mul_le hY).2 h1
    · have : (u * b + d) / (p * b + s) < q + 1 := Int.ediv_lt_of_lt_mul hY (by rw [Int.add_mul, Int.one_mul]; exact h2)
      omega
  refine ⟨eq, ?_, ?_⟩
  · rw [← eq] at e
    rw [Int.mul_comm] at e
    omega
  · have h3 : (u + 1) * b ≤ (p * b + s) * b := Int.mul_le_mul_of_nonneg_right (by omega) (by omega)
    have e5 : (u + 1) * b = u * b + b := by rw [Int.add_mul, Int.one_mul]
    rw [eq]
    apply Int.ediv_lt_of_lt_mul hY
    rw [Int.mul_comm b]; omega

/-- The rest has grown past a word: no more is wanted. -/
theorem stop {b s d q r : Int} (hb : 0 < b) (hs : 0 ≤ s) (hsb : s < b) (hd : 0 ≤ d) (hq0 : 0 ≤ q) (hq : q ≤ b) (hr : b ≤ r) : b * r + d < q * s → False := by
  intro h
  have h1 : q * s ≤ b * s := Int.mul_le_mul_of_nonneg_right hq hs
  have h2 : b * s ≤ b * r := Int.mul_le_mul_of_nonneg_left (by omega) (by omega)
  omega

theorem last {b p s u d q r : Int} (hb : 0 < b) (hp0 : 0 < p) (hs : 0 ≤ s) (hsb : s < b) (hu : 0 ≤ u) (huY : u < p * b + s) (hd : 0 ≤ d) (hdb : d < b) (h : Inv b p s u d q r) (hq : q ≤ b) (hr : b ≤ r) :
    q = (u * b + d) / (p * b + s) := by
  refine (done hb hp0 hs hu huY hd hdb h fun hB => ?_).1
  rcases Int.lt_or_le q b with h1 | h1
  · rcases hB with hB | hB
    · omega
    · exact stop hb hs hsb hd h.q0 hq hr hB
  · have e : q = b := by omega
    have k := key (b := b) (s := s) (d := d) h.eq
    have hB' := (big_iff hb hp0 hs huY hdb h.eq).1 hB
    have h2 : b * s < b * b := Int.mul_lt_mul_of_pos_left hsb hb
    have h3 : b * b ≤ b * r := Int.mul_le_mul_of_nonneg_left hr (by omega)
    rw [e] at k hB'
    omega
theorem prod_le {q c : Int} (hq : 0 ≤ q) (hq1 : q ≤ 4294967295) (hc : 0 ≤ c) (hc1 : c ≤ 4294967295) : q * c ≤ 18446744073709551615 := by
  have h1 : q * c ≤ 4294967295 * c := Int.mul_le_mul_of_nonneg_right hq1 hc
  omega

theorem u64w (x : Int) : IntKind.u64.wrap x = x % 18446744073709551616 := by rw [IntKind.wrap_u64]
/-- What is left, reckoned in words that wrap round. -/
theorem rest_wrap (a b c n : Int) (h : a + b - c = n) (h0 : 0 ≤ n) (h1 : n < 18446744073709551616) :
    IntKind.u64.wrap (IntKind.u64.wrap (IntKind.u64.wrap a + b) - IntKind.u64.wrap c) = n := by
  rw [u64w, u64w, u64w, u64w]; omega
/-- The whole of it: both digits give the quotient and the rest of the shifted number. -/
theorem both {b Y u d1 d0 q1 q0 r1 r0 : Int} (hY : 0 < Y) (e1 : q1 = (u * b + d1) / Y) (e2 : r1 = (u * b + d1) % Y) (e3 : q0 = (r1 * b + d0) / Y) (e4 : r0 = (r1 * b + d0) % Y) :
    q1 * b + q0 = (u * (b * b) + (d1 * b + d0)) / Y ∧ r0 = (u * (b * b) + (d1 * b + d0)) % Y := by
  have h1 := Int.mul_ediv_add_emod (u * b + d1) Y
  have h2 := Int.mul_ediv_add_emod (r1 * b + d0) Y
  rw [← e1, ← e2] at h1
  rw [← e3, ← e4] at h2
  have r00 : 0 ≤ r0 := by rw [e4]; exact Int.emod_nonneg _ (by omega)
  have r01 : r0 < Y := by rw [e4]; exact Int.emod_lt_of_pos _ hY
  have e : u * (b * b) + (d1 * b + d0) = r0 + Y * (q1 * b + q0) := by
    have a1 : (u * b + d1) * b = u * (b * b) + d1 * b := by rw [Int.add_mul, Int.mul_assoc]
    have a2 : (Y * q1 + r1) * b = Y * (q1 * b) + r1 * b := by rw [Int.add_mul, Int.mul_assoc]
    have a3 : Y * (q1 * b + q0) = Y * (q1 * b) + Y * q0 := Int.mul_add _ _ _
    rw [h1] at a2
    omega
  rw [e]
  constructor
  · rw [Int.add_mul_ediv_left _ _ (by omega : Y ≠ 0), Int.ediv_eq_zero_of_lt r00 r01, Int.zero_add]
  · rw [Int.add_mul_emod_self_left, Int.emod_eq_of_lt r00 r01]
/-- A shift of both takes the shift out of the quotient and leaves it in the rest. -/
theorem shifted {X y t : Int} (hy : 0 < y) (ht : 0 < t) : (X * t) / (y * t) = X / y ∧ (X * t) % (y * t) = X % y * t :=
  ⟨Int.mul_ediv_mul_of_pos_left _ _ ht, by rw [Int.mul_comm X, Int.mul_comm y, Int.mul_emod_mul_of_pos _ _ ht, Int.mul_comm]⟩
end Dv
end Go.Proofs.YtiofeehcnegejaaDoor
