/- Words: Sub32. -/
import Derived.Test.YtiofeehcnegejaaDoorWhF
import Derived.Laws.BitsAllLaws
namespace Go.Proofs.YtiofeehcnegejaaDoor
open Go.RowKit Go.Proofs.YtiofeehcnegejaaDoorW.PrintWords
set_option linter.unusedVariables false
set_option linter.unusedSimpArgs false

theorem top_and (a b : Nat) : (a &&& b) / 2147483648 = (a / 2147483648) &&& (b / 2147483648) := by
  have := Nat.shiftRight_and_distrib (a := a) (b := b) (i := 31)
  simpa [Nat.shiftRight_eq_div_pow] using this
theorem top_or (a b : Nat) : (a ||| b) / 2147483648 = (a / 2147483648) ||| (b / 2147483648) := by
  have := Nat.shiftRight_or_distrib (a := a) (b := b) (i := 31)
  simpa [Nat.shiftRight_eq_div_pow] using this
theorem top_xor (a b : Nat) : (a ^^^ b) / 2147483648 = (a / 2147483648) ^^^ (b / 2147483648) := by
  have := Nat.shiftRight_xor_distrib (a := a) (b := b) (i := 31)
  simpa [Nat.shiftRight_eq_div_pow] using this
/-- The borrow, as the library reckons it. -/
theorem borrow_nat (x y b d : Nat) (hx : x < 4294967296) (hy : y < 4294967296) (hb : b ≤ 1) (hd : (d + y + b) % 4294967296 = x) (hd1 : d < 4294967296) :
    (((4294967295 - x) &&& y) ||| ((4294967295 - (x ^^^ y)) &&& d)) / 2147483648 = if x < y + b then 1 else 0 := by
  rw [top_or, top_and, top_and]
  have hxy : x ^^^ y < 4294967296 := Nat.xor_lt_two_pow (n := 32) hx hy
  have e1 : (4294967295 - x) / 2147483648 = 1 - x / 2147483648 := by omega
  have e2 : (4294967295 - (x ^^^ y)) / 2147483648 = 1 - (x ^^^ y) / 2147483648 := by omega
  rw [e1, e2, top_xor]
  have a1 : x / 2147483648 = 0 ∨ x / 2147483648 = 1 := by omega
  have a2 : y / 2147483648 = 0 ∨ y / 2147483648 = 1 := by omega
  have a3 : d / 2147483648 = 0 ∨ d / 2147483648 = 1 := by omega
  clear e1 e2 hxy
  rcases a1 with a1 | a1 <;> rcases a2 with a2 | a2 <;> rcases a3 with a3 | a3 <;> rw [a1, a2, a3] <;> (split <;> first | rfl | (exfalso; omega))
theorem ones_xor (x : Nat) (hx : x < 4294967296) : 4294967295 ^^^ x = 4294967295 - x := by
  apply Nat.eq_of_testBit_eq
  intro i
  have h1 : (4294967295 : Nat) = 2 ^ 32 - 1 := rfl
  have h2 : 4294967295 - x = 2 ^ 32 - (x + 1) := by omega
  rw [Nat.testBit_xor, h2, Nat.testBit_two_pow_sub_succ (by omega), h1, Nat.testBit_two_pow_sub_one]
  by_cases h : i < 32
  · simp [h]
  · have : x.testBit i = false := Nat.testBit_lt_two_pow (Nat.lt_of_lt_of_le (show x < 2 ^ 32 from hx) (Nat.pow_le_pow_right (by omega) (by omega)))
    simp [h, this]
theorem borrow_bits (x y b : Int) (x0 : 0 ≤ x) (x1 : x < 4294967296) (y0 : 0 ≤ y) (y1 : y < 4294967296) (b0 : 0 ≤ b) (b1 : b ≤ 1) :
    bits .or .u32 (bits .and .u32 (bits .xor .u32 IntKind.u32.max x) y) (bits .and .u32 (bits .xor .u32 IntKind.u32.max (bits .xor .u32 x y)) ((x - y - b) % 4294967296)) / 2147483648 = if x < y + b then 1 else 0 := by
  obtain ⟨X, rfl⟩ := Int.eq_ofNat_of_zero_le x0
  obtain ⟨Y, rfl⟩ := Int.eq_ofNat_of_zero_le y0
  obtain ⟨D, hD⟩ := Int.eq_ofNat_of_zero_le (Int.emod_nonneg ((X : Int) - Y - b) (by decide : (4294967296 : Int) ≠ 0))
  obtain ⟨C, rfl⟩ := Int.eq_ofNat_of_zero_le b0
  rw [hD]
  have hm : IntKind.u32.max = ((4294967295 : Nat) : Int) := by rfl
  have hX : X < 4294967296 := by omega
  have hY : Y < 4294967296 := by omega
  have hDb : D < 4294967296 := by omega
  have hxy : X ^^^ Y < 4294967296 := Nat.xor_lt_two_pow (n := 32) hX hY
  rw [hm, u32_xor_nat _ _ (by omega) hX, u32_xor_nat _ _ hX hY, u32_xor_nat _ _ (by omega) hxy, ones_xor X hX, ones_xor _ hxy, u32_and_nat _ _ (by omega) hY, u32_and_nat _ _ (by omega) hDb,
    u32_or_nat _ _ (Nat.and_lt_two_pow (n := 32) _ hY) (Nat.and_lt_two_pow (n := 32) _ hDb)]
  have h := borrow_nat X Y C D hX hY (by omega) (by omega) hDb
  have e : (((((4294967295 - X) &&& Y) ||| ((4294967295 - (X ^^^ Y)) &&& D) : Nat) : Int) / 2147483648) = (((((4294967295 - X) &&& Y) ||| ((4294967295 - (X ^^^ Y)) &&& D)) / 2147483648 : Nat) : Int) := by omega
  rw [e, h]
  by_cases hc : X < Y + C
  · rw [if_pos hc, if_pos (by omega)]; rfl
  · rw [if_neg hc, if_neg (by omega)]; rfl
set_option maxRecDepth 100000 in
theorem sub32_any (x y b : Int) (w : World) (x0 : 0 ≤ x) (x1 : x < 4294967296) (y0 : 0 ≤ y) (y1 : y < 4294967296) (b0 : 0 ≤ b) (b1 : b ≤ 1) :
    Calls Tryd.prog 79 #[.int .u32 x, .int .u32 y, .int .u32 b] w fun e w' => e = .returned (.tuple #[.int .u32 ((x - y - b) % 4294967296), .int .u32 (if x < y + b then 1 else 0)]) ∧ w = w' := by
  have hb := borrow_bits x y b x0 x1 y0 y1 b0 b1
  obtain ⟨r, hr⟩ : ∃ r : Int, r = if x < y + b then 1 else 0 := ⟨_, rfl⟩
  rw [← hr] at hb ⊢
  have Hb := Lib.hid hb
  have he : ((x - y) % 4294967296 - b) % 4294967296 = (x - y - b) % 4294967296 := by omega
  have He := Lib.hid he
  clear he
  have hsg : IntKind.u32.signed = false := rfl
  clear hr hb
  go_enter Tryd.func79, Tryd.ntmps79
  go_wp2
  go_ret2
  refine ⟨?_, rfl⟩
  rw [← Hb.out, ← He.out]
  rfl
end Go.Proofs.YtiofeehcnegejaaDoor
