/- The walks of the document's own Rest and Whole. -/
import Derived.Test.YtiofeehcnegejaaDoorRfE
namespace Go.Proofs.YtiofeehcnegejaaDoor
open Go.RowKit Go.Proofs.YtiofeehcnegejaaDoorW.PrintWords
set_option linter.unusedVariables false

theorem and_one32 (y : Int) (h0 : 0 ≤ y) (h1 : y < 4294967296) : bits .and .u32 y 1 = y % 2 := by
  rw [u32_and y 1 h0 h1 (by omega) (by omega)]
  obtain ⟨a, rfl⟩ := Int.eq_ofNat_of_zero_le h0
  rw [Int.toNat_natCast]
  have e : (1 : Int).toNat = 1 := rfl
  rw [e, Nat.and_one_is_mod]
  rfl
theorem bit_step (V m : Int) (j : Nat) (hm : 1 ≤ m) (b : Int) (hb : b = (V / 2 ^ j) % 2) :
    (2 * ((V / 2 ^ (j + 1)) % m) + b) % m = (V / 2 ^ j) % m := by
  rw [Dv.div_pow_bit V j, ← hb, Int.add_emod, Int.mul_emod, Int.emod_emod, ← Int.mul_emod, ← Int.add_emod]

theorem emod_hi {y m : Int} (h : m ≤ y) (h2 : y < 2 * m) : y % m = y - m := by
  have e : y = (y - m) + m * 1 := by omega
  rw [e, Int.add_mul_emod_self_left, Int.emod_eq_of_lt (by omega) (by omega)]
  omega

set_option maxHeartbeats 1600000 in
set_option maxRecDepth 100000 in
theorem refRest_any (A : Option Addr) (n c : Nat) (xs : List Int) (m : Int) (w : World) (hw : Dv.Wd xs) (hr : ReadsInt w .u32 A n xs) (hn : n * 4 ≤ 140737488355328) (hm0 : 1 ≤ m) (hm1 : m ≤ 4611686018427387904) :
    Calls Tryd.prog 40 #[.agg #[.bool false, .slice A n c], .int .i64 m] w fun e w' => e = .returned (.tuple #[.int .i64 (Dv.valW xs % m), .int .i64 0]) ∧ Below w.heap.size w w' := by
  have hl : xs.length = n := hr.1
  have hlt0 := Dv.valW_lt hw
  rw [hl] at hlt0
  have hv0 := Dv.valW_nonneg hw
  have hbw := Dv.bit_word hw
  have Hl := Lib.hid hl; clear hl
  have hr2 := hr.below ((Below.refl _ w).alloc (Nat.le_refl _) (.cells #[.bool false, .slice A n c] 24))
  have Hr := Lib.hid hr2; clear hr hr2
  have Hw := Lib.hid hw; clear hw
  have Hbw := Lib.hid hbw; clear hbw
  generalize Dv.valW xs = V at *
  have k0 := World.cell?_alloc_new w #[.bool false, .slice A n c] 24 0
  have k1 := World.cell?_alloc_new w #[.bool false, .slice A n c] 24 1
  have hstart : (V / 2 ^ (32 * n)) % m = 0 := by rw [Int.ediv_eq_zero_of_lt hv0 hlt0]; simp
  have Hst := Lib.hid hstart; clear hstart hlt0
  go_enter Tryd.func40, Tryd.ntmps40
  go_wp2
  go_loop [6, 7] (fun a i => ∃ j : Nat, j ≤ 32 * n ∧ i = .int .i64 ((j : Int) - 1) ∧ a = .int .u64 ((V / 2 ^ j) % m)) (fun _ i => (intOf i + 1).toNat)
  case atStart => exact ⟨32 * n, Nat.le_refl _, by go_num, by rw [Hst.out]⟩
  case round =>
    obtain ⟨j, hj, rfl, rfl⟩ := hrel
    by_cases h0 : j = 0
    · subst h0
      have hf : (V / 2 ^ 0) % m = V % m := by simp
      have b0 : 0 ≤ V % m := Int.emod_nonneg _ (by omega)
      have b1 : V % m < m := Int.emod_lt_of_pos _ (by omega)
      rw [hf]
      clear hf
      obtain ⟨r, hr⟩ : ∃ r, V % m = r := ⟨_, rfl⟩
      rw [hr] at b0 b1 ⊢
      have Hrr := Lib.hid hr; clear hr
      go_wp2
      go_ret2
      exact ⟨by rw [Hrr.out]; rfl, (Below.refl _ _).alloc (Nat.le_refl _) _⟩
    · obtain ⟨j, rfl⟩ : ∃ k, j = k + 1 := ⟨j - 1, by omega⟩
      obtain ⟨ad, rfl, hcell⟩ := Hr.out.at_ ((j / 32 : Nat) : Int) (by omega) (by omega)
      rw [Int.toNat_natCast] at hcell
      have hx := Hw.out.get ((j / 32 : Nat) : Int)
      have hbit := Hbw.out j
      obtain ⟨x, hx'⟩ : ∃ x, rd xs ((j / 32 : Nat) : Int) = x := ⟨_, rfl⟩
      rw [hx'] at hcell hx hbit
      clear hx'
      obtain ⟨hx0, hx1⟩ := hx
      have hq0 : 0 ≤ x / 2 ^ (j % 32) := Int.ediv_nonneg hx0 (by have := Dv.pow_pos' (j % 32); omega)
      have hq1 : x / 2 ^ (j % 32) < 4294967296 := by
        have h1 : x / 2 ^ (j % 32) ≤ x := Int.ediv_le_self _ hx0
        omega
      have hand := and_one32 _ hq0 hq1
      rw [← hbit] at hand
      have hst := bit_step V m j hm0 _ rfl
      have b0 : 0 ≤ (V / 2 ^ (j + 1)) % m := Int.emod_nonneg _ (by omega)
      have b1 : (V / 2 ^ (j + 1)) % m < m := Int.emod_lt_of_pos _ (by omega)
      have c0 : 0 ≤ (V / 2 ^ j) % 2 := Int.emod_nonneg _ (by omega)
      have c1 : (V / 2 ^ j) % 2 < 2 := Int.emod_lt_of_pos _ (by omega)
      generalize (V / 2 ^ j) % 2 = b at *
      generalize (V / 2 ^ (j + 1)) % m = r at *
      have Hstep := Lib.hid hst; clear hst hbit
      rw [show ((j + 1 : Nat) : Int) - 1 = (j : Int) by omega]
      by_cases hge : m ≤ 2 * r + b
      · have he := emod_hi hge (by omega)
        rw [Hstep.out] at he
        have He := Lib.hid he; clear he
        go_wp2
        go_round
        case rel => exact ⟨j, by omega, rfl, by rw [He.out]⟩
        case measure => simp [intOf]
      · have he : (2 * r + b) % m = 2 * r + b := Int.emod_eq_of_lt (by omega) (by omega)
        rw [Hstep.out] at he
        have He := Lib.hid he; clear he
        go_wp2
        go_round
        case rel => exact ⟨j, by omega, rfl, by rw [He.out]⟩
        case measure => simp [intOf]
end Go.Proofs.YtiofeehcnegejaaDoor
