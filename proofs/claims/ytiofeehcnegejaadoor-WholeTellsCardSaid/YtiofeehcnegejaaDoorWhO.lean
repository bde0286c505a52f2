/- Words: Div32. -/
import Derived.Test.YtiofeehcnegejaaDoorWhN
namespace Go.Proofs.YtiofeehcnegejaaDoor
open Go.RowKit Go.Proofs.YtiofeehcnegejaaDoorW.PrintWords
set_option linter.unusedVariables false
set_option linter.unusedSimpArgs false

set_option maxRecDepth 100000 in
theorem div32_any (h l y : Int) (w : World) (h0 : 0 ≤ h) (hy : h < y) (l0 : 0 ≤ l) (l1 : l < 4294967296) (y1 : y < 4294967296) :
    Calls Tryd.prog 55 #[.int .u32 h, .int .u32 l, .int .u32 y] w fun e w' => e = .returned (.tuple #[.int .u32 ((h * 4294967296 + l) / y), .int .u32 ((h * 4294967296 + l) % y)]) ∧ ∃ q, w' = w.drewN q := by
  have hor : bits .or .u64 (h * 2 ^ 32) l = h * 2 ^ 32 + l := Dv.or_sum h l 32 h0 (by omega) l0 (by omega) (by omega)
  have e32 : (2 : Int) ^ 32 = 4294967296 := by decide
  rw [e32] at hor
  obtain ⟨z, hz⟩ : ∃ z, z = h * 4294967296 + l := ⟨_, rfl⟩
  rw [← hz] at hor ⊢
  have z0 : 0 ≤ z := by omega
  have hq0 : 0 ≤ z / y := Int.ediv_nonneg z0 (by omega)
  have hq1 : z / y < 4294967296 := by
    apply Int.ediv_lt_of_lt_mul (by omega)
    have : (h + 1) * 4294967296 ≤ y * 4294967296 := Int.mul_le_mul_of_nonneg_right (by omega) (by omega)
    rw [Int.mul_comm 4294967296 y]
    omega
  have hr0 : 0 ≤ z % y := Int.emod_nonneg z (by omega)
  have hr1 : z % y < 4294967296 := by have := Int.emod_lt_of_pos z (show 0 < y by omega); omega
  have hb : (y == 0) = false := beq_eq_false_iff_ne.2 (by omega)
  have hyp : 0 < y := by omega
  have hne : y ≠ 0 := by omega
  have ht1 : z.tdiv y = z / y := Int.tdiv_eq_ediv_of_nonneg z0
  have ht2 : z.tmod y = z % y := Int.tmod_eq_emod_of_nonneg z0
  clear hz e32
  go_enter Tryd.func55, Tryd.ntmps55
  go_upto_region 4 with (fail)
  go_quiet (fail)
  go_wp2
  go_ret2
  exact ⟨rfl, _, rfl⟩
end Go.Proofs.YtiofeehcnegejaaDoor
