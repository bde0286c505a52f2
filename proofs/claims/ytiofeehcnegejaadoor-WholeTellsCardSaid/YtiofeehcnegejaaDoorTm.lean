/- Plain: a product of rows of words, as it is reckoned. No program in sight. -/
import Derived.Test.YtiofeehcnegejaaDoorWhV
namespace Go.Proofs.YtiofeehcnegejaaDoor
open Go.RowKit Go.Proofs.YtiofeehcnegejaaDoorW.PrintWords
set_option linter.unusedVariables false
set_option linter.unusedSimpArgs false

/-- At the outer loop's head: i words of xs are multiplied. -/
structure MulAt (xs ys zs : List Int) (i : Nat) : Prop where
  len : zs.length = xs.length + ys.length
  wd : Dv.Wd zs
  high : ∀ j : Nat, i + ys.length ≤ j → rd zs (j : Int) = 0
  eq : Dv.valW (zs.take (i + ys.length)) = Dv.valW (xs.take i) * Dv.valW ys
/-- At the inner loop's head. -/
structure MulIn (ys z0 zs : List Int) (p : Int) (i j : Nat) (k : Int) : Prop where
  len : zs.length = z0.length
  wd : Dv.Wd zs
  k0 : 0 ≤ k
  k1 : k < 4294967296
  same : ∀ m : Nat, i + j ≤ m → rd zs (m : Int) = rd z0 (m : Int)
  eq : Dv.valW (zs.take (i + j)) + 2 ^ (32 * (i + j)) * k = Dv.valW (z0.take (i + j)) + 2 ^ (32 * i) * (p * Dv.valW (ys.take j))
theorem rd_zeros (n : Nat) (j : Nat) : rd (List.replicate n (0 : Int)) (j : Int) = 0 := by
  unfold rd
  rw [Int.toNat_natCast, List.getD_eq_getElem?_getD, List.getElem?_replicate]
  split <;> rfl
theorem valW_zeros (n k : Nat) : Dv.valW ((List.replicate n (0 : Int)).take k) = 0 := by
  rw [List.take_replicate]
  generalize min k n = m
  induction m with
  | zero => rfl
  | succ m ih => rw [List.replicate_succ]; simp [Dv.valW, ih]
theorem Wd_zeros (n : Nat) : Dv.Wd (List.replicate n (0 : Int)) := fun x hx => by rw [List.eq_of_mem_replicate hx]; omega
theorem MulAt.start (xs ys : List Int) : MulAt xs ys (List.replicate (xs.length + ys.length) 0) 0 :=
  ⟨by simp, Wd_zeros _, fun j _ => rd_zeros _ j, by rw [valW_zeros]; simp [Dv.valW]⟩
theorem MulIn.start {xs ys zs : List Int} {i : Nat} (h : MulAt xs ys zs i) (p : Int) : MulIn ys zs zs p i 0 0 :=
  ⟨rfl, h.wd, by omega, by omega, fun _ _ => rfl, by simp [Dv.valW]⟩
theorem mul_word {p q z k : Int} (p0 : 0 ≤ p) (p1 : p < 4294967296) (q0 : 0 ≤ q) (q1 : q < 4294967296) (z0 : 0 ≤ z) (z1 : z < 4294967296) (k0 : 0 ≤ k) (k1 : k < 4294967296) :
    0 ≤ p * q ∧ p * q + z + k ≤ 18446744073709551615 := by
  have h1 : p * q ≤ 4294967295 * q := Int.mul_le_mul_of_nonneg_right (by omega) q0
  exact ⟨Int.mul_nonneg p0 q0, by omega⟩
theorem MulIn.step {ys z0 zs : List Int} {p : Int} {i j : Nat} {k : Int} (h : MulIn ys z0 zs p i j k) (hw0 : Dv.Wd z0) (hy : Dv.Wd ys) (p0 : 0 ≤ p) (p1 : p < 4294967296) (hj : j < ys.length) (hij : i + j < z0.length) :
    MulIn ys z0 (zs.set (i + j) ((k + (p * rd ys (j : Int) + rd z0 ((i + j : Nat) : Int))) % 4294967296)) p i (j + 1) ((k + (p * rd ys (j : Int) + rd z0 ((i + j : Nat) : Int))) / 4294967296) := by
  have hq := hy.get (j : Int)
  have hz := hw0.get ((i + j : Nat) : Int)
  have hk0 := h.k0
  have hk1 := h.k1
  have hl := h.len
  obtain ⟨m0, m1⟩ := mul_word p0 p1 hq.1 hq.2 hz.1 hz.2 hk0 hk1
  have e := h.eq
  have e1 := valW_step ys j hj
  have e2 := valW_step z0 (i + j) hij
  obtain ⟨q, hqq⟩ : ∃ q, q = rd ys (j : Int) := ⟨_, rfl⟩
  obtain ⟨z, hzz⟩ : ∃ z, z = rd z0 ((i + j : Nat) : Int) := ⟨_, rfl⟩
  rw [← hqq] at e1 m0 m1 ⊢
  rw [← hzz] at e2 m1 ⊢
  obtain ⟨T, hT⟩ : ∃ T, T = k + (p * q + z) := ⟨_, rfl⟩
  rw [← hT]
  refine ⟨by rw [List.length_set]; exact h.len, Wd_set h.wd _ (by omega) (by omega), by omega, by omega, fun m hm => ?_, ?_⟩
  · rw [rd_set _ _ _ _ (by omega), if_neg (by omega)]; exact h.same m (by omega)
  · rw [show i + (j + 1) = i + j + 1 by omega, valW_put zs (i + j) _ (by omega), e2, e1, show 32 * (i + j + 1) = 32 * (i + j) + 32 by omega, Int.pow_add]
    have e32 : (2 : Int) ^ 32 = 4294967296 := by decide
    rw [e32]
    have eij : (2 : Int) ^ (32 * (i + j)) = 2 ^ (32 * i) * 2 ^ (32 * j) := by rw [show 32 * (i + j) = 32 * i + 32 * j by omega, Int.pow_add]
    obtain ⟨P, hP⟩ : ∃ P : Int, P = 2 ^ (32 * (i + j)) := ⟨_, rfl⟩
    rw [← hP] at e eij ⊢
    have e3 : P * (T % 4294967296) + P * 4294967296 * (T / 4294967296) = P * T := by
      rw [Int.mul_assoc, ← Int.mul_add, Int.emod_add_mul_ediv]
    have e4 : P * T = P * k + P * (p * q) + P * z := by rw [hT, Int.mul_add, Int.mul_add, Int.add_assoc]
    have e5 : (2 : Int) ^ (32 * i) * (p * (Dv.valW (ys.take j) + 2 ^ (32 * j) * q)) = 2 ^ (32 * i) * (p * Dv.valW (ys.take j)) + P * (p * q) := by
      rw [Int.mul_add, Int.mul_add, eij, Int.mul_left_comm p (2 ^ (32 * j)) q, ← Int.mul_assoc (2 ^ (32 * i)) (2 ^ (32 * j))]
    omega
theorem MulIn.last {xs ys z0 zs : List Int} {i : Nat} {k : Int} (h0 : MulAt xs ys z0 i) (h : MulIn ys z0 zs (rd xs (i : Int)) i ys.length k) (hi : i < xs.length) : MulAt xs ys (zs.set (i + ys.length) k) (i + 1) := by
  have hl := h.len
  have hl0 := h0.len
  refine ⟨by rw [List.length_set]; omega, Wd_set h.wd _ h.k0 h.k1, fun j hj => ?_, ?_⟩
  · rw [rd_set _ _ _ _ (by omega), if_neg (by omega), h.same j (by omega)]; exact h0.high j (by omega)
  · have e := h.eq
    have e0 := h0.eq
    rw [List.take_of_length_le (Nat.le_refl ys.length), e0] at e
    rw [show i + 1 + ys.length = i + ys.length + 1 by omega, valW_put zs (i + ys.length) _ (by omega), e, valW_step xs i hi, Int.add_mul]
    rw [Int.mul_assoc]
theorem MulAt.last {xs ys zs : List Int} (h : MulAt xs ys zs xs.length) : Dv.valW zs = Dv.valW xs * Dv.valW ys := by
  have e := h.eq
  rwa [List.take_of_length_le (by rw [h.len]; exact Nat.le_refl _), List.take_of_length_le (Nat.le_refl _)] at e
end Go.Proofs.YtiofeehcnegejaaDoor
