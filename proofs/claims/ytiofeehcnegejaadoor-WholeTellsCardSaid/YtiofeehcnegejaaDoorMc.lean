/- Plain arithmetic: the number that a row of words writes, its binary digits, what is left of it. No program in sight. -/
import Derived.Test.YtiofeehcnegejaaDoorMb
import Derived.Test.YtiofeehcnegejaaDoorWWords
namespace Go.Proofs.YtiofeehcnegejaaDoor
namespace Dv
open Go.RowKit Go.Proofs.YtiofeehcnegejaaDoorW.PrintWords
set_option linter.unusedVariables false

/-- The number that a row of words of 32 digits writes, the lowest first. -/
def valW : List Int → Int
  | [] => 0
  | x :: xs => x + 4294967296 * valW xs
/-- Each is a word. -/
def Wd (xs : List Int) : Prop := ∀ x ∈ xs, 0 ≤ x ∧ x < 4294967296
theorem Wd.get {xs : List Int} (h : Wd xs) (i : Int) : 0 ≤ rd xs i ∧ rd xs i < 4294967296 := by
  unfold rd
  by_cases hi : i.toNat < xs.length
  · rw [List.getD_eq_getElem?_getD, List.getElem?_eq_getElem hi]; exact h _ (List.getElem_mem hi)
  · rw [List.getD_eq_getElem?_getD, List.getElem?_eq_none (by omega)]; exact ⟨by simp, by simp⟩
theorem Wd.take {xs : List Int} (h : Wd xs) (k : Nat) : Wd (xs.take k) := fun x hx => h x (List.mem_of_mem_take hx)
theorem Wd.cons {x : Int} {xs : List Int} (h : Wd (x :: xs)) : (0 ≤ x ∧ x < 4294967296) ∧ Wd xs := ⟨h x (by simp), fun y hy => h y (by simp [hy])⟩
theorem valW_nonneg : ∀ {xs : List Int}, Wd xs → 0 ≤ valW xs
  | [], _ => by simp [valW]
  | x :: xs, h => by have := valW_nonneg h.cons.2; have := h.cons.1; simp only [valW]; omega
theorem valW_append (xs ys : List Int) : valW (xs ++ ys) = valW xs + 2 ^ (32 * xs.length) * valW ys := by
  induction xs with
  | nil => simp [valW]
  | cons x xs ih =>
    simp only [List.cons_append, valW, ih, List.length_cons]
    rw [show 32 * (xs.length + 1) = 32 * xs.length + 32 by omega, Int.pow_add, Int.mul_add]
    have e : (2 : Int) ^ 32 = 4294967296 := by decide
    rw [e, Int.mul_comm (2 ^ (32 * xs.length)) 4294967296, Int.mul_assoc]
    omega
theorem valW_snoc (xs : List Int) (x : Int) : valW (xs ++ [x]) = valW xs + 2 ^ (32 * xs.length) * x := by
  rw [valW_append]; simp [valW]
theorem valW_lt : ∀ {xs : List Int}, Wd xs → valW xs < 2 ^ (32 * xs.length)
  | [], _ => by simp [valW]
  | x :: xs, h => by
    have h1 := valW_lt h.cons.2
    have h2 := h.cons.1
    simp only [valW, List.length_cons]
    rw [show 32 * (xs.length + 1) = 32 + 32 * xs.length by omega, Int.pow_add]
    have e : (2 : Int) ^ 32 = 4294967296 := by decide
    rw [e]
    have : 4294967296 * (valW xs + 1) ≤ 4294967296 * 2 ^ (32 * xs.length) := Int.mul_le_mul_of_nonneg_left (by omega) (by omega)
    omega

theorem div_pow_succ (v : Int) (i : Nat) : v / 2 ^ (i + 1) = v / 2 ^ i / 2 := by
  rw [Int.pow_succ, ← Int.ediv_ediv_of_nonneg (by have := pow_pos' i; omega)]
theorem div_pow_bit (v : Int) (i : Nat) : v / 2 ^ i = 2 * (v / 2 ^ (i + 1)) + (v / 2 ^ i) % 2 := by
  rw [div_pow_succ]; omega

/-- The i-th binary digit stands in word i / 32. -/
theorem bit_word : ∀ {xs : List Int}, Wd xs → ∀ i : Nat, (valW xs / 2 ^ i) % 2 = (rd xs ((i / 32 : Nat) : Int) / 2 ^ (i % 32)) % 2
  | [], _, i => by simp [valW, rd]
  | x :: xs, h, i => by
    by_cases hi : i < 32
    · rw [Nat.div_eq_of_lt hi, Nat.mod_eq_of_lt hi]
      have e : rd (x :: xs) ((0 : Nat) : Int) = x := rfl
      rw [e, valW]
      have e2 : (4294967296 : Int) * valW xs = 2 ^ i * (2 * (2 ^ (31 - i) * valW xs)) := by
        have : (2 : Int) ^ i * (2 * 2 ^ (31 - i)) = 4294967296 := by
          rw [← Int.mul_assoc, Int.mul_comm (2 ^ i) 2, Int.mul_assoc, ← Int.pow_add, show i + (31 - i) = 31 by omega]; decide
        rw [← this, Int.mul_assoc, Int.mul_assoc]
      rw [e2, Int.add_mul_ediv_left _ _ (by have := pow_pos' i; omega)]
      omega
    · have ih := bit_word h.cons.2 (i - 32)
      rw [show i / 32 = (i - 32) / 32 + 1 by omega, show i % 32 = (i - 32) % 32 by omega]
      have e : rd (x :: xs) (((i - 32) / 32 + 1 : Nat) : Int) = rd xs (((i - 32) / 32 : Nat) : Int) := by
        unfold rd
        rw [Int.toNat_natCast, Int.toNat_natCast]
        simp
      rw [e, ← ih]
      obtain ⟨j, rfl⟩ : ∃ j, i = 32 + j := ⟨i - 32, by omega⟩
      rw [show 32 + j - 32 = j by omega, Int.pow_add, ← Int.ediv_ediv_of_nonneg (by decide), valW]
      have h2 := h.cons.1
      have e3 : (x + 4294967296 * valW xs) / 2 ^ 32 = valW xs := by
        have e : (2 : Int) ^ 32 = 4294967296 := by decide
        rw [e]; omega
      rw [e3]

/-- What is left of what the words from place k on write. -/
theorem rest_step (a x m : Int) : (a % m * 4294967296 + x) % m = (a * 4294967296 + x) % m := by
  rw [Int.add_emod, Int.mul_emod, Int.emod_emod, ← Int.mul_emod, ← Int.add_emod]
theorem drop_rd {xs : List Int} {k : Nat} (h : k < xs.length) : xs.drop k = rd xs k :: xs.drop (k + 1) := by
  rw [List.drop_eq_getElem_cons h]; simp [rd, List.getD, h]
theorem valW_drop {xs : List Int} {k : Nat} (h : k < xs.length) : valW (xs.drop k) = valW (xs.drop (k + 1)) * 4294967296 + rd xs k := by
  rw [drop_rd h, valW, Int.mul_comm]; omega
end Dv
end Go.Proofs.YtiofeehcnegejaaDoor
