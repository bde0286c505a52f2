/- Plain: the document's way of a number's text: the lowest digit first. No program in sight. -/
import Derived.Test.YtiofeehcnegejaaDoorTd
namespace Go.Proofs.YtiofeehcnegejaaDoor
open Go.RowKit Go.Proofs.YtiofeehcnegejaaDoorW.PrintWords
set_option linter.unusedVariables false
set_option linter.unusedSimpArgs false

/-- A piece's signs, the lowest first. -/
def low9 (n : Int) (k : Nat) : List Int := (List.range k).map fun i => 48 + n / 10 ^ i % 10
theorem low9_zero (n : Int) : low9 n 0 = [] := rfl
theorem low9_succ (n : Int) (k : Nat) : low9 n (k + 1) = low9 n k ++ [48 + n / 10 ^ k % 10] := by simp [low9, List.range_succ]
theorem low9_len (n : Int) (k : Nat) : (low9 n k).length = k := by simp [low9]
theorem low9_all (n : Int) : low9 n 9 = (dig9 n).reverse := by
  simp [low9, dig9, dgt, List.range_succ]
theorem ten_step (n : Int) (k : Nat) : n / 10 ^ k / 10 = n / 10 ^ (k + 1) := by
  rw [Int.pow_succ, Int.ediv_ediv_of_nonneg (Int.le_of_lt (Int.pow_pos (by decide)))]
theorem ten_range {n : Int} (h0 : 0 ≤ n) (h1 : n < 1000000000) (k : Nat) : 0 ≤ n / 10 ^ k ∧ n / 10 ^ k < 1000000000 := by
  have hp : (0 : Int) < 10 ^ k := Int.pow_pos (by decide)
  refine ⟨Int.ediv_nonneg h0 (Int.le_of_lt hp), ?_⟩
  have := Int.ediv_le_self (b := 10 ^ k) h0
  omega
/-- All signs, the lowest first. -/
def lowP (ps : List Int) : List Int := (outP ps).reverse
theorem lowP_nil : lowP [] = [] := rfl
theorem lowP_snoc (ps : List Int) (r : Int) : lowP (ps ++ [r]) = lowP ps ++ low9 r 9 := by
  rw [low9_all]
  unfold lowP outP
  rw [List.reverse_append, List.reverse_singleton, List.singleton_append, List.flatMap_cons, List.reverse_append]
theorem lowP_len (ps : List Int) : (lowP ps).length = 9 * ps.length := by
  unfold lowP
  rw [List.length_reverse]
  induction ps with
  | nil => rfl
  | cons x xs ih =>
    have e : outP (x :: xs) = outP xs ++ dig9 x := by unfold outP; rw [List.reverse_cons, List.flatMap_append]; simp
    rw [e, List.length_append, ih, List.length_cons]
    show 9 * xs.length + 9 = _
    omega
theorem lowP_digs (ps : List Int) : Digs (lowP ps) := fun d hd => outP_digs ps d (List.mem_reverse.1 hd)
/-- The walk back over the noughts: where it ends. -/
structure CutAt (bs : List Int) (n : Nat) : Prop where
  le : n ≤ bs.length
  pos : 0 < n
  high : ∀ j : Nat, n ≤ j → j < bs.length → rd bs (j : Int) = 48
theorem CutAt.start (bs : List Int) (h : 0 < bs.length) : CutAt bs bs.length := ⟨Nat.le_refl _, h, fun j h1 h2 => by omega⟩
theorem CutAt.step {bs : List Int} {n : Nat} (h : CutAt bs (n + 1)) (hn : 0 < n) (hx : rd bs (n : Int) = 48) : CutAt bs n :=
  ⟨by have := h.le; omega, hn, fun j h1 h2 => by
    by_cases e : j = n
    · subst e; exact hx
    · exact h.high j (by omega) h2⟩
theorem drop_noughts (bs : List Int) (n : Nat) (hn : n ≤ bs.length) (h : ∀ j : Nat, n ≤ j → j < bs.length → rd bs (j : Int) = 48) : bs.reverse.dropWhile (· == 48) = (bs.take n).reverse.dropWhile (· == 48) := by
  generalize hm : bs.length - n = m
  induction m generalizing n with
  | zero => rw [List.take_of_length_le (by omega)]
  | succ m ih =>
    rw [ih (n + 1) (by omega) (fun j h1 h2 => h j (by omega) h2) (by omega)]
    have hx := h n (Nat.le_refl _) (by omega)
    have e : bs.take (n + 1) = bs.take n ++ [rd bs (n : Int)] := take_succ_rd bs n (by omega)
    rw [e, List.reverse_append, List.reverse_singleton, List.singleton_append, hx, List.dropWhile_cons]
    simp
/-- Where the walk ends the digits stand. -/
theorem CutAt.done {bs : List Int} {n : Nat} (h : CutAt bs n) (hl : n ≤ 1 ∨ rd bs ((n : Int) - 1) ≠ 48) (hne : bs.reverse.dropWhile (· == 48) ≠ []) : (bs.take n).reverse = bs.reverse.dropWhile (· == 48) := by
  obtain ⟨m, rfl⟩ : ∃ m, n = m + 1 := ⟨n - 1, by have := h.pos; omega⟩
  have hle := h.le
  rw [drop_noughts bs (m + 1) h.le h.high] at hne ⊢
  have e : bs.take (m + 1) = bs.take m ++ [rd bs (m : Int)] := take_succ_rd bs m (by omega)
  rw [e, List.reverse_append, List.reverse_singleton, List.singleton_append] at hne ⊢
  have hx : rd bs (m : Int) ≠ 48 := by
    rcases hl with hl | hl
    · obtain rfl : m = 0 := by omega
      intro hx
      rw [hx] at hne
      simp at hne
    · rw [show ((m + 1 : Nat) : Int) - 1 = (m : Int) by omega] at hl
      exact hl
  rw [List.dropWhile_cons, if_neg (by simpa using hx)]
end Go.Proofs.YtiofeehcnegejaaDoor
