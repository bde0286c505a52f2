/- Words: trim; two Ints compared word by word. -/
import Derived.Test.YtiofeehcnegejaaDoorMc
import Derived.Test.YtiofeehcnegejaaDoorProg
import Derived.WalkKit
import Derived.Lib.Hide
import Derived.Below
import Derived.KernelRfl
import Derived.Deep.QuietTactic
import Derived.BigQuiet
namespace Go.Proofs.YtiofeehcnegejaaDoor
open Go.RowKit Go.Proofs.YtiofeehcnegejaaDoorW.PrintWords
set_option linter.unusedVariables false

/-- How many words are left when those that are 0 at the end are left out. -/
def trimLen (xs : List Int) : Nat := (xs.reverse.dropWhile (· == 0)).length
theorem trimLen_nil : trimLen [] = 0 := rfl
theorem trimLen_zero (xs : List Int) : trimLen (xs ++ [0]) = trimLen xs := by simp [trimLen]
theorem trimLen_not (xs : List Int) (x : Int) (h : x ≠ 0) : trimLen (xs ++ [x]) = xs.length + 1 := by simp [trimLen, h]
theorem trimLen_le (xs : List Int) : trimLen xs ≤ xs.length := by
  have := (List.dropWhile_sublist (l := xs.reverse) (· == 0)).length_le
  simpa [trimLen] using this
/-- The length of a slice value. -/
def lenOf : Value → Nat
  | .slice _ m _ => m
  | _ => 0
theorem take_succ_rd (xs : List Int) (k : Nat) (h : k < xs.length) : xs.take (k + 1) = xs.take k ++ [rd xs k] := by
  rw [List.take_succ_eq_append_getElem h]; simp [rd, List.getD, h]

set_option maxHeartbeats 400000 in
set_option maxRecDepth 100000 in
theorem trim_any (A : Option Addr) (n c : Nat) (xs : List Int) (w : World) (hr : ReadsInt w .u32 A n xs) (hc : n ≤ c) (hn : n ≤ 9223372036854775807) :
    Calls Tryd.prog 54 #[.slice A n c] w fun e w' => e = .returned (.slice A (trimLen xs) c) ∧ ∃ q, w' = w.drewN q := by
  have hl : xs.length = n := hr.1
  have Hl := Lib.hid hl; clear hl
  have Hr := Lib.hid hr; clear hr
  go_enter Tryd.func54, Tryd.ntmps54
  go_wp2
  go_loopw [0] (fun v wr => ∃ m : Nat, m ≤ n ∧ v = .slice A m c ∧ Hid (trimLen (xs.take m) = trimLen xs) ∧ ∃ q, wr = w.drewN q) (fun v _ => lenOf v)
  case atStart => exact ⟨n, Nat.le_refl _, rfl, Lib.hid (by rw [List.take_of_length_le (by rw [Hl.out]; omega)]), 0, rfl⟩
  case round =>
    obtain ⟨m, hm, rfl, HT, q, rfl⟩ := hrel
    by_cases h0 : m = 0
    · subst h0
      have hT : trimLen xs = 0 := by have := HT.out; simpa [trimLen_nil] using this.symm
      have HT' := Lib.hid hT; clear hT HT
      go_wp2
      go_ret
      exact ⟨by rw [HT'.out]; rfl, q, rfl⟩
    · obtain ⟨m, rfl⟩ : ∃ k, m = k + 1 := ⟨m - 1, by omega⟩
      obtain ⟨ad, rfl, hcell⟩ := Hr.out.at_ (m : Int) (by omega) (by omega)
      rw [Int.toNat_natCast] at hcell
      have ht := take_succ_rd xs m (by rw [Hl.out]; omega)
      have HTk := Lib.hid ht; clear ht
      by_cases hz : rd xs m = 0
      · have hT : trimLen (xs.take m) = trimLen xs := by have := HT.out; rw [HTk.out, hz, trimLen_zero] at this; exact this
        have HT' := Lib.hid hT; clear hT HT HTk
        have hz' : (rd xs m == 0) = true := beq_iff_eq.2 hz
        clear hz h0
        go_wp2
        go_roundw
        case rel => exact ⟨m, by omega, rfl, HT', q, rfl⟩
        case measure => simp [lenOf]
      · have hT : trimLen xs = m + 1 := by have := HT.out; rw [HTk.out, trimLen_not _ _ hz, List.length_take, Nat.min_eq_left (by rw [Hl.out]; omega)] at this; exact this.symm
        have HT' := Lib.hid hT; clear hT HT HTk
        have hz' : (rd xs m == 0) = false := beq_eq_false_iff_ne.2 hz
        clear hz h0
        go_wp2
        go_ret
        exact ⟨by rw [HT'.out]; rfl, q, rfl⟩
end Go.Proofs.YtiofeehcnegejaaDoor
