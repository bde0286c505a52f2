/- Plain: the hash of a frozen set does not hang on the order of its elements. -/
import Derived.Test.YtiofeehcnegejaaDigP
namespace Go.Proofs.Ytiofeehcnegejaa
open Go.RowKit Go.Proofs.YtiofeehcnegejaaW.PrintWords
set_option linter.unusedVariables false

theorem ofInt_wrap (r : BitVec 64) : BitVec.ofInt 64 (IntKind.u64.wrap (r.toNat : Int)) = r := by
  rw [Dv.u64w]
  have h : (r.toNat : Int) % 18446744073709551616 = (r.toNat : Int) := by
    have := r.isLt
    rw [Int.emod_eq_of_lt (by omega) (by omega)]
  rw [h, BitVec.ofInt_natCast, BitVec.ofNat_toNat, BitVec.setWidth_eq]
theorem xor_turn (h a b : Int) : bits .xor .u64 (bits .xor .u64 h a) b = bits .xor .u64 (bits .xor .u64 h b) a := by
  have e : ∀ x y : Int, bits .xor .u64 x y = IntKind.u64.wrap (((BitVec.ofInt 64 x) ^^^ (BitVec.ofInt 64 y)).toNat : Int) := fun x y => rfl
  rw [e (bits .xor .u64 h a) b, e (bits .xor .u64 h b) a, e h a, e h b, ofInt_wrap, ofInt_wrap, BitVec.xor_assoc, BitVec.xor_comm (BitVec.ofInt 64 a), ← BitVec.xor_assoc]
theorem frozI_perm {xs ys : List Int} (h : xs.Perm ys) : frozI xs = frozI ys := by
  unfold frozI
  have e : foldW frozStep 0 xs = foldW frozStep 0 ys := by
    unfold foldW
    exact h.foldl_eq' (fun x _ y _ z => by unfold frozStep; exact xor_turn _ _ _) 0
  rw [e, h.length_eq]

theorem swap_perm (ys : List Int) (J K : Nat) (hJ : J < ys.length) (hK : K < ys.length) : ((ys.set J (rd ys K)).set K (rd ys J)).Perm ys := by
  have e1 : rd ys K = ys[K] := by simp [rd, List.getD, hK]
  have e2 : rd ys J = ys[J] := by simp [rd, List.getD, hJ]
  rw [e1, e2]
  exact List.set_set_perm hJ hK

/-- What is left of any int by a length: a place, or one below 0 by the length. -/
theorem tmod_place (t : Int) (n : Nat) (hn : 0 < n) : ∃ K : Nat, K < n ∧ (t.tmod n = (K : Int) ∨ (t.tmod n = (K : Int) - n ∧ 0 < K)) := by
  have h1 := Int.tmod_lt_of_pos t (show (0 : Int) < n by omega)
  rcases Int.le_total 0 t with h | h
  · have h0 := Int.tmod_nonneg (n : Int) h
    exact ⟨(t.tmod n).toNat, by omega, .inl (by omega)⟩
  · have e : t.tmod n = -((-t).tmod n) := by rw [Int.neg_tmod]; omega
    have h2 := Int.tmod_lt_of_pos (-t) (show (0 : Int) < n by omega)
    have h3 := Int.tmod_nonneg (n : Int) (show 0 ≤ -t by omega)
    rcases Int.lt_or_le 0 ((-t).tmod n) with h4 | h4
    · exact ⟨(n - (-t).tmod n).toNat, by omega, .inr ⟨by omega, by omega⟩⟩
    · exact ⟨0, hn, .inl (by omega)⟩
end Go.Proofs.Ytiofeehcnegejaa
