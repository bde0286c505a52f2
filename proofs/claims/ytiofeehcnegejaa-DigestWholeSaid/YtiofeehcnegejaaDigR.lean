/- Plain: what the hash of a whole number is, of its form, of the one of the other sign; small ones. -/
import Derived.Test.YtiofeehcnegejaaDigQ
import Derived.OpenShut
namespace Go.Proofs.Ytiofeehcnegejaa
open Go.RowKit Go.Proofs.YtiofeehcnegejaaW.PrintWords
set_option linter.unusedVariables false

/-- The hash by what is left of the size. -/
def whR (neg : Bool) (r : Int) : Int := if neg then (if r = 1 then -2 else -r) else r
theorem wholeI_r (neg : Bool) (zs : List Int) : wholeI neg zs = whR neg (Dv.valW zs % 2305843009213693951) := by
  have h0 : 0 ≤ Dv.valW zs % 2305843009213693951 := Int.emod_nonneg _ (by omega)
  have h1 : Dv.valW zs % 2305843009213693951 < 2305843009213693951 := Int.emod_lt_of_pos _ (by omega)
  unfold wholeI whR
  generalize Dv.valW zs % 2305843009213693951 = r at *
  cases neg
  · simp only [Bool.false_eq_true, if_false]
    unfold hashI
    have : wrap64 r = r := by unfold wrap64; omega
    rw [this, if_neg (by omega)]
  · simp only [if_true]
    unfold hashI
    have : wrap64 (IntKind.u64.wrap (-r)) = -r := by rw [Dv.u64w]; unfold wrap64; omega
    rw [this]
    by_cases h : r = 1
    · rw [if_pos (by omega), if_pos h]
    · rw [if_neg (by omega), if_neg h]
theorem trim_zero {xs : List Int} (h : trimLen xs = 0) : Dv.valW xs = 0 := by
  have := valW_trim xs; rw [h] at this; simpa [Dv.valW] using this.symm
theorem wholeI_form (neg : Bool) (xs : List Int) : wholeI (neg && decide (0 < trimLen xs)) (xs.take (trimLen xs)) = wholeI neg xs := by
  rw [wholeI_r, wholeI_r, valW_trim]
  by_cases h : 0 < trimLen xs
  · simp [h]
  · rw [trim_zero (by omega)]
    cases neg <;> simp [whR, h]
theorem wholeI_bd (neg : Bool) (xs : List Int) : -2305843009213693952 ≤ wholeI neg xs ∧ wholeI neg xs ≤ 2305843009213693952 ∧ wholeI neg xs ≠ -1 := by
  have h0 : 0 ≤ Dv.valW xs % 2305843009213693951 := Int.emod_nonneg _ (by omega)
  have h1 : Dv.valW xs % 2305843009213693951 < 2305843009213693951 := Int.emod_lt_of_pos _ (by omega)
  rw [wholeI_r]
  generalize Dv.valW xs % 2305843009213693951 = r at *
  unfold whR
  cases neg
  · simp; omega
  · simp only [if_true]; split <;> omega
theorem wholeI_other (neg : Bool) (xs : List Int) :
    wholeI ((!neg) && decide (0 < trimLen xs)) (xs.take (trimLen xs)) = -wholeI neg xs ∨ (wholeI neg xs = 1 ∧ wholeI ((!neg) && decide (0 < trimLen xs)) (xs.take (trimLen xs)) = -2) ∨ (wholeI neg xs = -2 ∧ wholeI ((!neg) && decide (0 < trimLen xs)) (xs.take (trimLen xs)) = 1) := by
  rw [wholeI_form, wholeI_r, wholeI_r]
  generalize Dv.valW xs % 2305843009213693951 = r at *
  unfold whR
  cases neg <;> simp <;> by_cases h : r = 1 <;> simp [h]
theorem wholeI_small (neg : Bool) (xs : List Int) (hw : Dv.Wd xs) :
    (smallS neg (Dv.valW xs)).2 = false ∨ (smallS neg (Dv.valW xs)).1 ≤ -2305843009213693951 ∨ 2305843009213693951 ≤ (smallS neg (Dv.valW xs)).1 ∨ (smallS neg (Dv.valW xs)).1 = -1 ∨ wholeI neg xs = (smallS neg (Dv.valW xs)).1 := by
  have h0 := Dv.valW_nonneg hw
  rw [wholeI_r]
  generalize Dv.valW xs = U at *
  unfold smallS whR
  cases neg
  · simp only [Bool.false_eq_true, if_false]
    split
    · exact .inl rfl
    · by_cases h : 2305843009213693951 ≤ U
      · exact .inr (.inr (.inl h))
      · exact .inr (.inr (.inr (.inr (Int.emod_eq_of_lt h0 (by omega)))))
  · simp only [if_true]
    split
    · exact .inl rfl
    · by_cases h : 2305843009213693951 ≤ U
      · exact .inr (.inl (by simp; omega))
      · rw [Int.emod_eq_of_lt h0 (by omega)]
        by_cases h1 : U = 1
        · exact .inr (.inr (.inr (.inl (by simp [h1]))))
        · rw [if_neg h1]; exact .inr (.inr (.inr (.inr rfl)))
theorem wd_of {zs : List Int} (h : ∀ n ∈ zs, (Lit.int .u32 n).wf = true) : Dv.Wd zs := fun x hx => by
  have := Go.bounds_u32 (h x hx); omega
end Go.Proofs.Ytiofeehcnegejaa
