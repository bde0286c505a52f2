/- Plain: what Add and Free do to the list of taken slots. -/
import Derived.Test.YtgchgkffoplogaaSj
namespace Go.Proofs.Ytgchgkffoplogaa
open Go.RowKit Go.Proofs.YtgchgkffoplogaaW.PrintWords
set_option linter.unusedVariables false

theorem lowest_le (T : List Bool) : lowest T ≤ T.length := List.findIdx_le_length
theorem lowest_at (T : List Bool) (h : lowest T ≠ T.length) : T[lowest T]? = some false := by
  have hlt : lowest T < T.length := by have := lowest_le T; omega
  have := List.findIdx_getElem (xs := T) (p := fun b => !b) (w := hlt)
  rw [List.getElem?_eq_getElem hlt]
  simp only [Bool.not_eq_true'] at this
  exact congrArg some this
theorem lowest_is (T : List Bool) (m : Nat) (h1 : ∀ i : Nat, i < m → T[i]? = some true) (h2 : m = T.length ∨ T[m]? = some false) : lowest T = m := by
  rcases h2 with h2 | h2
  · subst h2
    refine List.findIdx_eq_length.2 ?_
    intro b hb
    obtain ⟨i, hi, rfl⟩ := List.getElem_of_mem hb
    have := h1 i hi
    rw [List.getElem?_eq_getElem hi] at this
    rw [Option.some.inj this]; rfl
  · refine lowest_least T m h2 (fun i hi => ?_)
    by_cases hlt : i < m
    · rw [h1 i hlt] at hi; cases hi
    · omega
theorem cnt_append (T : List Bool) (b : Bool) : cnt (T ++ [b]) = cnt T + if b then 1 else 0 := by
  cases b <;> simp [cnt, List.countP_append]
theorem cnt_set_true : ∀ (T : List Bool) (i : Nat), T[i]? = some false → cnt (T.set i true) = cnt T + 1
  | [], i, h => by simp at h
  | b :: T, 0, h => by
    obtain rfl : b = false := by simpa using h
    simp [cnt]
  | b :: T, i + 1, h => by
    have := cnt_set_true T i (by simpa using h)
    cases b <;> simp [cnt] at this ⊢ <;> omega
theorem cnt_set_false : ∀ (T : List Bool) (i : Nat), T[i]? = some true → cnt (T.set i false) + 1 = cnt T
  | [], i, h => by simp at h
  | b :: T, 0, h => by
    obtain rfl : b = true := by simpa using h
    simp [cnt]
  | b :: T, i + 1, h => by
    have := cnt_set_false T i (by simpa using h)
    cases b <;> simp [cnt] at this ⊢ <;> omega
theorem cnt_le (T : List Bool) : cnt T ≤ T.length := List.countP_le_length
theorem cnt_addT (T : List Bool) : cnt (addT T) = cnt T + 1 := by
  unfold addT
  split
  · rw [cnt_append]; rfl
  · rename_i h; exact cnt_set_true T _ (lowest_at T h)
theorem len_addT (T : List Bool) : (addT T).length = if lowest T = T.length then T.length + 1 else T.length := by
  unfold addT; split <;> simp
theorem len_addL (L : List Int) (T : List Bool) (x : Int) (h : T.length = L.length) : (addL L T x).length = (addT T).length := by
  unfold addL addT; split <;> simp [h]
theorem cnt_full (T : List Bool) (h : lowest T = T.length) : cnt T = T.length := by
  have h1 := List.findIdx_eq_length.1 h
  refine List.countP_eq_length.2 (fun b hb => ?_)
  have := h1 b hb
  simpa using this
theorem cnt_lt (T : List Bool) (h : lowest T ≠ T.length) : cnt T < T.length := by
  have h1 := cnt_set_true T _ (lowest_at T h)
  have h2 := cnt_le (T.set (lowest T) true)
  rw [List.length_set] at h2
  omega
theorem isT_nat (T : List Bool) (m : Nat) : isT T m = T.getD m false := by simp [isT, rdOf]
theorem set_same (T : List Bool) (m : Nat) (b : Bool) (h : T[m]? = some b) : T.set m b = T := by
  obtain ⟨hl, rfl⟩ := List.getElem?_eq_some_iff.1 h
  exact List.set_getElem_self hl
/-- What Free leaves of the list, whatever stood there. -/
theorem free_set (T : List Bool) (m : Nat) (h : m < T.length) : (if isT T m then T.set m false else T) = T.set m false := by
  rw [isT_nat]
  by_cases hb : T[m]? = some true
  · simp [List.getD, hb]
  · have hb' : T[m]? = some false := by
      rw [List.getElem?_eq_getElem h] at hb ⊢
      cases hv : T[m] <;> simp [hv] at hb ⊢
    simp [List.getD, hb', set_same T m false hb']
end Go.Proofs.Ytgchgkffoplogaa
