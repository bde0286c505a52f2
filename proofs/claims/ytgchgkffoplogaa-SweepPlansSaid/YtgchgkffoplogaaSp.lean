/- Plain: a heap of numbers in a list, the least one first. No program in sight. -/
import Derived.Test.YtgchgkffoplogaaSa
namespace Go.Proofs.Ytgchgkffoplogaa
open Go.RowKit Go.Proofs.YtgchgkffoplogaaW.PrintWords
set_option linter.unusedVariables false

theorem rd_set (F : List Int) (i k : Nat) (x : Int) (hi : i < F.length) : rd (F.set i x) (k : Int) = if k = i then x else rd F (k : Int) := by
  unfold rd
  rw [Int.toNat_natCast, List.getD_eq_getElem?_getD, List.getD_eq_getElem?_getD, List.getElem?_set]
  by_cases h : i = k
  · subst h; simp [hi]
  · simp [h, Ne.symm h]
theorem rd_swap (F : List Int) (i j k : Nat) (hi : i < F.length) (hj : j < F.length) : rd (swapL F i j) (k : Int) = if k = j then rd F (i : Int) else if k = i then rd F (j : Int) else rd F (k : Int) := by
  unfold swapL
  rw [rd_set _ _ _ _ (by simp [hj]), rd_set _ _ _ _ hi]
theorem rd_get (F : List Int) (k : Nat) (h : k < F.length) : rd F (k : Int) = F[k] := by simp [rd, List.getD, h]
theorem swap_perm (F : List Int) (i j : Nat) (hi : i < F.length) (hj : j < F.length) : (swapL F i j).Perm F := by
  unfold swapL
  rw [rd_get F j hj, rd_get F i hi]
  exact List.set_set_perm hi hj

/-- The first m are a heap. -/
def Heap (F : List Int) (m : Nat) : Prop := ∀ k : Nat, 0 < k → k < m → rd F (((k - 1) / 2 : Nat) : Int) ≤ rd F (k : Int)
/-- A heap but for place j, which may be less than its parent. -/
structure UpInv (F : List Int) (j : Nat) : Prop where
  a : ∀ k : Nat, 0 < k → k < F.length → k ≠ j → rd F (((k - 1) / 2 : Nat) : Int) ≤ rd F (k : Int)
  b : ∀ k : Nat, 0 < k → k < F.length → (k - 1) / 2 = j → 0 < j → rd F (((j - 1) / 2 : Nat) : Int) ≤ rd F (k : Int)
theorem UpInv.last (F : List Int) (j : Nat) (h : UpInv F j) (hj : j = 0 ∨ ¬ rd F (j : Int) < rd F (((j - 1) / 2 : Nat) : Int)) : Heap F F.length := by
  intro k h0 h1
  by_cases e : k = j
  · subst e; omega
  · exact h.a k h0 h1 e
theorem UpInv.step (F : List Int) (j : Nat) (h : UpInv F j) (hj : 0 < j) (hl : j < F.length) (hlt : rd F (j : Int) < rd F (((j - 1) / 2 : Nat) : Int)) : UpInv (swapL F ((j - 1) / 2) j) ((j - 1) / 2) := by
  have hi : (j - 1) / 2 < F.length := by omega
  have hij : (j - 1) / 2 < j := by omega
  obtain ⟨i, hi'⟩ : ∃ i, (j - 1) / 2 = i := ⟨_, rfl⟩
  rw [hi'] at hi hij hlt ⊢
  constructor
  · intro k h0 h1 hk
    rw [swapL_length] at h1
    rw [rd_swap F i j _ hi hl, rd_swap F i j _ hi hl]
    by_cases e : k = j
    · subst e
      rw [hi', if_neg (by omega), if_pos rfl, if_pos rfl]; omega
    · rw [if_neg e, if_neg hk]
      by_cases e1 : (k - 1) / 2 = i
      · rw [e1, if_neg (by omega), if_pos rfl]
        have := h.a k h0 h1 e
        rw [e1] at this; omega
      · by_cases e2 : (k - 1) / 2 = j
        · rw [e2, if_pos rfl]
          have := h.b k h0 h1 e2 hj
          rw [hi'] at this; exact this
        · rw [if_neg e2, if_neg e1]; exact h.a k h0 h1 e
  · intro k h0 h1 hk hi0
    rw [swapL_length] at h1
    rw [rd_swap F i j _ hi hl, rd_swap F i j _ hi hl, if_neg (by omega), if_neg (by omega)]
    have h2 := h.a i hi0 hi (by omega)
    by_cases e : k = j
    · rw [if_pos e]; exact h2
    · rw [if_neg e, if_neg (by omega)]
      have := h.a k h0 h1 e
      rw [hk] at this; omega

/-- A heap on the first n but for place i, which may be greater than its children. -/
structure DownInv (F : List Int) (i n : Nat) : Prop where
  a : ∀ k : Nat, 0 < k → k < n → (k - 1) / 2 ≠ i → rd F (((k - 1) / 2 : Nat) : Int) ≤ rd F (k : Int)
  b : ∀ k : Nat, 0 < k → k < n → (k - 1) / 2 = i → 0 < i → rd F (((i - 1) / 2 : Nat) : Int) ≤ rd F (k : Int)
theorem DownInv.none (F : List Int) (i n : Nat) (h : DownInv F i n) (hi : n ≤ 2 * i + 1) : Heap F n := fun k h0 h1 => h.a k h0 h1 (by omega)
theorem DownInv.last (F : List Int) (i n j : Nat) (h : DownInv F i n) (hj : j = 2 * i + 1 ∨ j = 2 * i + 2) (hm : ∀ k : Nat, k < n → (k = 2 * i + 1 ∨ k = 2 * i + 2) → rd F (j : Int) ≤ rd F (k : Int)) (hlt : ¬ rd F (j : Int) < rd F (i : Int)) : Heap F n := by
  intro k h0 h1
  by_cases e : (k - 1) / 2 = i
  · have := hm k h1 (by omega)
    rw [e]; omega
  · exact h.a k h0 h1 e
theorem DownInv.step (F : List Int) (i n j : Nat) (h : DownInv F i n) (hn : n ≤ F.length) (hjn : j < n) (hj : j = 2 * i + 1 ∨ j = 2 * i + 2) (hm : ∀ k : Nat, k < n → (k = 2 * i + 1 ∨ k = 2 * i + 2) → rd F (j : Int) ≤ rd F (k : Int)) (hlt : rd F (j : Int) < rd F (i : Int)) :
    DownInv (swapL F i j) j n := by
  have hi : i < F.length := by omega
  have hl : j < F.length := by omega
  have hpj : (j - 1) / 2 = i := by omega
  constructor
  · intro k h0 h1 hk
    rw [rd_swap F i j _ hi hl, rd_swap F i j _ hi hl]
    by_cases e : k = j
    · subst e
      rw [hpj, if_neg (by omega), if_pos rfl, if_pos rfl]; omega
    · rw [if_neg e, if_neg hk]
      by_cases e1 : (k - 1) / 2 = i
      · rw [e1, if_pos rfl, if_neg (by omega)]
        exact hm k h1 (by omega)
      · rw [if_neg e1]
        by_cases e2 : k = i
        · rw [if_pos e2]
          subst e2
          have := h.b j (by omega) hjn hpj h0
          omega
        · rw [if_neg e2]; exact h.a k h0 h1 e1
  · intro k h0 h1 hk hj0
    rw [rd_swap F i j _ hi hl, rd_swap F i j _ hi hl, hpj, if_neg (by omega), if_pos rfl, if_neg (by omega), if_neg (by omega)]
    have := h.a k h0 h1 (by omega)
    rw [hk] at this; exact this
theorem Heap.least {F : List Int} {m : Nat} (h : Heap F m) : ∀ k : Nat, k < m → rd F 0 ≤ rd F (k : Int) := by
  intro k
  induction k using Nat.strongRecOn with
  | _ k ih =>
    intro hk
    by_cases e : k = 0
    · subst e; exact Int.le_refl _
    · have h1 := h k (by omega) hk
      have h2 := ih ((k - 1) / 2) (by omega) (by omega)
      omega
theorem rd_append_left (F G : List Int) (k : Nat) (h : k < F.length) : rd (F ++ G) (k : Int) = rd F (k : Int) := by
  unfold rd
  rw [Int.toNat_natCast, List.getD_eq_getElem?_getD, List.getD_eq_getElem?_getD, List.getElem?_append_left h]
theorem UpInv.push (F : List Int) (x : Int) (h : Heap F F.length) : UpInv (F ++ [x]) F.length := by
  constructor
  · intro k h0 h1 hk
    rw [List.length_append, List.length_singleton] at h1
    rw [rd_append_left F [x] k (by omega), rd_append_left F [x] _ (by omega)]
    exact h k h0 (by omega)
  · intro k h0 h1 hk hj
    rw [List.length_append, List.length_singleton] at h1
    omega
theorem DownInv.start (F : List Int) (n : Nat) (h : Heap F F.length) (hn : n + 1 = F.length) (h0 : 0 < n) : DownInv (swapL F 0 n) 0 n := by
  constructor
  · intro k k0 k1 hk
    rw [rd_swap F 0 n _ (by omega) (by omega), rd_swap F 0 n _ (by omega) (by omega), if_neg (by omega), if_neg (by omega), if_neg (by omega), if_neg (by omega)]
    exact h k k0 (by omega)
  · intro k _ _ _ hz; omega
end Go.Proofs.Ytgchgkffoplogaa
