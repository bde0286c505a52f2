/- Plain laws of SweepFrees. -/
import Derived.Test.YtgchgkffoplogaaKd
namespace Go.Proofs.Ytgchgkffoplogaa
open Go.RowKit Go.Proofs.YtgchgkffoplogaaW.PrintWords
set_option linter.unusedVariables false
set_option linter.unusedSimpArgs false

theorem mem_takes {S : List Bool} {n j : Nat} (hj : j < n) (h : S.getD j false = true) : (j : Int) ∈ takesTo S n := by
  induction n with
  | zero => omega
  | succ n ih =>
    rw [takesTo, List.mem_append]
    by_cases e : j = n
    · subst e; right; rw [if_pos h]; simp
    · left; exact ih (by omega)
theorem mem_takes_iff {S : List Bool} {n j : Nat} (hj : j < n) : (j : Int) ∈ takesTo S n ↔ S.getD j false = true := by
  constructor
  · intro h
    obtain ⟨i, _, e, h2⟩ := takes_mem S n _ h
    have : j = i := by omega
    subst this; exact h2
  · exact mem_takes hj

/-- Behind a sweep the taken ones are the marked ones. -/
theorem swept_T (T : List Bool) (X : List (List Int)) (rl : List Int) : (freesTX (T, X) (sweepL T X rl)).1 = markB T X rl := by
  symm
  refine markB_eq (freesTX_len _ _).1 (fun i hi => ?_)
  rw [(freesTX_get _ _ i).1]
  have h1 := markB_get T X rl i hi
  have h2 := lessB_get T (markB T X rl) i hi
  have h3 : ((i : Int) ∈ sweepL T X rl) ↔ (lessB T (markB T X rl)).getD i false = true := mem_takes_iff hi
  rw [h2] at h3
  constructor
  · intro h
    rw [Bool.and_eq_true] at h
    obtain ⟨ht, hn⟩ := h
    rw [← h1]
    cases hb : (markB T X rl).getD i false
    · have : (i : Int) ∈ sweepL T X rl := h3.2 (by rw [hb]; simpa using ht)
      simp [this] at hn
    · rfl
  · intro h
    have ht := h.taken
    have hb := h1.2 h
    have ht2 : T.getD i false = true := by simpa [isT, rdOf] using ht
    have : ¬ (i : Int) ∈ sweepL T X rl := fun hm => by
      have := h3.1 hm
      rw [hb] at this; simp at this
    show (T.getD i false && !decide ((i : Int) ∈ sweepL T X rl)) = true
    rw [ht2, decide_eq_false this]; rfl
theorem swept_X (T : List Bool) (X : List (List Int)) (rl : List Int) (i : Nat) (hi : i < T.length) (h : Reach T X rl (i : Int)) : (freesTX (T, X) (sweepL T X rl)).2.getD i [] = X.getD i [] := by
  rw [(freesTX_get _ _ i).2]
  have h3 : ((i : Int) ∈ sweepL T X rl) ↔ (lessB T (markB T X rl)).getD i false = true := mem_takes_iff hi
  rw [lessB_get T (markB T X rl) i hi] at h3
  have hb := (markB_get T X rl i hi).2 h
  have : ¬ (i : Int) ∈ sweepL T X rl := fun hm => by
    have := h3.1 hm
    rw [hb] at this; simp at this
  rw [decide_eq_false this]; simp
theorem isT_markB {T : List Bool} {X : List (List Int)} {rl : List Int} {i : Int} (h : Reach T X rl i) : isT (markB T X rl) i = true := by
  obtain ⟨n, rfl, hn⟩ := isT_ofNat h.taken
  exact isT_of ((markB_get T X rl n hn).2 h)
theorem swept_reach (T : List Bool) (X : List (List Int)) (rl : List Int) (i : Int) (h : Reach T X rl i) : Reach (freesTX (T, X) (sweepL T X rl)).1 (freesTX (T, X) (sweepL T X rl)).2 rl i := by
  rw [swept_T]
  induction h with
  | root h1 h2 => exact .root h1 (isT_markB (.root h1 h2))
  | step h1 h2 h3 ih =>
    refine .step ih ?_ (isT_markB (.step h1 h2 h3))
    obtain ⟨n, e, hn⟩ := isT_ofNat h1.taken
    subst e
    rw [Int.toNat_natCast] at h2 ⊢
    rw [swept_X T X rl n hn h1]; exact h2
theorem takes_none (S : List Bool) : ∀ n : Nat, (∀ i : Nat, i < n → S.getD i false = false) → takesTo S n = []
  | 0, _ => rfl
  | n + 1, h => by
    rw [takesTo, takes_none S n (fun i hi => h i (by omega)), h n (by omega)]; rfl
/-- A second time nothing. -/
theorem swept_twice (T : List Bool) (X : List (List Int)) (rl : List Int) : sweepL (freesTX (T, X) (sweepL T X rl)).1 (freesTX (T, X) (sweepL T X rl)).2 rl = [] := by
  unfold sweepL
  refine takes_none _ _ (fun i hi => ?_)
  rw [lessB_get _ _ i hi]
  cases ht : (freesTX (T, X) (takesTo (lessB T (markB T X rl)) T.length)).1.getD i false
  · rfl
  · have hi2 : i < T.length := by rw [← (freesTX_len (sweepL T X rl) (T, X)).1]; exact hi
    have e := swept_T T X rl
    unfold sweepL at e
    rw [e] at ht
    have hr := swept_reach T X rl (i : Int) ((markB_get T X rl i hi2).1 ht)
    have := (markB_get _ _ rl i hi).2 hr
    unfold sweepL at this
    rw [this]; rfl
theorem swept_cnt (T : List Bool) (X : List (List Int)) (rl : List Int) : cnt (freesTX (T, X) (sweepL T X rl)).1 = (marks T X rl).length := by
  rw [swept_T, ← takes_len2]
  unfold marks
  rw [markB_len]

/-! ### Fewer roots keep less -/
theorem reach_more {T : List Bool} {X : List (List Int)} {rl : List Int} {m : Int} {i : Int} (h : Reach T X rl i) : Reach T X (rl ++ [m]) i := by
  induction h with
  | root h1 h2 => exact .root (List.mem_append_left _ h1) h2
  | step h1 h2 h3 ih => exact .step ih h2 h3
theorem takes_sub (S S' : List Bool) : ∀ n : Nat, (∀ i : Nat, i < n → S.getD i false = true → S'.getD i false = true) → List.Sublist (takesTo S n) (takesTo S' n)
  | 0, _ => List.Sublist.refl _
  | n + 1, h => by
    rw [takesTo, takesTo]
    refine List.Sublist.append (takes_sub S S' n (fun i hi => h i (by omega))) ?_
    cases hb : S.getD n false
    · simp
    · rw [h n (by omega) hb]; exact List.Sublist.refl _
theorem marks_sub (T : List Bool) (X : List (List Int)) (rl : List Int) (m : Int) : List.Sublist (marks T X rl) (marks T X (rl ++ [m])) :=
  takes_sub _ _ _ (fun i hi h => (markB_get T X _ i hi).2 (reach_more ((markB_get T X rl i hi).1 h)))
/-- A round of the match. -/
theorem match_round {few many : List Int} {k i : Nat} (h : List.Sublist (few.drop k) (many.drop i)) (hk : k < few.length) (hi : i < many.length) :
    List.Sublist (few.drop (if rd many (i : Int) = rd few (k : Int) then k + 1 else k)) (many.drop (i + 1)) := by
  have e1 : few.drop k = rd few (k : Int) :: few.drop (k + 1) := by
    rw [List.drop_eq_getElem_cons hk]; simp [rd, List.getD_eq_getElem?_getD, List.getElem?_eq_getElem hk]
  have e2 : many.drop i = rd many (i : Int) :: many.drop (i + 1) := by
    rw [List.drop_eq_getElem_cons hi]; simp [rd, List.getD_eq_getElem?_getD, List.getElem?_eq_getElem hi]
  rw [e1, e2] at h
  split
  · rename_i e
    rw [e] at h
    exact List.cons_sublist_cons.1 h
  · rename_i e
    rw [e1]
    clear e1 e2
    generalize rd many (i : Int) = a at *
    generalize rd few (k : Int) = b at *
    cases h with
    | cons _ h => exact h
    | cons_cons _ h => exact absurd rfl e
theorem match_end {few many : List Int} {k i : Nat} (h : List.Sublist (few.drop k) (many.drop i)) (hk : k ≤ few.length) (hi : many.length ≤ i) : k = few.length := by
  rw [List.drop_eq_nil_of_le hi] at h
  have := List.sublist_nil.1 h
  have := congrArg List.length this
  simp at this
  omega
end Go.Proofs.Ytgchgkffoplogaa
