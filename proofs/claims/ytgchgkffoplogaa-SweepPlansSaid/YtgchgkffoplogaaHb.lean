/- Plain: what a sweep frees. -/
import Derived.Test.YtgchgkffoplogaaHa
namespace Go.Proofs.Ytgchgkffoplogaa
open Go.RowKit Go.Proofs.YtgchgkffoplogaaW.PrintWords
set_option linter.unusedVariables false
set_option linter.unusedSimpArgs false

/-- One taken slot, against what is kept. -/
def stepS (p : List Int × List Int) (x : Int) : List Int × List Int :=
  match p.1 with
  | [] => ([], p.2 ++ [x])
  | k :: ks => if k = x then (ks, p.2) else (k :: ks, p.2 ++ [x])
/-- The slots that are taken and not marked. -/
def lessB (T S : List Bool) : List Bool := (List.range T.length).map (fun i => T.getD i false && !S.getD i false)
theorem lessB_get (T S : List Bool) (i : Nat) (hi : i < T.length) : (lessB T S).getD i false = (T.getD i false && !S.getD i false) := by
  unfold lessB
  rw [List.getD_eq_getElem?_getD, List.getElem?_map, List.getElem?_range hi]; rfl
theorem takes_split (S : List Bool) (i : Nat) : ∀ d : Nat, ∃ tl, takesTo S (i + d) = takesTo S i ++ tl ∧ (∀ x ∈ tl, (i : Int) ≤ x) ∧ (S.getD i false = true → 0 < d → ∃ tl', tl = (i : Int) :: tl') ∧ (S.getD i false = false → ∀ x ∈ tl, (i : Int) < x)
  | 0 => ⟨[], by simp, by simp, fun _ h => by omega, by simp⟩
  | d + 1 => by
    obtain ⟨tl, h1, h2, h3, h4⟩ := takes_split S i d
    refine ⟨tl ++ (if S.getD (i + d) false then [((i + d : Nat) : Int)] else []), ?_, ?_, ?_, ?_⟩
    · rw [← Nat.add_assoc, takesTo, h1, List.append_assoc]
    · intro x hx
      rcases List.mem_append.1 hx with hx | hx
      · exact h2 x hx
      · split at hx
        · rw [List.mem_singleton.1 hx]; omega
        · cases hx
    · intro hS _
      cases d with
      | zero =>
        have : tl = [] := by
          have := congrArg List.length h1
          simp at this; exact this
        subst this
        rw [Nat.add_zero, hS]
        exact ⟨[], rfl⟩
      | succ d =>
        obtain ⟨tl', e⟩ := h3 hS (by omega)
        rw [e]
        exact ⟨_, rfl⟩
    · intro hS x hx
      rcases List.mem_append.1 hx with hx | hx
      · exact h4 hS x hx
      · split at hx
        · rename_i hb
          rw [List.mem_singleton.1 hx]
          by_cases hd : d = 0
          · subst hd; rw [Nat.add_zero, hS] at hb; cases hb
          · omega
        · cases hx
theorem sweep_fold (T S : List Bool) (hS : ∀ i, S.getD i false = true → T.getD i false = true) : ∀ i, i ≤ T.length → ∃ tl, takesTo S T.length = takesTo S i ++ tl ∧ (takesTo T i).foldl stepS (takesTo S T.length, []) = (tl, takesTo (lessB T S) i)
  | 0, _ => ⟨takesTo S T.length, by simp [takesTo], rfl⟩
  | i + 1, hi => by
    obtain ⟨tl0, h1, h2⟩ := sweep_fold T S hS i (by omega)
    obtain ⟨tl, g1, g2, g3, g4⟩ := takes_split S i (T.length - i)
    rw [show i + (T.length - i) = T.length by omega] at g1
    obtain rfl : tl = tl0 := by rw [h1] at g1; exact (List.append_cancel_left g1).symm
    have hl := lessB_get T S i (by omega)
    have eT : takesTo T (i + 1) = takesTo T i ++ if T.getD i false then [(i : Int)] else [] := rfl
    have eS : takesTo S (i + 1) = takesTo S i ++ if S.getD i false then [(i : Int)] else [] := rfl
    have eL : takesTo (lessB T S) (i + 1) = takesTo (lessB T S) i ++ if (lessB T S).getD i false then [(i : Int)] else [] := rfl
    rw [hl] at eL
    cases hT : T.getD i false
    · have hSi : S.getD i false = false := by
        cases e : S.getD i false
        · rfl
        · rw [hS i e] at hT; cases hT
      rw [hT] at eT eL
      rw [hSi] at eS
      simp only [Bool.false_and, Bool.false_eq_true, if_false, List.append_nil] at eT eS eL
      rw [eT, eS, eL]
      exact ⟨tl, h1, h2⟩
    · rw [hT] at eT eL
      simp only [if_true, Bool.true_and] at eT eL
      rw [eT, List.foldl_append, h2]
      cases hSi : S.getD i false
      · rw [hSi] at eS eL
        simp only [Bool.not_false, if_true, Bool.false_eq_true, if_false, List.append_nil] at eS eL
        rw [eS, eL]
        refine ⟨tl, h1, ?_⟩
        cases htl : tl with
        | nil => rfl
        | cons k ks =>
          have := g4 hSi k (by rw [htl]; exact List.mem_cons_self)
          have hne : ¬ k = (i : Int) := by omega
          simp [stepS, hne]
      · rw [hSi] at eS eL
        simp only [Bool.not_true, Bool.false_eq_true, if_false, List.append_nil, if_true] at eS eL
        obtain ⟨tl', e⟩ := g3 hSi (by omega)
        subst e
        rw [eS, eL]
        exact ⟨tl', by rw [h1, List.append_assoc]; rfl, by simp [stepS]⟩
theorem sweep_end (T S : List Bool) (hS : ∀ i, S.getD i false = true → T.getD i false = true) : ((takesTo T T.length).foldl stepS (takesTo S T.length, [])).2 = takesTo (lessB T S) T.length := by
  obtain ⟨tl, _, h⟩ := sweep_fold T S hS T.length (Nat.le_refl _)
  rw [h]
theorem markB_taken (T : List Bool) (X : List (List Int)) (rl : List Int) (i : Nat) (h : (markB T X rl).getD i false = true) : T.getD i false = true := by
  have hi : i < T.length := by
    rcases Nat.lt_or_ge i T.length with h1 | h1
    · exact h1
    · rw [List.getD_eq_getElem?_getD, List.getElem?_eq_none (by rw [markB_len]; exact h1)] at h; cases h
  have := ((markB_get T X rl i hi).1 h).taken
  simpa [isT, rdOf] using this
/-- What a sweep frees. -/
noncomputable def sweepL (T : List Bool) (X : List (List Int)) (rl : List Int) : List Int := takesTo (lessB T (markB T X rl)) T.length
theorem sweepL_of (T : List Bool) (X : List (List Int)) (rl : List Int) : ((takesTo T T.length).foldl stepS (marks T X rl, [])).2 = sweepL T X rl := sweep_end T (markB T X rl) (markB_taken T X rl)
/-- The slots behind Frees. -/
def freesTX (p : List Bool × List (List Int)) (l : List Int) : List Bool × List (List Int) := l.foldl freeTX p
theorem freeTX_get (p : List Bool × List (List Int)) (x : Int) (i : Nat) : (freeTX p x).1.getD i false = (p.1.getD i false && !decide ((i : Int) = x)) ∧ (freeTX p x).2.getD i [] = if p.1.getD i false && decide ((i : Int) = x) then [] else p.2.getD i [] := by
  unfold freeTX
  by_cases hx : isT p.1 x = true
  · obtain ⟨n, rfl, hn⟩ := isT_ofNat hx
    rw [if_pos hx, Int.toNat_natCast]
    have hT : p.1.getD n false = true := by simpa [isT, rdOf] using hx
    by_cases e : n = i
    · subst e
      have h1 : ((n : Int) = (n : Int)) := rfl
      refine ⟨?_, ?_⟩
      · rw [List.getD_eq_getElem?_getD, List.getElem?_set_self hn]; simp
      · rw [hT]
        simp only [decide_true, Bool.and_true, if_true]
        rw [List.getD_eq_getElem?_getD, List.getElem?_set]
        simp
        split <;> rfl
    · have hne : ¬ ((i : Int) = (n : Int)) := by omega
      refine ⟨?_, ?_⟩
      · rw [List.getD_eq_getElem?_getD, List.getElem?_set_ne e, ← List.getD_eq_getElem?_getD]; simp [hne]
      · rw [List.getD_eq_getElem?_getD, List.getElem?_set_ne e, ← List.getD_eq_getElem?_getD]; simp [hne]
  · rw [if_neg hx]
    by_cases e : (i : Int) = x
    · subst e
      have hT : p.1.getD i false = false := by
        cases hb : p.1.getD i false
        · rfl
        · exact absurd (isT_of hb) hx
      rw [hT]; simp
    · simp [e]
theorem freesTX_get (l : List Int) : ∀ (p : List Bool × List (List Int)) (i : Nat), (freesTX p l).1.getD i false = (p.1.getD i false && !decide ((i : Int) ∈ l)) ∧ (freesTX p l).2.getD i [] = if p.1.getD i false && decide ((i : Int) ∈ l) then [] else p.2.getD i [] := by
  induction l with
  | nil => intro p i; simp [freesTX]
  | cons x l ih =>
    intro p i
    have h1 := freeTX_get p x i
    have h2 := ih (freeTX p x) i
    have e : freesTX p (x :: l) = freesTX (freeTX p x) l := rfl
    rw [e, h2.1, h2.2, h1.1, h1.2]
    by_cases ex : (i : Int) = x
    · simp [ex]
    · simp [ex]
theorem freesTX_len (l : List Int) : ∀ p : List Bool × List (List Int), (freesTX p l).1.length = p.1.length ∧ (freesTX p l).2.length = p.2.length := by
  induction l with
  | nil => intro p; exact ⟨rfl, rfl⟩
  | cons a l ih =>
    intro p
    have h1 := ih (freeTX p a)
    have h2 := freeTX_len p a
    have e : freesTX p (a :: l) = freesTX (freeTX p a) l := rfl
    rw [e]
    exact ⟨h1.1.trans h2.1, h1.2.trans h2.2⟩
theorem takes_not_mem (S : List Bool) (i : Nat) : (i : Int) ∉ takesTo S i := by
  intro h
  obtain ⟨j, hj, e, _⟩ := takes_mem S i _ h
  omega
/-- The marked slot at hand. -/
theorem marks_at (S : List Bool) (n i : Nat) (hi : i < n) : (S.getD i false = true → (takesTo S i).length < (takesTo S n).length ∧ rd (takesTo S n) ((takesTo S i).length : Int) = (i : Int)) ∧
    (S.getD i false = false → (takesTo S i).length < (takesTo S n).length → rd (takesTo S n) ((takesTo S i).length : Int) ≠ (i : Int)) := by
  obtain ⟨tl, h1, h2, h3, h4⟩ := takes_split S i (n - i)
  rw [show i + (n - i) = n by omega] at h1
  refine ⟨fun hS => ?_, fun hS hlt => ?_⟩
  · obtain ⟨tl', e⟩ := h3 hS (by omega)
    subst e
    refine ⟨by rw [h1]; simp, ?_⟩
    rw [h1]; simp [rd, List.getD_eq_getElem?_getD]
  · rw [h1] at hlt ⊢
    cases tl with
    | nil => simp at hlt
    | cons a tl =>
      have := h4 hS a List.mem_cons_self
      have e : rd (takesTo S i ++ a :: tl) ((takesTo S i).length : Int) = a := by simp [rd, List.getD_eq_getElem?_getD]
      rw [e]; omega
end Go.Proofs.Ytgchgkffoplogaa
