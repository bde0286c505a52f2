/- Plain: what can be reached; marking by a stack. -/
import Derived.Test.YtgchgkffoplogaaBa
namespace Go.Proofs.Ytgchgkffoplogaa
open Go.RowKit Go.Proofs.YtgchgkffoplogaaW.PrintWords
set_option linter.unusedVariables false
set_option linter.unusedSimpArgs false

/-- How many of the first H numbers are set. -/
def cF (f : Nat → Bool) : Nat → Nat
  | 0 => 0
  | h + 1 => cF f h + if f h then 1 else 0
theorem cF_le (f : Nat → Bool) : ∀ H, cF f H ≤ H
  | 0 => Nat.le_refl _
  | h + 1 => by have := cF_le f h; unfold cF; split <;> omega
theorem cF_set (f : Nat → Bool) (k : Nat) (hk : f k = false) : ∀ H, k < H → cF (fun j => f j || decide (k = j)) H = cF f H + 1
  | 0, h => by omega
  | h + 1, hlt => by
    by_cases e : k = h
    · subst e
      have he : ∀ n, n ≤ k → cF (fun j => f j || decide (k = j)) n = cF f n := by
        intro n
        induction n with
        | zero => intro _; rfl
        | succ n ih =>
          intro hn
          have hne : ¬ k = n := by omega
          simp only [cF]
          rw [ih (by omega)]
          simp [hne]
      simp only [cF]
      rw [he k (Nat.le_refl _), hk]
      simp
    · have := cF_set f k hk h (by omega)
      simp only [cF]
      rw [this]
      simp only [e, decide_false, Bool.or_false]
      omega
theorem cF_mono {f g : Nat → Bool} (h : ∀ j, f j = true → g j = true) : ∀ H, cF f H ≤ cF g H
  | 0 => Nat.le_refl _
  | n + 1 => by
    have := cF_mono h n
    simp only [cF]
    cases e : f n
    · simp; omega
    · rw [h n e]; simp; omega

/-- What can be reached from some numbers. -/
inductive Reach (T : List Bool) (X : List (List Int)) (roots : List Int) : Int → Prop
  | root {r : Int} : r ∈ roots → isT T r = true → Reach T X roots r
  | step {i j : Int} : Reach T X roots i → j ∈ X.getD i.toNat [] → isT T j = true → Reach T X roots j
theorem Reach.taken {T : List Bool} {X : List (List Int)} {roots : List Int} {i : Int} (h : Reach T X roots i) : isT T i = true := by
  cases h <;> assumption

abbrev MS := (Nat → Bool) × List Int
def stepR (T : List Bool) (p : MS) (i : Int) : MS := if isT T i && !p.1 i.toNat then (fun j => p.1 j || decide (i.toNat = j), p.2 ++ [i]) else p
def reachR (T : List Bool) (p : MS) (l : List Int) : MS := l.foldl (stepR T) p
theorem reachR_nil (T : List Bool) (p : MS) : reachR T p [] = p := rfl
theorem reachR_take (T : List Bool) (p : MS) (l : List Int) (k : Nat) (hk : k < l.length) : reachR T p (l.take (k + 1)) = stepR T (reachR T p (l.take k)) (rd l k) := by
  unfold reachR
  rw [List.take_add_one, List.foldl_append]
  have : l[k]? = some (rd l (k : Int)) := by rw [List.getElem?_eq_getElem hk]; simp [rd, List.getD, List.getElem?_eq_getElem hk]
  rw [this]; rfl

/-- What a stack holds is set; what is set can be reached, and leads to what is set unless it lies on the stack. -/
structure MOk (T : List Bool) (X : List (List Int)) (roots : List Int) (p : MS) : Prop where
  stk : ∀ x ∈ p.2, isT T x = true ∧ p.1 x.toNat = true
  sound : ∀ j : Nat, p.1 j = true → Reach T X roots (j : Int)
structure MEnd (T : List Bool) (X : List (List Int)) (p : MS) : Prop where
  done : ∀ j : Nat, p.1 j = true → (j : Int) ∉ p.2 → ∀ k ∈ X.getD j [], isT T k = true → p.1 k.toNat = true
def mu (H : Nat) (p : MS) : Nat := 2 * (H - cF p.1 H) + p.2.length
def StkLe (H : Nat) (p : MS) : Prop := p.2.length ≤ cF p.1 H

theorem isT_ofNat {T : List Bool} {i : Int} (h : isT T i = true) : ∃ n : Nat, i = (n : Int) ∧ n < T.length := by
  obtain ⟨h0, h1, _⟩ := isT_lt h
  exact ⟨i.toNat, by omega, by omega⟩

theorem stepR_set (T : List Bool) (p : MS) (i : Int) (hi : isT T i = true) : (stepR T p i).1 i.toNat = true := by
  unfold stepR
  split
  · simp
  · rename_i h
    simp only [hi, Bool.true_and, Bool.not_eq_true', Bool.not_eq_false] at h
    exact h
theorem stepR_keep (T : List Bool) (p : MS) (i : Int) (j : Nat) (h : p.1 j = true) : (stepR T p i).1 j = true := by
  unfold stepR
  split
  · simp [h]
  · exact h
theorem reachR_keep (T : List Bool) (l : List Int) : ∀ (p : MS) (j : Nat), p.1 j = true → (reachR T p l).1 j = true := by
  induction l with
  | nil => intro p j h; exact h
  | cons a l ih => intro p j h; exact ih _ j (stepR_keep T p a j h)
theorem reachR_set (T : List Bool) (l : List Int) : ∀ (p : MS) (i : Int), i ∈ l → isT T i = true → (reachR T p l).1 i.toNat = true := by
  induction l with
  | nil => intro p i h; cases h
  | cons a l ih =>
    intro p i h hi
    rcases List.mem_cons.1 h with rfl | h
    · exact reachR_keep T l _ _ (stepR_set T p i hi)
    · exact ih _ i h hi
/-- What is new lies on the stack. -/
theorem stepR_new (T : List Bool) (p : MS) (i : Int) (j : Nat) (h : (stepR T p i).1 j = true) : p.1 j = true ∨ ((j : Int) ∈ (stepR T p i).2 ∧ (j : Int) = i ∧ isT T i = true) := by
  unfold stepR at h ⊢
  split at h
  · rename_i hc
    simp only [Bool.and_eq_true, Bool.not_eq_true'] at hc
    simp only [Bool.or_eq_true, decide_eq_true_eq] at h
    rcases h with h | h
    · exact .inl h
    · obtain ⟨n, rfl, _⟩ := isT_ofNat hc.1
      simp only [Int.toNat_natCast] at h
      subst h
      rw [if_pos (by simp [hc.1]; simpa using hc.2)]
      exact .inr ⟨by simp, rfl, hc.1⟩
  · exact .inl h
theorem stepR_stk (T : List Bool) (p : MS) (i x : Int) (h : x ∈ p.2) : x ∈ (stepR T p i).2 := by
  unfold stepR
  split
  · exact List.mem_append_left _ h
  · exact h
theorem reachR_stk (T : List Bool) (l : List Int) : ∀ (p : MS) (x : Int), x ∈ p.2 → x ∈ (reachR T p l).2 := by
  induction l with
  | nil => intro p x h; exact h
  | cons a l ih => intro p x h; exact ih _ x (stepR_stk T p a x h)
theorem reachR_new (T : List Bool) (l : List Int) : ∀ (p : MS) (j : Nat), (reachR T p l).1 j = true → p.1 j = true ∨ ((j : Int) ∈ (reachR T p l).2 ∧ (j : Int) ∈ l ∧ isT T (j : Int) = true) := by
  induction l with
  | nil => intro p j h; exact .inl h
  | cons a l ih =>
    intro p j h
    rcases ih (stepR T p a) j h with h1 | ⟨h1, h2, h3⟩
    · rcases stepR_new T p a j h1 with h4 | ⟨h4, h5, h6⟩
      · exact .inl h4
      · exact .inr ⟨reachR_stk T l _ _ h4, by rw [h5]; exact List.mem_cons_self, by rw [h5]; exact h6⟩
    · exact .inr ⟨h1, List.mem_cons_of_mem _ h2, h3⟩
theorem stepR_stkOk (T : List Bool) (p : MS) (i : Int) (h : ∀ x ∈ p.2, isT T x = true ∧ p.1 x.toNat = true) : ∀ x ∈ (stepR T p i).2, isT T x = true ∧ (stepR T p i).1 x.toNat = true := by
  intro x hx
  unfold stepR at hx ⊢
  split at hx
  · rename_i hc
    rw [if_pos hc]
    simp only [Bool.and_eq_true, Bool.not_eq_true'] at hc
    rcases List.mem_append.1 hx with hx | hx
    · exact ⟨(h x hx).1, by simp [(h x hx).2]⟩
    · rw [List.mem_singleton.1 hx]
      exact ⟨hc.1, by simp⟩
  · rename_i hc
    rw [if_neg hc]
    exact h x hx
theorem reachR_stkOk (T : List Bool) (l : List Int) : ∀ p : MS, (∀ x ∈ p.2, isT T x = true ∧ p.1 x.toNat = true) → ∀ x ∈ (reachR T p l).2, isT T x = true ∧ (reachR T p l).1 x.toNat = true := by
  induction l with
  | nil => intro p h; exact h
  | cons a l ih => intro p h; exact ih _ (stepR_stkOk T p a h)
theorem stepR_le (T : List Bool) (p : MS) (i : Int) (h : StkLe T.length p) : StkLe T.length (stepR T p i) ∧ mu T.length (stepR T p i) ≤ mu T.length p := by
  unfold stepR
  split
  · rename_i hc
    simp only [Bool.and_eq_true, Bool.not_eq_true'] at hc
    obtain ⟨n, rfl, hn⟩ := isT_ofNat hc.1
    simp only [Int.toNat_natCast] at hc ⊢
    have h1 := cF_set p.1 n hc.2 T.length hn
    have h2 := cF_le (fun j => p.1 j || decide (n = j)) T.length
    unfold StkLe mu at *
    simp only [List.length_append, List.length_singleton]
    rw [h1] at h2 ⊢
    exact ⟨by omega, by omega⟩
  · exact ⟨h, Nat.le_refl _⟩
theorem reachR_le (T : List Bool) (l : List Int) : ∀ p : MS, StkLe T.length p → StkLe T.length (reachR T p l) ∧ mu T.length (reachR T p l) ≤ mu T.length p := by
  induction l with
  | nil => intro p h; exact ⟨h, Nat.le_refl _⟩
  | cons a l ih =>
    intro p h
    obtain ⟨h1, h2⟩ := stepR_le T p a h
    obtain ⟨h3, h4⟩ := ih _ h1
    exact ⟨h3, Nat.le_trans h4 h2⟩

/-- The roots, reached. -/
theorem mark_begin (T : List Bool) (X : List (List Int)) (roots : List Int) : MOk T X roots (reachR T (fun _ => false, []) roots) ∧ MEnd T X (reachR T (fun _ => false, []) roots) ∧ StkLe T.length (reachR T (fun _ => false, []) roots) ∧ ∀ r ∈ roots, isT T r = true → (reachR T (fun _ => false, []) roots).1 r.toNat = true := by
  refine ⟨⟨reachR_stkOk T roots _ (fun x hx => by cases hx), fun j hj => ?_⟩, ⟨fun j hj hn => ?_⟩, (reachR_le T roots _ (Nat.zero_le _)).1, fun r hr ht => reachR_set T roots _ r hr ht⟩
  · rcases reachR_new T roots _ j hj with h | ⟨_, h2, h3⟩
    · cases h
    · exact .root h2 h3
  · rcases reachR_new T roots _ j hj with h | ⟨h1, _, _⟩
    · cases h
    · exact absurd h1 hn
/-- One taken off the stack, and what it leads to reached. -/
theorem mark_round {T : List Bool} {X : List (List Int)} {roots : List Int} {f : Nat → Bool} {st : List Int} {v : Int} (ho : MOk T X roots (f, st ++ [v])) (he : MEnd T X (f, st ++ [v])) (hl : StkLe T.length (f, st ++ [v])) :
    MOk T X roots (reachR T (f, st) (X.getD v.toNat [])) ∧ MEnd T X (reachR T (f, st) (X.getD v.toNat [])) ∧ StkLe T.length (reachR T (f, st) (X.getD v.toNat [])) ∧ mu T.length (reachR T (f, st) (X.getD v.toNat [])) < mu T.length (f, st ++ [v]) ∧ (∀ j, f j = true → (reachR T (f, st) (X.getD v.toNat [])).1 j = true) := by
  have hv := ho.stk v (by simp)
  obtain ⟨n, rfl, hn⟩ := isT_ofNat hv.1
  simp only [Int.toNat_natCast] at hv ⊢
  have hl' : StkLe T.length (f, st) := by
    unfold StkLe at hl ⊢
    simp only [List.length_append, List.length_singleton] at hl ⊢
    omega
  have hle := reachR_le T (X.getD n []) (f, st) hl'
  refine ⟨⟨reachR_stkOk T _ _ (fun x hx => ho.stk x (List.mem_append_left _ hx)), fun j hj => ?_⟩, ⟨fun j hj hnot k hk ht => ?_⟩, hle.1, ?_, fun j hj => reachR_keep T _ _ j hj⟩
  · rcases reachR_new T _ _ j hj with h | ⟨_, h2, h3⟩
    · exact ho.sound j h
    · exact .step (ho.sound n hv.2) (by rw [Int.toNat_natCast]; exact h2) h3
  · rcases reachR_new T _ _ j hj with h | ⟨h1, _, _⟩
    · by_cases ej : j = n
      · subst ej
        exact reachR_set T _ _ k hk ht
      · refine reachR_keep T _ _ _ (he.done j h (fun hm => ?_) k hk ht)
        rcases List.mem_append.1 hm with hm | hm
        · exact hnot (reachR_stk T _ _ _ hm)
        · have := List.mem_singleton.1 hm
          omega
    · exact absurd h1 hnot
  · refine Nat.lt_of_le_of_lt hle.2 ?_
    unfold mu
    simp only [List.length_append, List.length_singleton]
    omega
/-- At an empty stack just what can be reached is set. -/
theorem mark_end {T : List Bool} {X : List (List Int)} {roots : List Int} {f : Nat → Bool} (ho : MOk T X roots (f, [])) (he : MEnd T X (f, [])) (hr : ∀ r ∈ roots, isT T r = true → f r.toNat = true) (j : Nat) : f j = true ↔ Reach T X roots (j : Int) := by
  refine ⟨ho.sound j, fun h => ?_⟩
  have key : ∀ i, Reach T X roots i → f i.toNat = true := by
    intro i hi
    induction hi with
    | root h1 h2 => exact hr _ h1 h2
    | step h1 h2 h3 ih => exact he.done _ ih (by simp) _ h2 h3
  have := key _ h
  rwa [Int.toNat_natCast] at this

open Classical in
/-- The marks, as a row of bools. -/
noncomputable def markB (T : List Bool) (X : List (List Int)) (roots : List Int) : List Bool := (List.range T.length).map (fun i : Nat => decide (Reach T X roots (i : Int)))
theorem markB_len (T : List Bool) (X : List (List Int)) (roots : List Int) : (markB T X roots).length = T.length := by simp [markB]
theorem markB_get (T : List Bool) (X : List (List Int)) (roots : List Int) (i : Nat) (hi : i < T.length) : (markB T X roots).getD i false = true ↔ Reach T X roots (i : Int) := by
  simp [markB, List.getD_eq_getElem?_getD, List.getElem?_map, List.getElem?_range hi]
/-- The marks, as numbers. -/
noncomputable def marks (T : List Bool) (X : List (List Int)) (roots : List Int) : List Int := takesTo (markB T X roots) T.length
theorem marks_of (T : List Bool) (X : List (List Int)) (roots : List Int) (S : List Bool) (h : ∀ i : Nat, i < T.length → (S.getD i false = true ↔ Reach T X roots (i : Int))) : takesTo S T.length = marks T X roots := by
  unfold marks
  have key : ∀ n, n ≤ T.length → takesTo S n = takesTo (markB T X roots) n := by
    intro n
    induction n with
    | zero => intro _; rfl
    | succ n ih =>
      intro hn
      have e : S.getD n false = (markB T X roots).getD n false := by
        have h1 := h n (by omega)
        have h2 := markB_get T X roots n (by omega)
        cases ha : S.getD n false <;> cases hb : (markB T X roots).getD n false <;> simp_all
      unfold takesTo
      rw [ih (by omega), e]
  exact key _ (Nat.le_refl _)
end Go.Proofs.Ytgchgkffoplogaa
