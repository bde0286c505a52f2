/- Plain: marking in passes, till nothing new is reached. -/
import Derived.Test.YtgchgkffoplogaaBd
namespace Go.Proofs.Ytgchgkffoplogaa
open Go.RowKit Go.Proofs.YtgchgkffoplogaaW.PrintWords
set_option linter.unusedVariables false
set_option linter.unusedSimpArgs false

/-- A row of bools as a set. -/
abbrev fR (R : List Bool) : Nat → Bool := fun j => R.getD j false
theorem getD_set (R : List Bool) (n j : Nat) (b : Bool) (hn : n < R.length) : (R.set n b).getD j false = if n = j then b else R.getD j false := by
  rw [List.getD_eq_getElem?_getD, List.getD_eq_getElem?_getD, List.getElem?_set]
  split
  · simp [hn]
  · rfl
theorem fR_set (R : List Bool) (n : Nat) (hn : n < R.length) : fR (R.set n true) = fun j => fR R j || decide (n = j) := by
  funext j
  unfold fR
  rw [getD_set R n j true hn]
  by_cases e : n = j <;> simp [e]
theorem rd_mem (l : List Int) (k : Nat) (hk : k < l.length) : rd l (k : Int) ∈ l := by
  unfold rd
  rw [List.getD_eq_getElem?_getD, Int.toNat_natCast, List.getElem?_eq_getElem hk]
  exact List.getElem_mem hk
theorem fR_set_keep (R : List Bool) (n j : Nat) (hn : n < R.length) (h : fR R j = true) : fR (R.set n true) j = true := by
  rw [fR_set R n hn]
  show (fR R j || decide (n = j)) = true
  rw [h]; rfl
theorem fR_set_same (R : List Bool) (n : Nat) (hn : n < R.length) : fR (R.set n true) n = true := by
  rw [fR_set R n hn]; simp

/-- Up to slot i, and there up to place k, what is set leads to what is set. -/
def ClosedTo (T : List Bool) (X : List (List Int)) (R : List Bool) (i k : Nat) : Prop :=
  ∀ i' q : Nat, (i' < i ∨ (i' = i ∧ q < k)) → fR R i' = true → q < (X.getD i' []).length → isT T (rd (X.getD i' []) (q : Int)) = true → fR R (rd (X.getD i' []) (q : Int)).toNat = true
/-- What holds of the row between the passes. -/
structure RefInv (T : List Bool) (X : List (List Int)) (rl : List Int) (R : List Bool) : Prop where
  len : R.length = T.length
  sound : ∀ j : Nat, fR R j = true → Reach T X rl (j : Int)
  roots : ∀ r ∈ rl, isT T r = true → fR R r.toNat = true
/-- What holds in a pass that began at R0. -/
structure PassAt (T : List Bool) (X : List (List Int)) (rl : List Int) (R0 R : List Bool) (more : Bool) (i k : Nat) : Prop where
  inv : RefInv T X rl R
  yes : more = true → cF (fR R0) T.length < cF (fR R) T.length
  no : more = false → R = R0 ∧ ClosedTo T X R i k
theorem pass_begin {T : List Bool} {X : List (List Int)} {rl : List Int} {R : List Bool} (h : RefInv T X rl R) : PassAt T X rl R R false 0 0 :=
  ⟨h, fun e => (Bool.false_ne_true e).elim, fun _ => ⟨rfl, fun i' q hq => by omega⟩⟩
theorem pass_skip {T : List Bool} {X : List (List Int)} {rl : List Int} {R0 R : List Bool} {more : Bool} {i : Nat} (h : PassAt T X rl R0 R more i 0) (hi : fR R i = false) : PassAt T X rl R0 R more (i + 1) 0 :=
  ⟨h.inv, h.yes, fun e => ⟨(h.no e).1, fun i' q hq h1 h2 h3 => by
    rcases Nat.lt_or_ge i' i with hlt | hge
    · exact (h.no e).2 i' q (.inl hlt) h1 h2 h3
    · obtain rfl : i' = i := by omega
      rw [hi] at h1; cases h1⟩⟩
theorem pass_next {T : List Bool} {X : List (List Int)} {rl : List Int} {R0 R : List Bool} {more : Bool} {i k : Nat} (h : PassAt T X rl R0 R more i k) (hk : k = (X.getD i []).length) : PassAt T X rl R0 R more (i + 1) 0 :=
  ⟨h.inv, h.yes, fun e => ⟨(h.no e).1, fun i' q hq h1 h2 h3 => by
    rcases Nat.lt_or_ge i' i with hlt | hge
    · exact (h.no e).2 i' q (.inl hlt) h1 h2 h3
    · obtain rfl : i' = i := by omega
      exact (h.no e).2 i' q (.inr ⟨rfl, by omega⟩) h1 h2 h3⟩⟩
/-- A number that is none, or is set. -/
theorem pass_old {T : List Bool} {X : List (List Int)} {rl : List Int} {R0 R : List Bool} {more : Bool} {i k : Nat} (h : PassAt T X rl R0 R more i k) (hj : isT T (rd (X.getD i []) (k : Int)) = true → fR R (rd (X.getD i []) (k : Int)).toNat = true) : PassAt T X rl R0 R more i (k + 1) :=
  ⟨h.inv, h.yes, fun e => ⟨(h.no e).1, fun i' q hq h1 h2 h3 => by
    by_cases hqk : i' = i ∧ q = k
    · obtain ⟨rfl, rfl⟩ := hqk
      exact hj h3
    · exact (h.no e).2 i' q (by omega) h1 h2 h3⟩⟩
theorem cF_ext {f g : Nat → Bool} (h : ∀ j, f j = g j) (H : Nat) : cF f H = cF g H := by rw [funext h]
/-- A new number. -/
theorem pass_set {T : List Bool} {X : List (List Int)} {rl : List Int} {R0 R : List Bool} {more : Bool} {i k n : Nat} (h : PassAt T X rl R0 R more i k) (hi : fR R i = true) (hk : k < (X.getD i []).length) (hj : rd (X.getD i []) (k : Int) = (n : Int)) (ht : isT T (n : Int) = true) (hn : fR R n = false) (hnl : n < T.length) :
    PassAt T X rl R0 (R.set n true) true i (k + 1) := by
  have hl : n < R.length := by rw [h.inv.len]; exact hnl
  have hc : cF (fR (R.set n true)) T.length = cF (fR R) T.length + 1 := by rw [fR_set R n hl]; exact cF_set (fR R) n hn T.length hnl
  have h0 : cF (fR R0) T.length ≤ cF (fR R) T.length := by
    cases e : more
    · rw [(h.no e).1]; exact Nat.le_refl _
    · exact Nat.le_of_lt (h.yes e)
  refine ⟨⟨by simp [h.inv.len], fun j hj' => ?_, fun r hr ht' => fR_set_keep R n _ hl (h.inv.roots r hr ht')⟩, fun _ => by omega, fun e => (Bool.noConfusion e)⟩
  rw [fR_set R n hl] at hj'
  simp only [Bool.or_eq_true, decide_eq_true_eq] at hj'
  rcases hj' with hj' | rfl
  · exact h.inv.sound j hj'
  · have hmem : (n : Int) ∈ X.getD i [] := by
      rw [← hj]
      exact rd_mem _ k hk
    exact .step (h.inv.sound i hi) (by rw [Int.toNat_natCast]; exact hmem) ht
/-- A root. -/
theorem root_set {T : List Bool} {X : List (List Int)} {rl : List Int} {R : List Bool} {n : Nat} (hlen : R.length = T.length) (hs : ∀ j : Nat, fR R j = true → Reach T X rl (j : Int)) (hr : (n : Int) ∈ rl) (ht : isT T (n : Int) = true) (hnl : n < T.length) : ∀ j : Nat, fR (R.set n true) j = true → Reach T X rl (j : Int) := by
  intro j hj
  rw [fR_set R n (by rw [hlen]; exact hnl)] at hj
  simp only [Bool.or_eq_true, decide_eq_true_eq] at hj
  rcases hj with hj | rfl
  · exact hs j hj
  · exact .root hr ht
/-- At the end. -/
theorem ref_end {T : List Bool} {X : List (List Int)} {rl : List Int} {R : List Bool} (h : RefInv T X rl R) (hX : X.length = T.length) (hc : ClosedTo T X R T.length 0) : takesTo R T.length = marks T X rl := by
  refine marks_of T X rl R (fun i hi => ⟨h.sound i, fun hr => ?_⟩)
  have key : ∀ x, Reach T X rl x → fR R x.toNat = true := by
    intro x hx
    induction hx with
    | root h1 h2 => exact h.roots _ h1 h2
    | @step a b h1 h2 h3 ih =>
      obtain ⟨n, rfl, hn⟩ := isT_ofNat h1.taken
      rw [Int.toNat_natCast] at h2 ih
      obtain ⟨q, hq, e⟩ := List.getElem_of_mem h2
      have e2 : rd (X.getD n []) (q : Int) = b := by
        unfold rd
        rw [List.getD_eq_getElem?_getD, Int.toNat_natCast, List.getElem?_eq_getElem hq, e]; rfl
      have := hc n q (.inl hn) ih hq (by rw [e2]; exact h3)
      rwa [e2] at this
  have := key _ hr
  rwa [Int.toNat_natCast] at this
end Go.Proofs.Ytgchgkffoplogaa
