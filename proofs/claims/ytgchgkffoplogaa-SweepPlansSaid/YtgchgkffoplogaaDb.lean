/- Two tables and what each owns: a tag for each block. -/
import Derived.Test.YtgchgkffoplogaaSt
namespace Go.Proofs.Ytgchgkffoplogaa
open Go.RowKit Go.Proofs.YtgchgkffoplogaaW.PrintWords
set_option linter.unusedVariables false
set_option linter.unusedSimpArgs false

/-- The tags behind a world: what lay there keeps its tag, what is new has tag t. -/
def tagged (own : Nat → Nat) (n t : Nat) : Nat → Nat := fun k => if k < n then own k else t
theorem tagged_lt {own : Nat → Nat} {n t k : Nat} (h : k < n) : tagged own n t k = own k := if_pos h
theorem tagged_ge {own : Nat → Nat} {n t k : Nat} (h : n ≤ k) : tagged own n t k = t := if_neg (by omega)

theorem Tab.tag {W : World} {B t : Nat} {own own' : Nat → Nat} {L : List Int} {T : List Bool} (h : Tab W B (fun k => own k = t) L T) (hk : ∀ k, k < W.heap.size → own' k = own k) : Tab W B (fun k => own' k = t) L T :=
  h.mono (fun k e hlt => (hk k hlt).trans e)
/-- What a call that writes the blocks of tag t alone leaves of a table of another tag. -/
theorem Tab.other {W W' : World} {B t t' : Nat} {own own' : Nat → Nat} {L : List Int} {T : List Bool} (h : Tab W B (fun k => own k = t) L T) (hk : Kept (fun k => own k = t') W W') (ht : t ≠ t') (ho : ∀ k, k < W.heap.size → own' k = own k) : Tab W' B (fun k => own' k = t) L T :=
  ((h.tag ho).kept hk (fun k hlt e e' => ht ((ho k hlt ▸ e).symm.trans e')))
/-- A reference, its rows and values unnamed. -/
def Ref (W : World) (C : Nat) (ok okE : Nat → Prop) (T : List Bool) (X : List (List Int)) : Prop := ∃ vL vT M, RefAt W C ok okE vL vT M T X
theorem Ref.len {W : World} {C : Nat} {ok okE : Nat → Prop} {T : List Bool} {X : List (List Int)} (h : Ref W C ok okE T X) : T.length = X.length := by
  obtain ⟨vL, vT, M, h⟩ := h; rw [h.len, h.lenX]
theorem Ref.other {W W' : World} {C t tE t' : Nat} {own own' : Nat → Nat} {T : List Bool} {X : List (List Int)} (h : Ref W C (fun k => own k = t) (fun k => own k = tE ∧ k < W.heap.size) T X) (hk : Kept (fun k => own k = t') W W') (ht : t ≠ t') (htE : tE ≠ t') (ho : ∀ k, k < W.heap.size → own' k = own k) :
    Ref W' C (fun k => own' k = t) (fun k => own' k = tE ∧ k < W'.heap.size) T X := by
  obtain ⟨vL, vT, M, h⟩ := h
  refine ⟨vL, vT, M, ?_⟩
  have h1 := h.bound.move (w' := W') (fun k e _ => hk.block k e.2 (fun e' => ht (e.1.symm.trans e'))) (fun k e _ => hk.block k e.2 (fun e' => htE (e.1.symm.trans e')))
  exact h1.mono (fun k e => (ho k e.2).trans e.1) (fun k e => ⟨(ho k e.2).trans e.1, Nat.lt_of_lt_of_le e.2 hk.size⟩)

/-- A table and the document's, side by side. -/
structure Both (W : World) (own : Nat → Nat) (t1 t2 t3 B C : Nat) (X : List (List Int)) (T : List Bool) : Prop where
  tab : Tab W B (fun k => own k = t1) (X.map (rd · 0)) T
  ref : Ref W C (fun k => own k = t2) (fun k => own k = t3 ∧ k < W.heap.size) T X
/-- What a step on the pair leaves of all else. -/
structure Step (W W' : World) (own own' : Nat → Nat) (t1 t2 t3 : Nat) : Prop where
  os : W'.os = W.os
  tape : W'.tape = W.tape
  output : W'.output = W.output
  size : W.heap.size ≤ W'.heap.size
  old : ∀ k, k < W.heap.size → own' k = own k
  new_ : ∀ k, W.heap.size ≤ k → own' k = 0 ∨ own' k = t1 ∨ own' k = t2 ∨ own' k = t3
  block : ∀ k, k < W.heap.size → own k ≠ t1 → own k ≠ t2 → W'.heap[k]? = W.heap[k]?
theorem Step.trans {W W' W2 : World} {own own' own2 : Nat → Nat} {t1 t2 t3 : Nat} (h : Step W W' own own' t1 t2 t3) (k : Step W' W2 own' own2 t1 t2 t3) : Step W W2 own own2 t1 t2 t3 :=
  ⟨k.os.trans h.os, k.tape.trans h.tape, k.output.trans h.output, Nat.le_trans h.size k.size, fun i hi => (k.old i (by have := h.size; omega)).trans (h.old i hi),
    fun i hi => by
      by_cases hlt : i < W'.heap.size
      · rw [k.old i hlt]; exact h.new_ i hi
      · exact k.new_ i (by omega),
    fun i hi h1 h2 => (k.block i (by have := h.size; omega) (by rw [h.old i hi]; exact h1) (by rw [h.old i hi]; exact h2)).trans (h.block i hi h1 h2)⟩
end Go.Proofs.Ytgchgkffoplogaa
