/- A table of slices and the document's, side by side, by tags: what each call leaves of them. -/
import Derived.Test.YtgchgkffoplogaaGa
import Derived.Test.YtgchgkffoplogaaDb
namespace Go.Proofs.Ytgchgkffoplogaa
open Go.RowKit Go.Proofs.YtgchgkffoplogaaW.PrintWords
set_option linter.unusedVariables false
set_option linter.unusedSimpArgs false

/-- The table (tag 1), its elements (tag 3), the document's slots (tag 2), whose elements came in. -/
structure Laid (w W : World) (own : Nat → Nat) (B C : Nat) (L : List V.El) (T : List Bool) (X : List (List Int)) (U : List Bool) (Y : List (List Int)) : Prop where
  tab : V.Tab W B (fun k => own k = 1) L T
  el : ∀ i : Nat, ∀ m xs, L[i]? = some m → X[i]? = some xs → Elem W (fun k => own k = 3 ∧ k < W.heap.size) (V.encE m) xs
  lenX : X.length = L.length
  ref : Ref W C (fun k => own k = 2) (fun k => k < w.heap.size) U Y
  z : ∀ k, k < w.heap.size → own k = 0
  bel : Below w.heap.size w W
namespace Laid
variable {w W W' : World} {own : Nat → Nat} {B C : Nat} {L L' : List V.El} {T T' : List Bool} {X X' : List (List Int)} {U U' : List Bool} {Y Y' : List (List Int)}
theorem elMove (h : Laid w W own B C L T X U Y) (t : Nat) (hk : Kept (fun k => own k = 1) W W' ∨ Kept (fun k => own k = 2) W W' ∨ Below W.heap.size W W') (hs : W.heap.size ≤ W'.heap.size) (i : Nat) (m : V.El) (xs : List Int) (e1 : L[i]? = some m) (e2 : X[i]? = some xs) :
    Elem W' (fun k => tagged own W.heap.size t k = 3 ∧ k < W'.heap.size) (V.encE m) xs := by
  refine (h.el i m xs e1 e2).move (fun k e hlt => ?_) (fun k e => ⟨(tagged_lt e.2).trans e.1, Nat.lt_of_lt_of_le e.2 hs⟩)
  rcases hk with hk | hk | hk
  · exact hk.block k hlt (fun e' => by rw [e.1] at e'; omega)
  · exact hk.block k hlt (fun e' => by rw [e.1] at e'; omega)
  · exact hk.block k hlt
theorem refMove (h : Laid w W own B C L T X U Y) (t : Nat) (hk : Kept (fun k => own k = 1) W W' ∨ Below W.heap.size W W') : Ref W' C (fun k => tagged own W.heap.size t k = 2) (fun k => k < w.heap.size) U Y := by
  obtain ⟨vL, vT, M, hr⟩ := h.ref
  have hws := h.bel.size
  refine ⟨vL, vT, M, (hr.bound.move (w' := W') (fun k e _ => ?_) (fun k e hlt => ?_)).mono (fun k e => (tagged_lt e.2).trans e.1) (fun _ e => e)⟩
  · rcases hk with hk | hk
    · exact hk.block k e.2 (fun e' => by rw [e.1] at e'; omega)
    · exact hk.block k e.2
  · rcases hk with hk | hk
    · exact hk.block k hlt (fun e' => by rw [h.z k e] at e'; omega)
    · exact hk.block k hlt
theorem zMove (h : Laid w W own B C L T X U Y) (t : Nat) : ∀ k, k < w.heap.size → tagged own W.heap.size t k = 0 := fun k hk => by
  rw [tagged_lt (by have := h.bel.size; omega)]; exact h.z k hk
/-- New blocks came. -/
theorem below (h : Laid w W own B C L T X U Y) (t : Nat) (hb : Below W.heap.size W W') : Laid w W' (tagged own W.heap.size t) B C L T X U Y :=
  ⟨(h.tab.mono (fun k e hlt => (tagged_lt hlt).trans e)).below hb, h.elMove t (.inr (.inr hb)) hb.size, h.lenX, h.refMove t (.inr hb), h.zMove t, below_then h.bel h.bel.size hb⟩
/-- The table was written. -/
theorem onTab (h : Laid w W own B C L T X U Y) (ht : V.Tab W' B (fun k => own k = 1 ∨ W.heap.size ≤ k) L' T') (hk : Kept (fun k => own k = 1) W W')
    (hel : ∀ i : Nat, ∀ m xs, L'[i]? = some m → X'[i]? = some xs → Elem W' (fun k => tagged own W.heap.size 1 k = 3 ∧ k < W'.heap.size) (V.encE m) xs) (hl : X'.length = L'.length) : Laid w W' (tagged own W.heap.size 1) B C L' T' X' U Y := by
  refine ⟨ht.mono (fun k e _ => ?_), hel, hl, h.refMove 1 (.inl hk), h.zMove 1, h.bel.trans (hk.below h.bel.size (fun k e _ => ?_))⟩
  · by_cases hlt : k < W.heap.size
    · rw [tagged_lt hlt]; exact e.elim id (fun e => by omega)
    · exact tagged_ge (by omega)
  · by_cases hlt : k < w.heap.size
    · rw [h.z k hlt] at e; omega
    · omega
/-- The document's slots were written. -/
theorem onRef (h : Laid w W own B C L T X U Y) (hr : Ref W' C (fun k => own k = 2 ∨ W.heap.size ≤ k) (fun k => k < w.heap.size) U' Y') (hk : Kept (fun k => own k = 2) W W') : Laid w W' (tagged own W.heap.size 2) B C L T X U' Y' := by
  refine ⟨(h.tab.mono (ok' := fun k => tagged own W.heap.size 2 k = 1) (fun k e hlt => (tagged_lt hlt).trans e)).kept hk (fun k hlt e e' => ?_), h.elMove 2 (.inr (.inl hk)) hk.size, h.lenX, ?_, h.zMove 2, h.bel.trans (hk.below h.bel.size (fun k e _ => ?_))⟩
  · rw [tagged_lt hlt] at e; rw [e] at e'; omega
  · obtain ⟨vL, vT, M, hr⟩ := hr
    refine ⟨vL, vT, M, hr.mono (fun k e => ?_) (fun _ e => e)⟩
    by_cases hlt : k < W.heap.size
    · rw [tagged_lt hlt]; exact e.elim id (fun e => by omega)
    · exact tagged_ge (by omega)
  · by_cases hlt : k < w.heap.size
    · rw [h.z k hlt] at e; omega
    · omega
/-- Add to the table. -/
theorem sadd (h : Laid w W own B C L T X U Y) (hl : L.length ≤ 100000) (m : V.El) (xs : List Int) (hm : Elem W (fun k => own k = 3 ∧ k < W.heap.size) (V.encE m) xs) :
    Calls Try.prog 50 #[.pointer (some ⟨B, 0, none⟩), V.encE m] W fun e W' => e = .returned (.int .i64 (lowest T)) ∧ Laid w W' (tagged own W.heap.size 1) B C (V.addL L T m) (addT T) (addX X T xs) U Y := by
  refine (V.add_any h.tab hl m).mono ?_
  rintro e W' ⟨rfl, ht, hk⟩
  have hmove := h.elMove (W' := W') 1 (.inl hk) hk.size
  have hm' : Elem W' (fun k => tagged own W.heap.size 1 k = 3 ∧ k < W'.heap.size) (V.encE m) xs :=
    hm.move (fun k e hlt => hk.block k hlt (fun e' => by rw [e.1] at e'; omega)) (fun k e => ⟨(tagged_lt e.2).trans e.1, Nat.lt_of_lt_of_le e.2 hk.size⟩)
  refine ⟨rfl, h.onTab ht hk (fun i mi xi e1 e2 => ?_) ?_⟩
  · unfold V.addL at e1
    unfold addX at e2
    split at e1
    · rename_i hf
      rw [if_pos hf] at e2
      rcases Nat.lt_or_ge i L.length with hlt | hge
      · rw [List.getElem?_append_left hlt] at e1
        rw [List.getElem?_append_left (by rw [h.lenX]; exact hlt)] at e2
        exact hmove i mi xi e1 e2
      · rw [List.getElem?_append_right hge] at e1
        rw [List.getElem?_append_right (by rw [h.lenX]; exact hge), h.lenX] at e2
        cases hz : i - L.length with
        | zero =>
          rw [hz] at e1 e2
          simp only [List.getElem?_cons_zero, Option.some.injEq] at e1 e2
          subst e1; subst e2
          exact hm'
        | succ q => rw [hz] at e1; simp at e1
    · rename_i hf
      rw [if_neg hf] at e2
      rw [List.getElem?_set] at e1 e2
      by_cases hi : lowest T = i
      · rw [if_pos hi] at e1 e2
        split at e1
        · split at e2
          · injection e1 with e1; injection e2 with e2
            subst e1; subst e2
            exact hm'
          · cases e2
        · cases e1
      · rw [if_neg hi] at e1 e2
        exact hmove i mi xi e1 e2
  · unfold V.addL addX
    split <;> simp [h.lenX]
/-- Free in the table. -/
theorem sfreeK (h : Laid w W own B C L T X U Y) (hl : L.length ≤ 100000) (i : Int) :
    Calls Try.prog 51 #[.pointer (some ⟨B, 0, none⟩), .int .i64 i] W fun e W' => e = .returned (.bool (isT T i)) ∧ Laid w W' (tagged own W.heap.size 1) B C (if isT T i then L.set i.toNat V.zE else L) (if isT T i then T.set i.toNat false else T) (if isT T i then X.set i.toNat [] else X) U Y ∧ Kept (fun k => own k = 1) W W' := by
  refine (V.free_any h.tab hl i).mono ?_
  rintro e W' ⟨rfl, ht, hk⟩
  have hmove := h.elMove (W' := W') 1 (.inl hk) hk.size
  refine ⟨rfl, h.onTab ht hk (fun j mj xj e1 e2 => ?_) ?_, hk⟩
  · split at e1
    · rename_i hf
      rw [if_pos hf] at e2
      rw [List.getElem?_set] at e1 e2
      by_cases hi : i.toNat = j
      · rw [if_pos hi] at e1 e2
        split at e1
        · split at e2
          · injection e1 with e1; injection e2 with e2
            subst e1; subst e2
            exact Elem.nil _ _
          · cases e2
        · cases e1
      · rw [if_neg hi] at e1 e2
        exact hmove j mj xj e1 e2
    · rename_i hf
      rw [if_neg hf] at e2
      exact hmove j mj xj e1 e2
  · split <;> simp [h.lenX]
theorem sfree (h : Laid w W own B C L T X U Y) (hl : L.length ≤ 100000) (i : Int) :
    Calls Try.prog 51 #[.pointer (some ⟨B, 0, none⟩), .int .i64 i] W fun e W' => e = .returned (.bool (isT T i)) ∧ Laid w W' (tagged own W.heap.size 1) B C (if isT T i then L.set i.toNat V.zE else L) (if isT T i then T.set i.toNat false else T) (if isT T i then X.set i.toNat [] else X) U Y :=
  (h.sfreeK hl i).mono fun e W' hp => ⟨hp.1, hp.2.1⟩
/-- Blocks of the tag 4 were written. -/
theorem aside (h : Laid w W own B C L T X U Y) (hk : Kept (fun k => own k = 4) W W') : Laid w W' (tagged own W.heap.size 4) B C L T X U Y := by
  have hws := h.bel.size
  refine ⟨(h.tab.mono (ok' := fun k => tagged own W.heap.size 4 k = 1) (fun k e hlt => (tagged_lt hlt).trans e)).kept hk (fun k hlt e e' => ?_), fun i m xs e1 e2 => ?_, h.lenX, ?_, h.zMove 4, h.bel.trans (hk.below hws (fun k e _ => ?_))⟩
  · rw [tagged_lt hlt] at e; rw [e] at e'; omega
  · exact (h.el i m xs e1 e2).move (fun k e hlt => hk.block k hlt (fun e' => by rw [e.1] at e'; omega)) (fun k e => ⟨(tagged_lt e.2).trans e.1, Nat.lt_of_lt_of_le e.2 hk.size⟩)
  · obtain ⟨vL, vT, M, hr⟩ := h.ref
    refine ⟨vL, vT, M, (hr.bound.move (w' := W') (fun k e _ => ?_) (fun k e hlt => ?_)).mono (fun k e => (tagged_lt e.2).trans e.1) (fun _ e => e)⟩
    · exact hk.block k e.2 (fun e' => by rw [e.1] at e'; omega)
    · exact hk.block k hlt (fun e' => by rw [h.z k e] at e'; omega)
  · by_cases hlt : k < w.heap.size
    · rw [h.z k hlt] at e; omega
    · omega
theorem dis (h : Laid w W own B C L T X U Y) : ∀ k, own k = 2 → ¬ k < w.heap.size := fun k e hk => by rw [h.z k hk] at e; omega
/-- Add to the document's slots. -/
theorem radd (h : Laid w W own B C L T X U Y) (hl : Y.length ≤ 100000) (m : Value) (xs : List Int) (hm : Elem W (fun k => k < w.heap.size) m xs) :
    Calls Try.prog 42 #[.pointer (some ⟨C, 0, none⟩), m] W fun e W' => e = .returned (.int .i64 (lowest U)) ∧ Laid w W' (tagged own W.heap.size 2) B C L T X (addT U) (addX Y U xs) := by
  obtain ⟨vL, vT, M, hr⟩ := h.ref
  refine (refAdd_any hr (fun _ e => e) h.dis (by rw [← hr.lenX]; exact hl) m xs hm).mono ?_
  rintro e W' ⟨rfl, ⟨vL', vT', hr'⟩, hk⟩
  exact ⟨rfl, h.onRef ⟨_, _, _, hr'⟩ hk⟩
/-- Free in the document's slots. -/
theorem rfreeK (h : Laid w W own B C L T X U Y) (hl : Y.length ≤ 100000) (i : Int) :
    Calls Try.prog 46 #[.pointer (some ⟨C, 0, none⟩), .int .i64 i] W fun e W' => e = .returned (.bool (isT U i)) ∧ Laid w W' (tagged own W.heap.size 2) B C L T X (if isT U i then U.set i.toNat false else U) (if isT U i then Y.set i.toNat [] else Y) ∧ Kept (fun k => own k = 2) W W' := by
  obtain ⟨vL, vT, M, hr⟩ := h.ref
  refine (refFree_any hr h.dis (by rw [← hr.lenX]; exact hl) i).mono ?_
  rintro e W' ⟨rfl, hr', hk⟩
  exact ⟨rfl, h.onRef ⟨_, _, _, hr'.mono (fun k e => .inl e) (fun _ e => e)⟩ hk, hk⟩
theorem rfree (h : Laid w W own B C L T X U Y) (hl : Y.length ≤ 100000) (i : Int) :
    Calls Try.prog 46 #[.pointer (some ⟨C, 0, none⟩), .int .i64 i] W fun e W' => e = .returned (.bool (isT U i)) ∧ Laid w W' (tagged own W.heap.size 2) B C L T X (if isT U i then U.set i.toNat false else U) (if isT U i then Y.set i.toNat [] else Y) :=
  (h.rfreeK hl i).mono fun e W' hp => ⟨hp.1, hp.2.1⟩
end Laid

/-- A row of the call's own, as an element. -/
theorem elem_own {W : World} {base : Nat} {v : Value} {xs : List Int} {okE : Nat → Prop} (h : W.ownsRow base 3 1 v xs.length (nums .i64 xs)) (ho : ∀ k, base ≤ k → k < W.heap.size → okE k) : ∃ m : V.El, v = V.encE m ∧ Elem W okE (V.encE m) xs := by
  obtain ⟨A, c, rfl, hr⟩ := own_reads h
  refine ⟨(A, xs.length, c), rfl, A, c, rfl, own_le h, hr, fun hp ad e => ?_⟩
  obtain ⟨g, cap, hv, h1, h2⟩ := h.form hp
  injection hv with hv _ _
  rw [e] at hv
  injection hv with hv
  subst hv
  exact ho g h1 h2

theorem addT_full (n : Nat) : addT (List.replicate n true) = List.replicate (n + 1) true := by
  have : lowest (List.replicate n true) = (List.replicate n true).length := lowest_is _ _ (fun i hi => by simp at hi; simp [List.getElem?_replicate, hi]) (.inl rfl)
  unfold addT
  rw [if_pos this, List.replicate_succ']
theorem lowest_full_rep (n : Nat) : lowest (List.replicate n true) = n := by
  have : lowest (List.replicate n true) = (List.replicate n true).length := lowest_is _ _ (fun i hi => by simp at hi; simp [List.getElem?_replicate, hi]) (.inl rfl)
  rw [this]; simp
theorem addX_full {α : Type} (X : List α) (n : Nat) (x : α) : addX X (List.replicate n true) x = X ++ [x] := by
  unfold addX
  rw [if_pos (by rw [lowest_full_rep]; simp)]
theorem addL_full (X : List V.El) (n : Nat) (x : V.El) : V.addL X (List.replicate n true) x = X ++ [x] := by
  unfold V.addL
  rw [if_pos (by rw [lowest_full_rep]; simp)]
/-- The slots behind a row of Frees. -/
def freeTX (p : List Bool × List (List Int)) (i : Int) : List Bool × List (List Int) := if isT p.1 i then (p.1.set i.toNat false, p.2.set i.toNat []) else p
def laidTX (X : List (List Int)) (fr : List Int) : List Bool × List (List Int) := (fr.take 200).foldl freeTX (List.replicate X.length true, X)
end Go.Proofs.Ytgchgkffoplogaa
