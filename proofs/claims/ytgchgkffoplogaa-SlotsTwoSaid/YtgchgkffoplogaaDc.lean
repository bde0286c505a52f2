/- A table and the document's, side by side: what each call leaves of the pair. -/
import Derived.Test.YtgchgkffoplogaaDb
namespace Go.Proofs.Ytgchgkffoplogaa
open Go.RowKit Go.Proofs.YtgchgkffoplogaaW.PrintWords
set_option linter.unusedVariables false
set_option linter.unusedSimpArgs false

structure Pair (W : World) (own : Nat → Nat) (t1 t2 t3 B C : Nat) (L : List Int) (T : List Bool) (X : List (List Int)) (U : List Bool) : Prop where
  tab : Tab W B (fun k => own k = t1) L T
  ref : Ref W C (fun k => own k = t2) (fun k => own k = t3 ∧ k < W.heap.size) U X
structure Tags (t1 t2 t3 : Nat) : Prop where
  a : t1 ≠ t2
  b : t1 ≠ t3
  c : t2 ≠ t3
  p1 : t1 ≠ 0
  p2 : t2 ≠ 0
  p3 : t3 ≠ 0
namespace Pair
variable {W W' : World} {own : Nat → Nat} {t1 t2 t3 B C : Nat} {L L' : List Int} {T T' : List Bool} {X X' : List (List Int)} {U U' : List Bool}
theorem old (n t : Nat) : ∀ k, k < n → tagged own n t k = own k := fun k hk => tagged_lt hk
/-- The table was written. -/
theorem onTab (h : Pair W own t1 t2 t3 B C L T X U) (g : Tags t1 t2 t3) (ht : Tab W' B (fun k => own k = t1 ∨ W.heap.size ≤ k) L' T') (hk : Kept (fun k => own k = t1) W W') : Pair W' (tagged own W.heap.size t1) t1 t2 t3 B C L' T' X U :=
  ⟨ht.mono (fun k e _ => by
      by_cases hlt : k < W.heap.size
      · rw [tagged_lt hlt]; exact e.elim id (fun e => by omega)
      · exact tagged_ge (by omega)), h.ref.other hk (Ne.symm g.a) (Ne.symm g.b) (old _ _)⟩
/-- The reference was written. -/
theorem onRef (h : Pair W own t1 t2 t3 B C L T X U) (g : Tags t1 t2 t3) (hr : Ref W' C (fun k => own k = t2 ∨ W.heap.size ≤ k) (fun k => own k = t3 ∧ k < W.heap.size) U' X') (hk : Kept (fun k => own k = t2) W W') : Pair W' (tagged own W.heap.size t2) t1 t2 t3 B C L T X' U' := by
  refine ⟨h.tab.other hk g.a (old _ _), ?_⟩
  obtain ⟨vL, vT, M, hr⟩ := hr
  refine ⟨vL, vT, M, hr.mono (fun k e => ?_) (fun k e => ⟨(tagged_lt e.2).trans e.1, Nat.lt_of_lt_of_le e.2 hk.size⟩)⟩
  by_cases hlt : k < W.heap.size
  · rw [tagged_lt hlt]; exact e.elim id (fun e => by omega)
  · exact tagged_ge (by omega)
/-- New blocks came. -/
theorem onNew (h : Pair W own t1 t2 t3 B C L T X U) (t : Nat) (hb : Below W.heap.size W W') : Pair W' (tagged own W.heap.size t) t1 t2 t3 B C L T X U := by
  refine ⟨(h.tab.tag (own' := tagged own W.heap.size t) (old _ _)).below hb, ?_⟩
  obtain ⟨vL, vT, M, hr⟩ := h.ref
  refine ⟨vL, vT, M, ?_⟩
  have h1 := hr.bound.move (w' := W') (fun k e _ => hb.block k e.2) (fun k e _ => hb.block k e.2)
  exact h1.mono (fun k e => (tagged_lt e.2).trans e.1) (fun k e => ⟨(tagged_lt e.2).trans e.1, Nat.lt_of_lt_of_le e.2 hb.size⟩)

theorem add (h : Pair W own t1 t2 t3 B C L T X U) (g : Tags t1 t2 t3) (hl : L.length ≤ 100000) (x : Int) :
    Calls Try.prog 14 #[.pointer (some ⟨B, 0, none⟩), .int .i64 x] W fun e W' => e = .returned (.int .i64 (lowest T)) ∧ Pair W' (tagged own W.heap.size t1) t1 t2 t3 B C (addL L T x) (addT T) X U ∧ Kept (fun k => own k = t1) W W' := by
  refine (add_any h.tab hl x).mono ?_
  rintro e W' ⟨rfl, ht, hk⟩
  exact ⟨rfl, h.onTab g ht hk, hk⟩
theorem free (h : Pair W own t1 t2 t3 B C L T X U) (g : Tags t1 t2 t3) (hl : L.length ≤ 100000) (i : Int) :
    Calls Try.prog 17 #[.pointer (some ⟨B, 0, none⟩), .int .i64 i] W fun e W' => e = .returned (.bool (isT T i)) ∧ Pair W' (tagged own W.heap.size t1) t1 t2 t3 B C (if isT T i then L.set i.toNat 0 else L) (if isT T i then T.set i.toNat false else T) X U ∧ Kept (fun k => own k = t1) W W' := by
  refine (free_any h.tab hl i).mono ?_
  rintro e W' ⟨rfl, ht, hk⟩
  exact ⟨rfl, h.onTab g ht hk, hk⟩
theorem set_ (h : Pair W own t1 t2 t3 B C L T X U) (g : Tags t1 t2 t3) (hl : L.length ≤ 100000) (i x : Int) :
    Calls Try.prog 23 #[.pointer (some ⟨B, 0, none⟩), .int .i64 i, .int .i64 x] W fun e W' => e = .returned (.bool (isT T i)) ∧ Pair W' (tagged own W.heap.size t1) t1 t2 t3 B C (if isT T i then L.set i.toNat x else L) T X U ∧ Kept (fun k => own k = t1) W W' := by
  obtain ⟨vl, vt, vf, F, ht⟩ := h.tab
  refine (set_any ht (by omega) i x).mono ?_
  rintro e W' ⟨rfl, ht, hk⟩
  exact ⟨rfl, h.onTab g ⟨vl, vt, vf, F, ht.mono (fun k e => .inl e)⟩ hk, hk⟩
theorem get_ (h : Pair W own t1 t2 t3 B C L T X U) (hl : L.length ≤ 100000) (i : Int) :
    Calls Try.prog 22 #[.pointer (some ⟨B, 0, none⟩), .int .i64 i] W fun e W' => e = .returned (.tuple #[.int .i64 (if isT T i then rdOf 0 L i else 0), .bool (isT T i)]) ∧ Below W.heap.size W W' := by
  obtain ⟨vl, vt, vf, F, ht⟩ := h.tab
  exact get_any ht (by omega) i

theorem dis (g : Tags t1 t2 t3) : ∀ k, own k = t2 → ¬ (own k = t3 ∧ k < W.heap.size) := fun k e e' => g.c (e.symm.trans e'.1)
theorem radd (h : Pair W own t1 t2 t3 B C L T X U) (g : Tags t1 t2 t3) (hl : X.length ≤ 100000) (m : Value) (xs : List Int) (hm : Elem W (fun k => own k = t3 ∧ k < W.heap.size) m xs) :
    Calls Try.prog 42 #[.pointer (some ⟨C, 0, none⟩), m] W fun e W' => e = .returned (.int .i64 (lowest U)) ∧ Pair W' (tagged own W.heap.size t2) t1 t2 t3 B C L T (addX X U xs) (addT U) ∧ Kept (fun k => own k = t2) W W' := by
  obtain ⟨vL, vT, M, hr⟩ := h.ref
  refine (refAdd_any hr (fun _ e => e) (dis g) (by rw [← hr.lenX]; exact hl) m xs hm).mono ?_
  rintro e W' ⟨rfl, ⟨vL', vT', hr'⟩, hk⟩
  exact ⟨rfl, h.onRef g ⟨_, _, _, hr'⟩ hk, hk⟩
theorem rfree (h : Pair W own t1 t2 t3 B C L T X U) (g : Tags t1 t2 t3) (hl : X.length ≤ 100000) (i : Int) :
    Calls Try.prog 46 #[.pointer (some ⟨C, 0, none⟩), .int .i64 i] W fun e W' => e = .returned (.bool (isT U i)) ∧ Pair W' (tagged own W.heap.size t2) t1 t2 t3 B C L T (if isT U i then X.set i.toNat [] else X) (if isT U i then U.set i.toNat false else U) ∧ Kept (fun k => own k = t2) W W' := by
  obtain ⟨vL, vT, M, hr⟩ := h.ref
  refine (refFree_any hr (dis g) (by rw [← hr.lenX]; exact hl) i).mono ?_
  rintro e W' ⟨rfl, hr', hk⟩
  exact ⟨rfl, h.onRef g ⟨_, _, _, hr'.mono (fun k e => .inl e) (fun _ e => e)⟩ hk, hk⟩
theorem rset (h : Pair W own t1 t2 t3 B C L T X U) (g : Tags t1 t2 t3) (hl : X.length ≤ 100000) (i : Int) (m : Value) (xs : List Int) (hm : Elem W (fun k => own k = t3 ∧ k < W.heap.size) m xs) :
    Calls Try.prog 45 #[.pointer (some ⟨C, 0, none⟩), .int .i64 i, m] W fun e W' => e = .returned (.bool (isT U i)) ∧ Pair W' (tagged own W.heap.size t2) t1 t2 t3 B C L T (if isT U i then X.set i.toNat xs else X) U ∧ Kept (fun k => own k = t2) W W' := by
  obtain ⟨vL, vT, M, hr⟩ := h.ref
  refine (refSet_any hr (fun _ e => e) (dis g) (by rw [← hr.lenX]; exact hl) i m xs hm).mono ?_
  rintro e W' ⟨rfl, hr', hk⟩
  exact ⟨rfl, h.onRef g ⟨_, _, _, hr'.mono (fun k e => .inl e) (fun _ e => e)⟩ hk, hk⟩
theorem rget (h : Pair W own t1 t2 t3 B C L T X U) (hl : X.length ≤ 100000) (i : Int) :
    Calls Try.prog 43 #[.pointer (some ⟨C, 0, none⟩), .int .i64 i] W fun e W' => ∃ m, e = .returned (.tuple #[m, .bool (isT U i)]) ∧ Elem W (fun k => own k = t3 ∧ k < W.heap.size) m (if isT U i then rdOf [] X i else []) ∧ W = W' := by
  obtain ⟨vL, vT, M, hr⟩ := h.ref
  exact refGet_any hr (by rw [← hr.lenX]; exact hl) i
end Pair
end Go.Proofs.Ytgchgkffoplogaa
