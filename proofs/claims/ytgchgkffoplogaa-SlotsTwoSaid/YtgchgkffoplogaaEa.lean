/- Two pairs of tables, an iterator and a copy beside them: what a step on one leaves of the others. -/
import Derived.Test.YtgchgkffoplogaaDj
namespace Go.Proofs.Ytgchgkffoplogaa
open Go.RowKit Go.Proofs.YtgchgkffoplogaaW.PrintWords
set_option linter.unusedVariables false
set_option linter.unusedSimpArgs false

theorem tags456 : Tags 4 5 6 := ⟨by decide, by decide, by decide, by decide, by decide, by decide⟩
theorem Step.kept {W W' : World} {own own' : Nat → Nat} {t1 t2 t3 : Nat} (h : Step W W' own own' t1 t2 t3) : Kept (fun k => own k = t1 ∨ own k = t2) W W' :=
  ⟨h.os, h.tape, h.output, h.size, fun k hk hn => h.block k hk (fun e => hn (.inl e)) (fun e => hn (.inr e))⟩
/-- A step on another pair leaves a reference. -/
theorem Ref.step {W W' : World} {own own' : Nat → Nat} {t1 t2 t3 s2 s3 C : Nat} {T : List Bool} {X : List (List Int)} (h : Ref W C (fun k => own k = s2) (fun k => own k = s3 ∧ k < W.heap.size) T X) (hs : Step W W' own own' t1 t2 t3) (d1 : s2 ≠ t1) (d2 : s2 ≠ t2) (d3 : s3 ≠ t1) (d4 : s3 ≠ t2) :
    Ref W' C (fun k => own' k = s2) (fun k => own' k = s3 ∧ k < W'.heap.size) T X := by
  obtain ⟨vL, vT, M, hr⟩ := h
  have h1 := hr.bound.move (w' := W') (fun k e _ => hs.block k e.2 (fun e' => d1 (e.1.symm.trans e')) (fun e' => d2 (e.1.symm.trans e'))) (fun k e _ => hs.block k e.2 (fun e' => d3 (e.1.symm.trans e')) (fun e' => d4 (e.1.symm.trans e')))
  exact ⟨vL, vT, M, h1.mono (fun k e => (hs.old k e.2).trans e.1) (fun k e => ⟨(hs.old k e.2).trans e.1, Nat.lt_of_lt_of_le e.2 hs.size⟩)⟩
theorem Pair.step {W W' : World} {own own' : Nat → Nat} {t1 t2 t3 s1 s2 s3 B C : Nat} {L : List Int} {T : List Bool} {X : List (List Int)} {U : List Bool} (h : Pair W own s1 s2 s3 B C L T X U) (hs : Step W W' own own' t1 t2 t3)
    (c1 : s1 ≠ t1) (c2 : s1 ≠ t2) (d1 : s2 ≠ t1) (d2 : s2 ≠ t2) (d3 : s3 ≠ t1) (d4 : s3 ≠ t2) : Pair W' own' s1 s2 s3 B C L T X U := by
  refine ⟨(h.tab.tag hs.old).kept hs.kept (fun k hlt e e' => ?_), h.ref.step hs d1 d2 d3 d4⟩
  rw [hs.old k hlt] at e
  rcases e' with e' | e'
  · exact c1 (e.symm.trans e')
  · exact c2 (e.symm.trans e')

structure Duo (w W : World) (own : Nat → Nat) (B C D E : Nat) (X : List (List Int)) (T : List Bool) (Y : List (List Int)) (U : List Bool) : Prop where
  p1 : Pair W own 1 2 3 B C (X.map (rd · 0)) T X T
  p2 : Pair W own 4 5 6 D E (Y.map (rd · 0)) U Y U
  z : ∀ k, k < w.heap.size → own k = 0
  b : Below w.heap.size w W
/-- An iterator, by tag 8; a copy of a reference, by tag 7. -/
structure ItTag (W : World) (own : Nat → Nat) (lb : Nat) (X : List (List Int)) (T : List Bool) : Prop where
  it : ∃ base v, IterAt base W (.func (.func 47) #[] #[.pointer (some ⟨lb, 0, none⟩)]) (pairsTo (X.map (rd · 0)) T T.length) lb v ∧ own lb = 8 ∧ ∀ k, v.ownBlock = some k → own k = 8
structure Was (W : World) (own : Nat → Nat) (lb F : Nat) (X : List (List Int)) (T : List Bool) : Prop where
  it : ItTag W own lb X T
  ref : Ref W F (fun k => own k = 7) (fun k => own k = 3 ∧ k < W.heap.size) T X

theorem row_move {α : Type} {R : α → List Value → Prop} {e : TypeId} {size : Nat} {w w1 : World} {base : Nat} {v : Value} {ps : List α} (h : OwnRow R e size w base v ps) (hm : ∀ k, v.ownBlock = some k → w1.heap[k]? = w.heap[k]?) : OwnRow R e size w1 base v ps := by
  obtain ⟨inner, ho, hr⟩ := h
  exact ⟨inner, own_move ho hm, hr⟩
theorem row_lt {α : Type} {R : α → List Value → Prop} {e : TypeId} {size : Nat} {w : World} {base : Nat} {v : Value} {ps : List α} (h : OwnRow R e size w base v ps) (k : Nat) (e : v.ownBlock = some k) : base ≤ k ∧ k < w.heap.size := by
  obtain ⟨inner, ho, hr⟩ := h
  exact ⟨own_base ho k e, own_lt ho k e⟩

theorem ItTag.step {W W' : World} {own own' : Nat → Nat} {t1 t2 t3 lb : Nat} {X : List (List Int)} {T : List Bool} (h : ItTag W own lb X T) (hs : Step W W' own own' t1 t2 t3) (d1 : 8 ≠ t1) (d2 : 8 ≠ t2) : ItTag W' own' lb X T := by
  obtain ⟨⟨base, v, hI, h1, h2⟩⟩ := h
  have hlt := blk_lt hI.blk
  refine ⟨⟨base, v, ⟨hI.fn, (hs.block lb hlt (fun e => d1 (h1.symm.trans e)) (fun e => d2 (h1.symm.trans e))).trans hI.blk, row_move hI.row (fun k e => hs.block k (row_lt hI.row k e).2 (fun e' => d1 ((h2 k e).symm.trans e')) (fun e' => d2 ((h2 k e).symm.trans e'))), hI.hi⟩, (hs.old lb hlt).trans h1, fun k e => (hs.old k (row_lt hI.row k e).2).trans (h2 k e)⟩⟩
theorem ItTag.below {W W' : World} {own : Nat → Nat} {lb : Nat} {X : List (List Int)} {T : List Bool} (h : ItTag W own lb X T) (t : Nat) (hb : Below W.heap.size W W') : ItTag W' (tagged own W.heap.size t) lb X T :=
  h.step (t1 := t + 9) (t2 := t + 9) (t3 := t) (Step.of_below hb (by simp)) (by omega) (by omega)
theorem Was.step {W W' : World} {own own' : Nat → Nat} {t1 t2 t3 lb F : Nat} {X : List (List Int)} {T : List Bool} (h : Was W own lb F X T) (hs : Step W W' own own' t1 t2 t3) (d1 : 8 ≠ t1) (d2 : 8 ≠ t2) (d3 : 7 ≠ t1) (d4 : 7 ≠ t2) (d5 : 3 ≠ t1) (d6 : 3 ≠ t2) : Was W' own' lb F X T :=
  ⟨h.it.step hs d1 d2, h.ref.step hs d3 d4 d5 d6⟩
/-- Steps on the first pair write the blocks of the tags 1, 2. -/
theorem Duo.does1 {w W : World} {own : Nat → Nat} {B C D E : Nat} {X : List (List Int)} {T : List Bool} {Y : List (List Int)} {U : List Bool} (h : Duo w W own B C D E X T Y U) (hl : X.length ≤ 100000) (k n v : Int) :
    Calls Try.prog 18 #[.pointer (some ⟨B, 0, none⟩), .pointer (some ⟨C, 0, none⟩), .agg #[.int .i64 k, .int .i64 n, .int .i64 v]] W fun e W' => e = .returned (.bool true) ∧ ∃ own' X' T', Duo w W' own' B C D E X' T' Y U ∧ X'.length ≤ X.length + 1 ∧ Step W W' own own' 1 2 3 := by
  refine (does_any h.p1 tags123 hl k n v).mono ?_
  rintro e W' ⟨rfl, own', X', T', hp', hx, hs⟩
  exact ⟨rfl, own', X', T', ⟨hp', h.p2.step hs (by decide) (by decide) (by decide) (by decide) (by decide) (by decide), fun i hi => (hs.old i (by have := h.b.size; omega)).trans (h.z i hi), h.b.trans (hs.below h.b.size (fun i hi => by rw [h.z i hi]; decide))⟩, hx, hs⟩
theorem Duo.does2 {w W : World} {own : Nat → Nat} {B C D E : Nat} {X : List (List Int)} {T : List Bool} {Y : List (List Int)} {U : List Bool} (h : Duo w W own B C D E X T Y U) (hl : Y.length ≤ 100000) (k n v : Int) :
    Calls Try.prog 18 #[.pointer (some ⟨D, 0, none⟩), .pointer (some ⟨E, 0, none⟩), .agg #[.int .i64 k, .int .i64 n, .int .i64 v]] W fun e W' => e = .returned (.bool true) ∧ ∃ own' Y' U', Duo w W' own' B C D E X T Y' U' ∧ Y'.length ≤ Y.length + 1 ∧ Step W W' own own' 4 5 6 := by
  refine (does_any h.p2 tags456 hl k n v).mono ?_
  rintro e W' ⟨rfl, own', X', T', hp', hx, hs⟩
  exact ⟨rfl, own', X', T', ⟨h.p1.step hs (by decide) (by decide) (by decide) (by decide) (by decide) (by decide), hp', fun i hi => (hs.old i (by have := h.b.size; omega)).trans (h.z i hi), h.b.trans (hs.below h.b.size (fun i hi => by rw [h.z i hi]; decide))⟩, hx, hs⟩
theorem Duo.below {w W W' : World} {own : Nat → Nat} {B C D E : Nat} {X : List (List Int)} {T : List Bool} {Y : List (List Int)} {U : List Bool} (h : Duo w W own B C D E X T Y U) (t : Nat) (hb : Below W.heap.size W W') : Duo w W' (tagged own W.heap.size t) B C D E X T Y U :=
  ⟨h.p1.onNew t hb, h.p2.onNew t hb, fun k hk => by rw [tagged_lt (by have := h.b.size; omega)]; exact h.z k hk, below_then h.b h.b.size hb⟩
/-- All of the first table. -/
theorem Duo.iter1 {w W : World} {own : Nat → Nat} {B C D E : Nat} {X : List (List Int)} {T : List Bool} {Y : List (List Int)} {U : List Bool} (h : Duo w W own B C D E X T Y U) (hl : X.length ≤ 100000) :
    Calls Try.prog 20 #[.pointer (some ⟨B, 0, none⟩)] W fun e W' => e = .returned (.func (.func 47) #[] #[.pointer (some ⟨W.heap.size, 0, none⟩)]) ∧ ∃ own', Duo w W' own' B C D E X T Y U ∧ ItTag W' own' W.heap.size X T := by
  refine (all_any h.p1.tab (by rw [List.length_map]; exact hl)).mono ?_
  rintro e W' ⟨it, rfl, ⟨v, hI⟩, hb'⟩
  obtain rfl := hI.fn
  exact ⟨rfl, _, h.below 8 hb', ⟨⟨_, v, hI, tagged_ge (Nat.le_refl _), fun k e => tagged_ge (row_lt hI.row k e).1⟩⟩⟩

/-- At the beginning: two tables and two references, each new. -/
theorem duo_new (w : World) : Duo w ((((w.alloc (.cells #[.slice none 0 0, .slice none 0 0, .slice none 0 0] 34)).alloc (.cells #[.slice none 0 0, .slice none 0 0, .slice none 0 0] 34)).alloc (.cells #[.slice none 0 0, .slice none 0 0] 38)).alloc (.cells #[.slice none 0 0, .slice none 0 0] 38))
    (fun k => if k < w.heap.size then 0 else if k = w.heap.size then 1 else if k = w.heap.size + 1 then 4 else if k = w.heap.size + 2 then 2 else 5) w.heap.size (w.heap.size + 2) (w.heap.size + 1) (w.heap.size + 3) [] [] [] [] := by
  obtain ⟨own, hown⟩ : ∃ own : Nat → Nat, own = fun k => if k < w.heap.size then 0 else if k = w.heap.size then 1 else if k = w.heap.size + 1 then 4 else if k = w.heap.size + 2 then 2 else 5 := ⟨_, rfl⟩
  rw [← hown]
  obtain ⟨W1, hW1⟩ : ∃ W1, W1 = w.alloc (.cells #[.slice none 0 0, .slice none 0 0, .slice none 0 0] 34) := ⟨_, rfl⟩
  obtain ⟨W2, hW2⟩ : ∃ W2, W2 = W1.alloc (.cells #[.slice none 0 0, .slice none 0 0, .slice none 0 0] 34) := ⟨_, rfl⟩
  obtain ⟨W3, hW3⟩ : ∃ W3, W3 = W2.alloc (.cells #[.slice none 0 0, .slice none 0 0] 38) := ⟨_, rfl⟩
  obtain ⟨W4, hW4⟩ : ∃ W4, W4 = W3.alloc (.cells #[.slice none 0 0, .slice none 0 0] 38) := ⟨_, rfl⟩
  rw [← hW1, ← hW2, ← hW3, ← hW4]
  have s1 : W1.heap.size = w.heap.size + 1 := by rw [hW1]; simp
  have s2 : W2.heap.size = w.heap.size + 2 := by rw [hW2]; simp [s1]
  have s3 : W3.heap.size = w.heap.size + 3 := by rw [hW3]; simp [s2]
  have b1 : Below w.heap.size w W1 := by rw [hW1]; exact below_alloc (Below.refl _ _) _
  have b2 : Below W1.heap.size W1 W2 := by rw [hW2]; exact below_alloc (Below.refl _ _) _
  have b3 : Below W2.heap.size W2 W3 := by rw [hW3]; exact below_alloc (Below.refl _ _) _
  have b4 : Below W3.heap.size W3 W4 := by rw [hW4]; exact below_alloc (Below.refl _ _) _
  have t1 : Tab W1 w.heap.size (fun k => w.heap.size ≤ k) [] [] := by rw [hW1]; exact tab_new
  have t2 : Tab W2 W1.heap.size (fun k => W1.heap.size ≤ k) [] [] := by rw [hW2]; exact tab_new
  have b14 : Below W1.heap.size W1 W4 := below_then (below_then b2 b2.size b3) (Nat.le_trans b2.size b3.size) b4
  have b24 : Below W2.heap.size W2 W4 := below_then b3 b3.size b4
  have hz : ∀ k, k < w.heap.size → own k = 0 := fun k hk => by rw [hown]; exact if_pos hk
  refine ⟨⟨(t1.mono (ok' := fun k => own k = 1) (fun k e hlt => ?_)).below b14, ?_⟩, ⟨?_, ?_⟩, hz, below_then b1 b1.size b14⟩
  · obtain rfl : k = w.heap.size := by omega
    show own w.heap.size = 1
    rw [hown]; simp
  · have h := ref_new W2 (fun k => own k = 2) (fun k => own k = 3 ∧ k < W4.heap.size) (show own W2.heap.size = 2 by rw [hown, s2]; simp)
    rw [← hW3, s2] at h
    exact ⟨_, _, _, h.bound.move (w' := W4) (fun k e _ => b4.block k e.2) (fun k e hlt => b4.block k hlt) |>.mono (fun k e => e.1) (fun k e => e)⟩
  · have h := (t2.mono (ok' := fun k => own k = 4) (fun k e hlt => by
      obtain rfl : k = w.heap.size + 1 := by omega
      show own (w.heap.size + 1) = 4
      rw [hown]; simp)).below b24
    rw [s1] at h
    exact h
  · have h := ref_new W3 (fun k => own k = 5) (fun k => own k = 6 ∧ k < W4.heap.size) (show own W3.heap.size = 5 by rw [hown, s3]; simp)
    rw [← hW4, s3] at h
    exact ⟨_, _, _, h⟩
end Go.Proofs.Ytgchgkffoplogaa
