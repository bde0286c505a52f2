/- awake: what the document fixes. -/
import Derived.Test.YtgchgkffoplogaaHd
namespace Go.Proofs.Ytgchgkffoplogaa
open Go.RowKit Go.Proofs.YtgchgkffoplogaaW.PrintWords
set_option linter.unusedVariables false
set_option linter.unusedSimpArgs false

theorem markB_eq {T : List Bool} {X : List (List Int)} {rl : List Int} {S : List Bool} (hl : S.length = T.length) (h : ∀ i : Nat, i < T.length → (S.getD i false = true ↔ Reach T X rl (i : Int))) : markB T X rl = S := by
  apply List.ext_getElem
  · rw [markB_len, hl]
  · intro i h1 h2
    have hi : i < T.length := by omega
    have e1 := markB_get T X rl i hi
    have e2 := h i hi
    rw [List.getD_eq_getElem?_getD, List.getElem?_eq_getElem h1] at e1
    rw [List.getD_eq_getElem?_getD, List.getElem?_eq_getElem h2] at e2
    simp only [Option.getD_some] at e1 e2
    cases ha : (markB T X rl)[i] <;> cases hb : S[i] <;> simp_all

/-- The slots of awake. -/
def Xa : List (List Int) := [[1], [0], []]
def Ta : List Bool := [true, true, true]
theorem reach_a (i : Int) : Reach Ta Xa [0] i ↔ i = 0 ∨ i = 1 := by
  constructor
  · intro h
    induction h with
    | root h1 h2 => simp at h1; exact .inl h1
    | step h1 h2 h3 ih =>
      rcases ih with rfl | rfl
      · simp [Xa] at h2; exact .inr h2
      · simp [Xa] at h2; exact .inl h2
  · intro h
    have h0 : Reach Ta Xa [0] 0 := .root (by simp) (by decide)
    rcases h with rfl | rfl
    · exact h0
    · exact .step h0 (by simp [Xa]) (by decide)
theorem markB_a : markB Ta Xa [0] = [true, true, false] := by
  refine markB_eq rfl (fun i hi => ?_)
  rw [reach_a]
  match i, hi with
  | 0, _ => simp
  | 1, _ => simp
  | 2, _ => simp
theorem marks_a : marks Ta Xa [0] = [0, 1] := by unfold marks; rw [markB_a]; rfl
theorem sweepL_a : sweepL Ta Xa [0] = [2] := by unfold sweepL; rw [markB_a]; rfl

theorem elem_one {W : World} {nb : Nat} {v : Int} {okE : Nat → Prop} (h : W.heap[nb]? = some (.cells #[.int .i64 v] 3 (0, 0))) (ho : okE nb) : Elem W okE (.slice (some ⟨nb, 0, none⟩) 1 1) [v] := by
  refine ⟨some ⟨nb, 0, none⟩, 1, rfl, Nat.le_refl _, ⟨rfl, by simp, fun _ => ⟨_, rfl, fun j hj => ?_⟩⟩, fun _ ad e => by injection e with e; subst e; exact ho⟩
  have : j = 0 := by simpa using hj
  subst this
  rw [add_at]
  exact blk_cell h 0
theorem reads_lit (w : World) (xs : List Int) (hl : xs.length ≤ 100) : ReadsInt (w.alloc (.cells (xs.map (Value.int .i64)).toArray 3)) .i64 (some ⟨w.heap.size, 0, none⟩) xs.length xs := by
  refine ⟨rfl, by omega, fun _ => ⟨_, rfl, fun j hj => ?_⟩⟩
  rw [add_at]
  have h := blk_cell (blk_new w (.cells (xs.map (Value.int .i64)).toArray 3)) (0 + j)
  rw [h]
  simp [List.getD_eq_getElem?_getD, List.getElem?_eq_getElem hj]

theorem reads_lit1 (w : World) (x : Int) : ReadsInt (w.alloc (.cells #[.int .i64 x] 3)) .i64 (some ⟨w.heap.size, 0, none⟩) 1 [x] := reads_lit w [x] (by simp)
theorem reads_lit2 (w : World) (x y : Int) : ReadsInt (w.alloc (.cells #[.int .i64 x, .int .i64 y] 3)) .i64 (some ⟨w.heap.size, 0, none⟩) 2 [x, y] := reads_lit w [x, y] (by simp)

theorem arg_lit (w : World) : ArgRows ((((w.alloc (.cells #[.int .i64 1] 3)).alloc (.cells #[.int .i64 0] 3)).alloc (.cells #[] 3)).alloc (.cells #[.slice (some ⟨w.heap.size, 0, none⟩) 1 1, .slice (some ⟨w.heap.size + 1, 0, none⟩) 1 1, .slice (some ⟨w.heap.size + 1 + 1, 0, none⟩) 0 0] 22)) (some ⟨w.heap.size + 1 + 1 + 1, 0, none⟩) Xa := by
  obtain ⟨W1, hW1⟩ : ∃ W1, W1 = w.alloc (.cells #[.int .i64 1] 3) := ⟨_, rfl⟩
  obtain ⟨W2, hW2⟩ : ∃ W2, W2 = W1.alloc (.cells #[.int .i64 0] 3) := ⟨_, rfl⟩
  obtain ⟨W3, hW3⟩ : ∃ W3, W3 = W2.alloc (.cells #[] 3) := ⟨_, rfl⟩
  obtain ⟨W4, hW4⟩ : ∃ W4, W4 = W3.alloc (.cells #[.slice (some ⟨w.heap.size, 0, none⟩) 1 1, .slice (some ⟨w.heap.size + 1, 0, none⟩) 1 1, .slice (some ⟨w.heap.size + 1 + 1, 0, none⟩) 0 0] 22) := ⟨_, rfl⟩
  rw [← hW1, ← hW2, ← hW3, ← hW4]
  have s1 : W1.heap.size = w.heap.size + 1 := by rw [hW1]; simp
  have s2 : W2.heap.size = w.heap.size + 1 + 1 := by rw [hW2]; simp [s1]
  have s3 : W3.heap.size = w.heap.size + 1 + 1 + 1 := by rw [hW3]; simp [s2]
  have s4 : W4.heap.size = w.heap.size + 1 + 1 + 1 + 1 := by rw [hW4]; simp [s3]
  have k1 : W4.heap[w.heap.size]? = some (.cells #[.int .i64 1] 3 (0, 0)) := by
    rw [hW4, hW3, hW2, hW1]; exact blk_alloc (blk_alloc (blk_alloc (blk_new w _) _) _) _
  have k2 : W4.heap[w.heap.size + 1]? = some (.cells #[.int .i64 0] 3 (0, 0)) := by
    have := blk_new W1 (.cells #[.int .i64 0] 3)
    rw [s1, ← hW2] at this
    rw [hW4, hW3]; exact blk_alloc (blk_alloc this _) _
  have k4 : W4.heap[w.heap.size + 1 + 1 + 1]? = some (.cells #[.slice (some ⟨w.heap.size, 0, none⟩) 1 1, .slice (some ⟨w.heap.size + 1, 0, none⟩) 1 1, .slice (some ⟨w.heap.size + 1 + 1, 0, none⟩) 0 0] 22 (0, 0)) := by
    have := blk_new W3 (.cells #[.slice (some ⟨w.heap.size, 0, none⟩) 1 1, .slice (some ⟨w.heap.size + 1, 0, none⟩) 1 1, .slice (some ⟨w.heap.size + 1 + 1, 0, none⟩) 0 0] 22)
    rw [s3, ← hW4] at this; exact this
  refine ⟨by decide, fun _ => ⟨_, rfl, fun i hi => ?_⟩⟩
  match i, hi with
  | 0, _ => exact ⟨_, _, by rw [add_at]; exact blk_cell k4 0, elem_one k1 (by omega)⟩
  | 1, _ => exact ⟨_, _, by rw [add_at]; exact blk_cell k4 1, elem_one k2 (by omega)⟩
  | 2, _ => exact ⟨_, _, by rw [add_at]; exact blk_cell k4 2, ⟨_, _, rfl, Nat.le_refl _, ⟨rfl, Nat.zero_le _, fun h => absurd h (Nat.lt_irrefl 0)⟩, fun h => absurd h (Nat.lt_irrefl 0)⟩⟩

set_option maxRecDepth 100000 in
set_option maxHeartbeats 3200000 in
theorem awake25_any (w : World) : Calls Try.prog 25 #[] w fun e w' => e = .returned (.bool true) ∧ Below w.heap.size w w' := by
  have harg := arg_lit w
  have Harg := Lib.hid harg
  clear harg
  go_enter Try.func25, Try.ntmps25
  have hbl : Below w.heap.size w ((((w.alloc (.cells #[.int .i64 1] 3)).alloc (.cells #[.int .i64 0] 3)).alloc (.cells #[] 3)).alloc (.cells #[.slice (some ⟨w.heap.size, 0, none⟩) 1 1, .slice (some ⟨w.heap.size + 1, 0, none⟩) 1 1, .slice (some ⟨w.heap.size + 1 + 1, 0, none⟩) 0 0] 22)) :=
    below_alloc (below_alloc (below_alloc (below_alloc (Below.refl _ _) _) _) _) _
  have hlaid := laid_any Harg.out (by decide) (fun i => by
    match i with
    | 0 => decide
    | 1 => decide
    | 2 => decide
    | i + 3 => simp [Xa, List.getD_eq_getElem?_getD]) 3 none 0 [] (ReadsInt.nil _ _)
  obtain ⟨w0, hw0⟩ : ∃ w0, w0 = ((((w.alloc (.cells #[.int .i64 1] 3)).alloc (.cells #[.int .i64 0] 3)).alloc (.cells #[] 3)).alloc (.cells #[.slice (some ⟨w.heap.size, 0, none⟩) 1 1, .slice (some ⟨w.heap.size + 1, 0, none⟩) 1 1, .slice (some ⟨w.heap.size + 1 + 1, 0, none⟩) 0 0] 22)) := ⟨_, rfl⟩
  rw [← hw0] at hlaid hbl
  have Hlaid := Lib.hid hlaid; have Hbl := Lib.hid hbl
  clear hlaid hbl Harg
  go_wp2_with (fail)
  rw [← hw0]
  clear hw0
  refine Hlaid.out.mono ?_
  rintro e W1 ⟨own, B, C, L, rfl, hL, _⟩
  have e1 : laidTX Xa [] = (Ta, Xa) := rfl
  rw [e1] at hL
  have hL3 : L.length ≤ 100000 := by have := hL.lenX; simp [Xa] at this; omega
  have HL := Lib.hid hL
  clear hL e1 Hlaid
  go_wp2_with (first | (go_at_call 27; have hL1 := HL.out.below 4 (below_alloc (Below.refl W1.heap.size W1) (.cells #[.int .i64 0] 3)); have hm := mark_any hL1.tab hL3 hL1.el hL1.lenX _ 1 [0] (reads_lit1 W1 0) true; simp only [if_true] at hm; refine hm.mono ?_; rintro e W2 ⟨v2, rfl, hown2, hb2⟩; rw [marks_a] at hown2; obtain ⟨A2, c2, rfl, hr2⟩ := own_reads hown2; have HL2 := Lib.hid (hL1.below 4 hb2); have Hr2 := Lib.hid hr2; clear hL1 hm hown2 hb2 hr2) | (go_at_call 29; refine (same_any _ _ _ _ [2] _ (Hr4.out.below (below_alloc (Below.refl _ _) _)) (reads_lit1 W4 2)).mono ?_; rintro e W5 ⟨rfl, q5, hW5⟩; have hb5 : Below W4.heap.size W4 W5 := (by rw [hW5]; exact pw_below_drewN (below_alloc (Below.refl _ _) _) q5); have HB5 := Lib.hid (HL4.out.below 4 hb5).bel; clear hW5 hb5) | (go_at_call 29; refine (same_any _ _ _ _ [0, 1] _ (Hr2.out.below (below_alloc (Below.refl _ _) _)) (reads_lit2 W2 0 1)).mono ?_; rintro e W3 ⟨rfl, q3, hW3⟩; have hb3 : Below W2.heap.size W2 W3 := (by rw [hW3]; exact pw_below_drewN (below_alloc (Below.refl _ _) _) q3); have HL3 := Lib.hid (HL2.out.below 4 hb3); clear Hr2 hW3 hb3) | (go_at_call 32; have hL3' := HL3.out.below 4 (below_alloc (Below.refl _ _) (.cells #[.int .i64 0] 3)); refine (sweep_any hL3' hL3 _ 1 [0] (reads_lit1 _ 0)).mono ?_; rintro e W4 ⟨v4, own4, L4, rfl, hown4, hL4, _⟩; rw [sweepL_a] at hown4; obtain ⟨A4, c4, rfl, hr4⟩ := own_reads hown4; have HL4 := Lib.hid hL4; have Hr4 := Lib.hid hr4; clear hL3' hown4 hL4 hr4))
  go_ret
  exact ⟨rfl, below_then Hbl.out Hbl.out.size HB5.out⟩
end Go.Proofs.Ytgchgkffoplogaa
