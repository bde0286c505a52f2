/- does: Add; any step. -/
import Derived.Test.YtgchgkffoplogaaDf
namespace Go.Proofs.Ytgchgkffoplogaa
open Go.RowKit Go.Proofs.YtgchgkffoplogaaW.PrintWords
set_option linter.unusedVariables false
set_option linter.unusedSimpArgs false

theorem addX_map (X : List (List Int)) (T : List Bool) (v : Int) : addL (X.map (rd · 0)) T v = (addX X T [v]).map (rd · 0) := by
  unfold addL addX
  split
  · rw [List.map_append]; rfl
  · rw [List.map_set]; rfl

set_option maxRecDepth 100000 in
set_option maxHeartbeats 3200000 in
theorem does_add {W : World} {own : Nat → Nat} {t1 t2 t3 B C : Nat} {X : List (List Int)} {T : List Bool} (h : Pair W own t1 t2 t3 B C (X.map (rd · 0)) T X T) (g : Tags t1 t2 t3) (hl : X.length ≤ 100000) (n v : Int) :
    Calls Try.prog 18 #[.pointer (some ⟨B, 0, none⟩), .pointer (some ⟨C, 0, none⟩), .agg #[.int .i64 1, .int .i64 n, .int .i64 v]] W fun e W' => DoesPost W own t1 t2 t3 B C X e W' := by
  obtain ⟨bx, hbx⟩ : ∃ bx, bx = W.heap.size := ⟨_, rfl⟩
  obtain ⟨W0, hW0⟩ : ∃ W0, W0 = W.alloc (.cells #[.int .i64 1, .int .i64 n, .int .i64 v] 41) := ⟨_, rfl⟩
  have hb1 : Below W.heap.size W W0.drew := by rw [hW0]; exact below_drew (below_alloc (Below.refl _ _) _)
  have h1 := h.onNew 0 hb1
  have s1 : Step W W0.drew own _ t1 t2 t3 := Step.of_below hb1 (.inl rfl)
  have ho1 : tagged own W.heap.size 0 bx = 0 := tagged_ge (by omega)
  have hk1 : W0.drew.heap[bx]? = some (.cells #[.int .i64 1, .int .i64 n, .int .i64 v] 41 (0, 0)) := by rw [hbx, hW0]; exact blk_new _ _
  generalize tagged own W.heap.size 0 = own1 at *
  have hlt : bx < W0.drew.heap.size := blk_lt hk1
  have hlx : (X.map (rd · 0)).length ≤ 100000 := by rw [List.length_map]; exact hl
  -- the literal first
  have hbA : Below W0.drew.heap.size W0.drew (W0.drew.alloc (.cells #[.int .i64 v] 3)) := below_alloc (Below.refl _ _) _
  have hA := h1.onNew t3 hbA
  have FA := Lib.hid (hA.add g hlx v)
  have FB := Lib.hid (h1.add g hlx v)
  have c1 := blk_cell hk1 1; have c2 := blk_cell hk1 2
  have cA := blk_alloc hk1 (.cells #[.int .i64 v] 3)
  have cA1 := blk_cell cA 1; have cA2 := blk_cell cA 2
  have SA : Step W (W0.drew.alloc (.cells #[.int .i64 v] 3)) own _ t1 t2 t3 := s1.trans (Step.of_below hbA (t := t3) (by simp))
  have Hbx := Lib.hid hbx; have HW0 := Lib.hid hW0; have Ho1 := Lib.hid ho1; have Hk1 := Lib.hid hk1; have H1 := Lib.hid h1; have HA := Lib.hid hA; have Hs1 := Lib.hid s1; have HSA := Lib.hid SA
  clear h h1 hb1 hA hbA s1 SA hbx hW0 ho1 hk1 cA
  go_enter Try.func18, Try.ntmps18
  go_upto_region 3 with (fail)
  rw [← HW0.out, ← Hbx.out]
  go_region_held3 (fun w' => w'.cell? ⟨bx, 1, none⟩ = some (.int .i64 n) ∧ w'.cell? ⟨bx, 2, none⟩ = some (.int .i64 v)) (first | exact ⟨c1, c2⟩ | exact ⟨cA1, cA2⟩ | exact ⟨d1, d2⟩ | exact ⟨b1, b2⟩ | exact ⟨f1, f2⟩) ((first | (go_at_call 14; refine FA.out.mono ?_; rintro e w2 ⟨rfl, hB, hk⟩; have hl2 := litA g hlt Ho1.out Hk1.out hk; have d1 := blk_cell hl2.1 1; have d2 := blk_cell hl2.1 2; have HL := Lib.hid hl2; have HB := Lib.hid hB; have HS2 := Lib.hid (HSA.out.trans (Step.of_kept hk (.inl rfl))); clear hl2 hB hk) | (go_at_call 42; refine (HB.out.radd g hl _ [v] HL.out.2.1).mono ?_; rintro e w3 ⟨rfl, hB3, hk3⟩; have hb3 := (hk3.block bx (blk_lt HL.out.1) (fun e => g.p2 (e.symm.trans HL.out.2.2))).trans HL.out.1; have f1 := blk_cell hb3 1; have f2 := blk_cell hb3 2; have HB3 := Lib.hid hB3; have HS3 := Lib.hid (HS2.out.trans (Step.of_kept hk3 (.inr rfl))); clear hB3 hk3 hb3) | (go_at_call 14; refine FB.out.mono ?_; rintro e w2 ⟨rfl, hB, hk⟩; have hl2 := litB (v := v) g hlt Ho1.out Hk1.out hk; have d1 := blk_cell hl2.1 1; have d2 := blk_cell hl2.1 2; have b1 := blk_cell hl2.2.1 1; have b2 := blk_cell hl2.2.1 2; have HL := Lib.hid hl2; have HB := Lib.hid (hB.onNew t3 (below_alloc (Below.refl _ _) (.cells #[.int .i64 v] 3))); have HS2 := Lib.hid ((Hs1.out.trans (Step.of_kept hk (.inl rfl))).trans (Step.of_below (below_alloc (Below.refl w2.heap.size w2) (.cells #[.int .i64 v] 3)) (t := t3) (by simp))); clear hl2 hB hk) | (go_at_call 42; refine (HB.out.radd g hl _ [v] HL.out.2.2.1).mono ?_; rintro e w3 ⟨rfl, hB3, hk3⟩; have hb3 := (hk3.block bx (blk_lt HL.out.2.1) (fun e => g.p2 (e.symm.trans HL.out.2.2.2))).trans HL.out.2.1; have f1 := blk_cell hb3 1; have f2 := blk_cell hb3 2; have HB3 := Lib.hid hB3; have HS3 := Lib.hid (HS2.out.trans (Step.of_kept hk3 (.inr rfl))); clear hB3 hk3 hb3)))
  all_goals
    go_wp2
    go_ret
    refine ⟨rfl, _, addX X T [v], addT T, ?_, ?_, HS3.out⟩
    · have hp := HB3.out
      rw [addX_map X T v] at hp
      exact hp
    · unfold addX; split <;> simp

theorem does_any {W : World} {own : Nat → Nat} {t1 t2 t3 B C : Nat} {X : List (List Int)} {T : List Bool} (h : Pair W own t1 t2 t3 B C (X.map (rd · 0)) T X T) (g : Tags t1 t2 t3) (hl : X.length ≤ 100000) (k n v : Int) :
    Calls Try.prog 18 #[.pointer (some ⟨B, 0, none⟩), .pointer (some ⟨C, 0, none⟩), .agg #[.int .i64 k, .int .i64 n, .int .i64 v]] W fun e W' => DoesPost W own t1 t2 t3 B C X e W' := by
  by_cases k1 : k = 1
  · subst k1; exact does_add h g hl n v
  by_cases k2 : k = 2
  · subst k2; exact does_get h g hl n v
  by_cases k3 : k = 3
  · subst k3; exact does_set h g hl n v
  by_cases k4 : k = 4
  · subst k4; exact does_free h g hl n v
  exact does_none h k n v k1 k2 k3 k4
end Go.Proofs.Ytgchgkffoplogaa
