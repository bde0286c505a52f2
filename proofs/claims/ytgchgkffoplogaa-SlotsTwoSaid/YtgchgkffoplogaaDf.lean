/- does: Set, Add: a literal built ahead of the first call, or behind it. -/
import Derived.Test.YtgchgkffoplogaaDe
namespace Go.Proofs.Ytgchgkffoplogaa
open Go.RowKit Go.Proofs.YtgchgkffoplogaaW.PrintWords
set_option linter.unusedVariables false
set_option linter.unusedSimpArgs false

/-- A literal of one number. -/
theorem elem_lit {W : World} {nb : Nat} {v : Int} {okE : Nat → Prop} (h : W.heap[nb]? = some (.cells #[.int .i64 v] 3 (0, 0))) (ho : okE nb) : Elem W okE (.slice (some ⟨nb, 0, none⟩) 1 1) [v] := by
  refine ⟨some ⟨nb, 0, none⟩, 1, rfl, Nat.le_refl _, ⟨rfl, by simp, fun _ => ⟨_, rfl, fun j hj => ?_⟩⟩, fun ad e => by injection e with e; subst e; exact ho⟩
  have : j = 0 := by simpa using hj
  subst this
  rw [add_at]
  exact blk_cell h 0

/-- The literal ahead of the first call. -/
theorem litA {W1 w2 : World} {own1 : Nat → Nat} {t1 t2 t3 bx : Nat} {o : Obj} {v : Int} (g : Tags t1 t2 t3) (hlt : bx < W1.heap.size) (h0 : own1 bx = 0) (hk1 : W1.heap[bx]? = some o)
    (hk : Kept (fun k => tagged own1 W1.heap.size t3 k = t1) (W1.alloc (.cells #[.int .i64 v] 3)) w2) :
    w2.heap[bx]? = some o ∧ Elem w2 (fun k => tagged (tagged own1 W1.heap.size t3) (W1.alloc (.cells #[.int .i64 v] 3)).heap.size t1 k = t3 ∧ k < w2.heap.size) (.slice (some ⟨W1.heap.size, 0, none⟩) 1 1) [v] ∧ tagged (tagged own1 W1.heap.size t3) (W1.alloc (.cells #[.int .i64 v] 3)).heap.size t1 bx = 0 := by
  have hsz : (W1.alloc (.cells #[.int .i64 v] 3)).heap.size = W1.heap.size + 1 := by simp
  have hs2 := hk.size
  rw [hsz] at hs2
  have hb := (hk.block bx (by omega) (fun e => by rw [tagged_lt hlt] at e; exact g.p1 (e.symm.trans h0))).trans (blk_alloc hk1 _)
  have hn := (hk.block W1.heap.size (by omega) (fun e => by rw [tagged_ge (Nat.le_refl _)] at e; exact g.b e.symm)).trans (blk_new W1 (.cells #[.int .i64 v] 3))
  refine ⟨hb, elem_lit hn ⟨?_, by omega⟩, ?_⟩
  · rw [hsz, tagged_lt (by omega), tagged_ge (Nat.le_refl _)]
  · rw [hsz, tagged_lt (by omega), tagged_lt hlt]; exact h0
/-- The literal behind the first call. -/
theorem litB {W1 w2 : World} {own1 : Nat → Nat} {t1 t2 t3 bx : Nat} {o : Obj} {v : Int} (g : Tags t1 t2 t3) (hlt : bx < W1.heap.size) (h0 : own1 bx = 0) (hk1 : W1.heap[bx]? = some o)
    (hk : Kept (fun k => own1 k = t1) W1 w2) :
    w2.heap[bx]? = some o ∧ (w2.alloc (.cells #[.int .i64 v] 3)).heap[bx]? = some o ∧ Elem (w2.alloc (.cells #[.int .i64 v] 3)) (fun k => tagged (tagged own1 W1.heap.size t1) w2.heap.size t3 k = t3 ∧ k < (w2.alloc (.cells #[.int .i64 v] 3)).heap.size) (.slice (some ⟨w2.heap.size, 0, none⟩) 1 1) [v] ∧ tagged (tagged own1 W1.heap.size t1) w2.heap.size t3 bx = 0 := by
  have hs2 := hk.size
  have hb := (hk.block bx hlt (fun e => g.p1 (e.symm.trans h0))).trans hk1
  refine ⟨hb, blk_alloc hb _, elem_lit (blk_new w2 _) ⟨tagged_ge (Nat.le_refl _), by simp⟩, ?_⟩
  rw [tagged_lt (by omega), tagged_lt hlt]; exact h0

set_option maxRecDepth 100000 in
set_option maxHeartbeats 3200000 in
theorem does_set {W : World} {own : Nat → Nat} {t1 t2 t3 B C : Nat} {X : List (List Int)} {T : List Bool} (h : Pair W own t1 t2 t3 B C (X.map (rd · 0)) T X T) (g : Tags t1 t2 t3) (hl : X.length ≤ 100000) (n v : Int) :
    Calls Try.prog 18 #[.pointer (some ⟨B, 0, none⟩), .pointer (some ⟨C, 0, none⟩), .agg #[.int .i64 3, .int .i64 n, .int .i64 v]] W fun e W' => DoesPost W own t1 t2 t3 B C X e W' := by
  obtain ⟨bx, hbx⟩ : ∃ bx, bx = W.heap.size := ⟨_, rfl⟩
  obtain ⟨W0, hW0⟩ : ∃ W0, W0 = W.alloc (.cells #[.int .i64 3, .int .i64 n, .int .i64 v] 41) := ⟨_, rfl⟩
  have hb1 : Below W.heap.size W W0.drew := by rw [hW0]; exact below_drew (below_alloc (Below.refl _ _) _)
  have h1 := h.onNew 0 hb1
  have s1 : Step W W0.drew own _ t1 t2 t3 := Step.of_below hb1 (.inl rfl)
  have ho1 : tagged own W.heap.size 0 bx = 0 := tagged_ge (by omega)
  have hk1 : W0.drew.heap[bx]? = some (.cells #[.int .i64 3, .int .i64 n, .int .i64 v] 41 (0, 0)) := by rw [hbx, hW0]; exact blk_new _ _
  generalize tagged own W.heap.size 0 = own1 at *
  have hlt : bx < W0.drew.heap.size := blk_lt hk1
  have hlx : (X.map (rd · 0)).length ≤ 100000 := by rw [List.length_map]; exact hl
  -- the literal first
  have hbA : Below W0.drew.heap.size W0.drew (W0.drew.alloc (.cells #[.int .i64 v] 3)) := below_alloc (Below.refl _ _) _
  have hA := h1.onNew t3 hbA
  have FA := Lib.hid (hA.set_ g hlx n v)
  have FB := Lib.hid (h1.set_ g hlx n v)
  have c1 := blk_cell hk1 1; have c2 := blk_cell hk1 2
  have cA := blk_alloc hk1 (.cells #[.int .i64 v] 3)
  have cA1 := blk_cell cA 1; have cA2 := blk_cell cA 2
  have SA : Step W (W0.drew.alloc (.cells #[.int .i64 v] 3)) own _ t1 t2 t3 := s1.trans (Step.of_below hbA (t := t3) (by simp))
  have Hbx := Lib.hid hbx; have HW0 := Lib.hid hW0; have Ho1 := Lib.hid ho1; have Hk1 := Lib.hid hk1; have H1 := Lib.hid h1; have HA := Lib.hid hA; have Hs1 := Lib.hid s1; have HSA := Lib.hid SA
  clear h h1 hb1 hA hbA s1 SA hbx hW0 ho1 hk1 cA
  go_enter Try.func18, Try.ntmps18
  go_upto_region 9 with (fail)
  rw [← HW0.out, ← Hbx.out]
  go_region_held3 (fun w' => w'.cell? ⟨bx, 1, none⟩ = some (.int .i64 n) ∧ w'.cell? ⟨bx, 2, none⟩ = some (.int .i64 v)) (first | exact ⟨c1, c2⟩ | exact ⟨cA1, cA2⟩ | exact ⟨d1, d2⟩ | exact ⟨b1, b2⟩ | exact ⟨f1, f2⟩) ((first | (go_at_call 23; refine FA.out.mono ?_; rintro e w2 ⟨rfl, hB, hk⟩; have hl2 := litA g hlt Ho1.out Hk1.out hk; have d1 := blk_cell hl2.1 1; have d2 := blk_cell hl2.1 2; have HL := Lib.hid hl2; have HB := Lib.hid hB; have HS2 := Lib.hid (HSA.out.trans (Step.of_kept hk (.inl rfl))); clear hl2 hB hk) | (go_at_call 45; refine (HB.out.rset g hl n _ [v] HL.out.2.1).mono ?_; rintro e w3 ⟨rfl, hB3, hk3⟩; have hb3 := (hk3.block bx (blk_lt HL.out.1) (fun e => g.p2 (e.symm.trans HL.out.2.2))).trans HL.out.1; have f1 := blk_cell hb3 1; have f2 := blk_cell hb3 2; have HB3 := Lib.hid hB3; have HS3 := Lib.hid (HS2.out.trans (Step.of_kept hk3 (.inr rfl))); clear hB3 hk3 hb3) | (go_at_call 23; refine FB.out.mono ?_; rintro e w2 ⟨rfl, hB, hk⟩; have hl2 := litB (v := v) g hlt Ho1.out Hk1.out hk; have d1 := blk_cell hl2.1 1; have d2 := blk_cell hl2.1 2; have b1 := blk_cell hl2.2.1 1; have b2 := blk_cell hl2.2.1 2; have HL := Lib.hid hl2; have HB := Lib.hid (hB.onNew t3 (below_alloc (Below.refl _ _) (.cells #[.int .i64 v] 3))); have HS2 := Lib.hid ((Hs1.out.trans (Step.of_kept hk (.inl rfl))).trans (Step.of_below (below_alloc (Below.refl w2.heap.size w2) (.cells #[.int .i64 v] 3)) (t := t3) (by simp))); clear hl2 hB hk) | (go_at_call 45; refine (HB.out.rset g hl n _ [v] HL.out.2.2.1).mono ?_; rintro e w3 ⟨rfl, hB3, hk3⟩; have hb3 := (hk3.block bx (blk_lt HL.out.2.1) (fun e => g.p2 (e.symm.trans HL.out.2.2.2))).trans HL.out.2.1; have f1 := blk_cell hb3 1; have f2 := blk_cell hb3 2; have HB3 := Lib.hid hB3; have HS3 := Lib.hid (HS2.out.trans (Step.of_kept hk3 (.inr rfl))); clear hB3 hk3 hb3)))
  all_goals
    go_wp2
    go_ret
    refine ⟨rfl, _, (if isT T n then X.set n.toNat [v] else X), T, ?_, ?_, HS3.out⟩
    · have hp := HB3.out
      cases hb : isT T n
      · simpa [hb] using hp
      · simp only [hb, if_true] at hp ⊢
        rw [map_set_rd X n.toNat [v] v rfl] at hp
        exact hp
    · split <;> simp
end Go.Proofs.Ytgchgkffoplogaa
