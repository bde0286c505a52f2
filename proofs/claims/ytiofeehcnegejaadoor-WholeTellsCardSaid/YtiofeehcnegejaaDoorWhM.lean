/- Whole numbers: Negate. -/
import Derived.Test.YtiofeehcnegejaaDoorWhL
namespace Go.Proofs.YtiofeehcnegejaaDoor
open Go.RowKit Go.Proofs.YtiofeehcnegejaaDoorW.PrintWords
set_option linter.unusedVariables false
set_option linter.unusedSimpArgs false

set_option maxRecDepth 100000 in
set_option maxHeartbeats 1600000 in
theorem Negate_any (neg : Bool) (A : Option Addr) (n c : Nat) (xs : List Int) (w : World) (hw : Dv.Wd xs) (hr : ReadsInt w .u32 A n xs) (hc : n ≤ c) (hn : n ≤ 100000) :
    Calls Tryd.prog 14 #[.agg #[.bool neg, .slice A n c]] w fun e w' => ∃ s A' n' c', e = .returned (.agg #[.bool s, .slice A' n' c']) ∧ FormIs w' s A' n' c' (-vI neg xs) ∧ Below w.heap.size w w' := by
  obtain ⟨W0, hW0⟩ : ∃ W0, W0 = (w.alloc (.cells #[.bool neg, .slice A n c] 24)).alloc (.cells #[.bool false, .slice none 0 0] 24) := ⟨_, rfl⟩
  have hb0 : Below w.heap.size w W0 := by rw [hW0]; exact below_alloc (below_alloc (Below.refl _ _) _) _
  have ka : W0.heap[w.heap.size]? = some (.cells #[.bool neg, .slice A n c] 24 (0, 0)) := by rw [hW0]; exact (below_alloc (Below.refl (w.alloc (.cells #[.bool neg, .slice A n c] 24)).heap.size _) _).block _ (by simp) |>.trans (blk_new w _)
  have kr : W0.heap[w.heap.size + 1]? = some (.cells #[.bool false, .slice none 0 0] 24 (0, 0)) := by
    have h := blk_new (w.alloc (.cells #[.bool neg, .slice A n c] 24)) (.cells #[.bool false, .slice none 0 0] 24)
    rw [World.size_alloc] at h; rw [hW0]; exact h
  have hcop := copied_any neg A n c xs W0 hw (hr.below hb0) hc hn
  have a0 := blk_cell ka 0
  have a1 := blk_cell ka 1
  have hsz : w.heap.size + 1 < W0.heap.size := blk_lt kr
  have Hcop := Lib.hid hcop; have HW0 := Lib.hid hW0; have Hb0 := Lib.hid hb0; have Kr := Lib.hid kr; have Hsz := Lib.hid hsz
  clear hcop hr hW0 hb0 ka kr hw hsz
  go_enter Tryd.func14, Tryd.ntmps14
  go_upto_region 1 with (fail)
  rw [← HW0.out]
  go_upto_region 2 with (go_at_call 45; refine Hcop.out.mono ?_; rintro e W1 ⟨s1, A1, n1, c1, rfl, hf1, hn1, hb1, hfar1⟩; have Kr1 := Lib.hid (blk_below Kr.out hb1); have HB1 := Lib.hid (below_then Hb0.out Hb0.out.size hb1); have Hf1 := Lib.hid hf1; have Hfar1 := Lib.hid hfar1; clear hf1 hb1 hfar1)
  obtain ⟨zs, hnz, hnc, hrz, hwz, htz, hsz1, hvz⟩ := Hf1.out
  obtain ⟨W2, hW2⟩ : ∃ W2, W2 = W1.alloc (.cells #[.bool s1, .slice A1 n1 c1] 24) := ⟨_, rfl⟩
  have hb2 : Below W1.heap.size W1 W2 := by rw [hW2]; exact below_alloc (Below.refl _ _) _
  have kc : W2.heap[W1.heap.size]? = some (.cells #[.bool s1, .slice A1 n1 c1] 24 (0, 0)) := by rw [hW2]; exact blk_new _ _
  have c0 := blk_cell kc 0
  have c1' := blk_cell kc 1
  have hform := form_any (!s1) A1 n1 c1 zs W2 (hrz.below hb2) hnc (by omega)
  have hneg : vI (!s1) zs = -vI neg xs := by rw [← hvz]; unfold vI; cases s1 <;> simp
  have Hform := Lib.hid hform; have Hneg := Lib.hid hneg; have Hrz := Lib.hid (hrz.below hb2); have Hwz := Lib.hid hwz; have Hnz := Lib.hid hnz
  have HB2 := Lib.hid (below_then HB1.out HB1.out.size hb2); have Kr2 := Lib.hid (blk_below Kr1.out hb2)
  rw [← hW2]
  clear hform hneg hrz hwz hnz hsz1 hvz htz kc hb2 hW2 a0 a1
  go_wp2_with (go_at_call 46; with_reducible refine Hform.out.mono ?_; rintro e W3 ⟨A3, c3, rfl, hle3, hor3, hb3⟩; have kr3 := blk_below Kr2.out hb3; have r0 := blk_cell kr3 0; have r1 := blk_cell kr3 1; have f0 := blk_frozen kr3 0; have f1 := blk_frozen kr3 1; have Kr3 := Lib.hid kr3; have HB3 := Lib.hid (below_then HB2.out HB2.out.size hb3); have Hle3 := Lib.hid hle3; have Hor3 := Lib.hid hor3; have Hb3 := Lib.hid hb3; clear kr3 hle3 hor3 hb3)
  have hlt : zs.length = n1 := Hnz.out.symm
  have hrd := form_reads (A := A1) (A' := A3) (c := c1) (c' := c3) (zs := zs) (by rw [hlt]; exact Hrz.out.below Hb3.out) (Hor3.out.imp id (fun h => ⟨h.1, h.2.1⟩))
  have hfi := form_is (neg := !s1) Hwz.out Hle3.out hrd
  rw [Hneg.out] at hfi
  have hf3 : ∀ ad, A3 = some ad → ad.block ≠ w.heap.size + 1 := fun ad e => by
    have h1 := Hsz.out
    rcases Hor3.out with ⟨h, _⟩ | ⟨h, _⟩
    · rw [h] at e; cases e
    · have := Hfar1.out ad (by rw [← h]; exact e)
      omega
  generalize trimLen zs = t3 at *
  refine bodyPost_ret (results_cell_row rfl _ _ (w.heap.size + 1) 24 #[.bool (!s1 && decide (0 < t3)), .slice A3 t3 c3] (0, 0) _ rfl (blk_put (cs := #[.bool (!s1 && decide (0 < t3)), .slice none 0 0]) (blk_put (cs := #[.bool false, .slice none 0 0]) Kr3.out 0 _ rfl) 1 _ rfl) Tryd.underlying24 rfl (by kernel_rfl)) rfl ?_
  exact ⟨_, A3, t3, c3, rfl, (hfi.set_ (p := ⟨w.heap.size + 1, 0, none⟩) hf3 _).set_ (p := ⟨w.heap.size + 1, 1, none⟩) hf3 _, (HB3.out.setCell (p := ⟨w.heap.size + 1, 0, none⟩) (by simp) _).setCell (p := ⟨w.heap.size + 1, 1, none⟩) (by simp) _⟩
end Go.Proofs.YtiofeehcnegejaaDoor
