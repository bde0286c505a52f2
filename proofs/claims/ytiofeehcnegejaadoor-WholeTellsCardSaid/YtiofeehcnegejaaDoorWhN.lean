/- Whole numbers: Of, of small ints. -/
import Derived.Test.YtiofeehcnegejaaDoorWhM
namespace Go.Proofs.YtiofeehcnegejaaDoor
open Go.RowKit Go.Proofs.YtiofeehcnegejaaDoorW.PrintWords
set_option linter.unusedVariables false
set_option linter.unusedSimpArgs false

theorem reads_two (W : World) (a b : Int) : ReadsInt (W.alloc (.cells #[.int .u32 a, .int .u32 b] 62)) .u32 (some ⟨W.heap.size, 0, none⟩) 2 [a, b] :=
  ⟨rfl, by omega, fun _ => ⟨_, rfl, fun j hj => by
    rw [add_plain, blk_cell (blk_new W (.cells #[.int .u32 a, .int .u32 b] 62)) j]
    match j, hj with
    | 0, _ => rfl
    | 1, _ => rfl⟩⟩
set_option maxRecDepth 100000 in
set_option maxHeartbeats 800000 in
theorem Of_any (v : Int) (w : World) (h0 : -9223372036854775808 ≤ v) (h1 : v ≤ 9223372036854775807) :
    Calls Tryd.prog 33 #[.int .i64 v] w fun e w' => ∃ s A' n' c', e = .returned (.agg #[.bool s, .slice A' n' c']) ∧ FormIs w' s A' n' c' v ∧ Below w.heap.size w w' := by
  by_cases hv : v < 0
  · have u0 : 0 ≤ -v := by omega
    have hU : IntKind.u64.wrap (-IntKind.u64.wrap v) = -v := by rw [IntKind.wrap_u64, IntKind.wrap_u64]; omega
    have hwd : Dv.Wd [-v % 4294967296, -v / 4294967296] := fun x hx => by
      simp at hx
      rcases hx with rfl | rfl <;> omega
    have hval : vI true [-v % 4294967296, -v / 4294967296] = v := by simp [vI, Dv.valW]; omega
    obtain ⟨W1, hW1⟩ : ∃ W1, W1 = w.alloc (.cells #[.bool false, .slice none 0 0] 24) := ⟨_, rfl⟩
    have hs1 : W1.heap.size = w.heap.size + 1 := by rw [hW1]; simp
    have k1 : W1.heap[w.heap.size]? = some (.cells #[.bool false, .slice none 0 0] 24 (0, 0)) := by rw [hW1]; exact blk_new _ _
    obtain ⟨W2, hW2⟩ : ∃ W2, W2 = W1.alloc (.cells #[.int .u32 (-v % 4294967296), .int .u32 (-v / 4294967296)] 62) := ⟨_, rfl⟩
    have hb1 : Below w.heap.size w W1 := by rw [hW1]; exact below_alloc (Below.refl _ _) _
    have hb2 : Below W1.heap.size W1 W2 := by rw [hW2]; exact below_alloc (Below.refl _ _) _
    have hrd := reads_two W1 (-v % 4294967296) (-v / 4294967296)
    rw [← hW2, hs1] at hrd
    have hform := form_any true (some ⟨w.heap.size + 1, 0, none⟩) 2 2 _ W2 hrd (by omega) (by omega)
    rw [hW2, hW1] at hform
    have Hform := Lib.hid hform; have Hwd := Lib.hid hwd; have Hval := Lib.hid hval; have Hrd := Lib.hid hrd; have K2 := Lib.hid (blk_below k1 hb2); have HB2 := Lib.hid (below_then hb1 hb1.size hb2); have HW := Lib.hid (show W2 = (w.alloc (.cells #[.bool false, .slice none 0 0] 24)).alloc (.cells #[.int .u32 (-v % 4294967296), .int .u32 (-v / 4294967296)] 62) by rw [hW2, hW1])
    clear hform hwd hval hrd k1 hb1 hb2 hs1 hW2 hW1
    go_enter Tryd.func33, Tryd.ntmps33
    go_wp2_with (go_at_call 46; refine Hform.out.mono ?_; rintro e W3 ⟨A3, c3, rfl, hle3, hor3, hb3⟩; rw [← HW.out] at hb3; have kr3 := blk_below K2.out hb3; have r0 := blk_cell kr3 0; have r1 := blk_cell kr3 1; have f0 := blk_frozen kr3 0; have f1 := blk_frozen kr3 1; have Kr3 := Lib.hid kr3; have HB3 := Lib.hid (below_then HB2.out HB2.out.size hb3); have Hle3 := Lib.hid hle3; have Hor3 := Lib.hid hor3; have Hb3 := Lib.hid hb3; clear kr3 hle3 hor3 hb3)
    have hrd3 := form_reads (zs := [-v % 4294967296, -v / 4294967296]) (A' := A3) (c' := c3) (Hrd.out.below Hb3.out) (Hor3.out.imp id (fun h => ⟨h.1, h.2.1⟩))
    have hfi := form_is (neg := true) Hwd.out Hle3.out hrd3
    rw [Hval.out] at hfi
    have hf3 : ∀ ad, A3 = some ad → ad.block ≠ w.heap.size := fun ad e => by
      rcases Hor3.out with ⟨h, _⟩ | ⟨h, _⟩
      · rw [h] at e; cases e
      · rw [h] at e; injection e with e; subst e; simp
    generalize trimLen [-v % 4294967296, -v / 4294967296] = t3 at *
    refine bodyPost_ret (results_cell_row rfl _ _ w.heap.size 24 #[.bool (true && decide (0 < t3)), .slice A3 t3 c3] (0, 0) _ rfl (blk_put (cs := #[.bool (true && decide (0 < t3)), .slice none 0 0]) (blk_put (cs := #[.bool false, .slice none 0 0]) Kr3.out 0 _ (by simp)) 1 _ (by simp)) Tryd.underlying24 rfl (by kernel_rfl)) rfl ?_
    exact ⟨_, A3, t3, c3, rfl, (hfi.set_ (p := ⟨w.heap.size, 0, none⟩) hf3 _).set_ (p := ⟨w.heap.size, 1, none⟩) hf3 _, (HB3.out.setCell (p := ⟨w.heap.size, 0, none⟩) (Nat.le_refl _) _).setCell (p := ⟨w.heap.size, 1, none⟩) (Nat.le_refl _) _⟩
  · have hv2 : 0 ≤ v := by omega
    have hwd : Dv.Wd [v % 4294967296, v / 4294967296] := fun x hx => by
      simp at hx
      rcases hx with rfl | rfl <;> omega
    have hval : vI false [v % 4294967296, v / 4294967296] = v := by simp [vI, Dv.valW]; omega
    obtain ⟨W1, hW1⟩ : ∃ W1, W1 = w.alloc (.cells #[.bool false, .slice none 0 0] 24) := ⟨_, rfl⟩
    have hs1 : W1.heap.size = w.heap.size + 1 := by rw [hW1]; simp
    have k1 : W1.heap[w.heap.size]? = some (.cells #[.bool false, .slice none 0 0] 24 (0, 0)) := by rw [hW1]; exact blk_new _ _
    obtain ⟨W2, hW2⟩ : ∃ W2, W2 = W1.alloc (.cells #[.int .u32 (v % 4294967296), .int .u32 (v / 4294967296)] 62) := ⟨_, rfl⟩
    have hb1 : Below w.heap.size w W1 := by rw [hW1]; exact below_alloc (Below.refl _ _) _
    have hb2 : Below W1.heap.size W1 W2 := by rw [hW2]; exact below_alloc (Below.refl _ _) _
    have hrd := reads_two W1 (v % 4294967296) (v / 4294967296)
    rw [← hW2, hs1] at hrd
    have hform := form_any false (some ⟨w.heap.size + 1, 0, none⟩) 2 2 _ W2 hrd (by omega) (by omega)
    rw [hW2, hW1] at hform
    have Hform := Lib.hid hform; have Hwd := Lib.hid hwd; have Hval := Lib.hid hval; have Hrd := Lib.hid hrd; have K2 := Lib.hid (blk_below k1 hb2); have HB2 := Lib.hid (below_then hb1 hb1.size hb2); have HW := Lib.hid (show W2 = (w.alloc (.cells #[.bool false, .slice none 0 0] 24)).alloc (.cells #[.int .u32 (v % 4294967296), .int .u32 (v / 4294967296)] 62) by rw [hW2, hW1])
    clear hform hwd hval hrd k1 hb1 hb2 hs1 hW2 hW1
    go_enter Tryd.func33, Tryd.ntmps33
    go_wp2_with (go_at_call 46; refine Hform.out.mono ?_; rintro e W3 ⟨A3, c3, rfl, hle3, hor3, hb3⟩; rw [← HW.out] at hb3; have kr3 := blk_below K2.out hb3; have r0 := blk_cell kr3 0; have r1 := blk_cell kr3 1; have f0 := blk_frozen kr3 0; have f1 := blk_frozen kr3 1; have Kr3 := Lib.hid kr3; have HB3 := Lib.hid (below_then HB2.out HB2.out.size hb3); have Hle3 := Lib.hid hle3; have Hor3 := Lib.hid hor3; have Hb3 := Lib.hid hb3; clear kr3 hle3 hor3 hb3)
    have hrd3 := form_reads (zs := [v % 4294967296, v / 4294967296]) (A' := A3) (c' := c3) (Hrd.out.below Hb3.out) (Hor3.out.imp id (fun h => ⟨h.1, h.2.1⟩))
    have hfi := form_is (neg := false) Hwd.out Hle3.out hrd3
    rw [Hval.out] at hfi
    have hf3 : ∀ ad, A3 = some ad → ad.block ≠ w.heap.size := fun ad e => by
      rcases Hor3.out with ⟨h, _⟩ | ⟨h, _⟩
      · rw [h] at e; cases e
      · rw [h] at e; injection e with e; subst e; simp
    generalize trimLen [v % 4294967296, v / 4294967296] = t3 at *
    refine bodyPost_ret (results_cell_row rfl _ _ w.heap.size 24 #[.bool (false && decide (0 < t3)), .slice A3 t3 c3] (0, 0) _ rfl (blk_put (cs := #[.bool (false && decide (0 < t3)), .slice none 0 0]) (blk_put (cs := #[.bool false, .slice none 0 0]) Kr3.out 0 _ (by simp)) 1 _ (by simp)) Tryd.underlying24 rfl (by kernel_rfl)) rfl ?_
    exact ⟨_, A3, t3, c3, rfl, (hfi.set_ (p := ⟨w.heap.size, 0, none⟩) hf3 _).set_ (p := ⟨w.heap.size, 1, none⟩) hf3 _, (HB3.out.setCell (p := ⟨w.heap.size, 0, none⟩) (Nat.le_refl _) _).setCell (p := ⟨w.heap.size, 1, none⟩) (Nat.le_refl _) _⟩
end Go.Proofs.YtiofeehcnegejaaDoor
