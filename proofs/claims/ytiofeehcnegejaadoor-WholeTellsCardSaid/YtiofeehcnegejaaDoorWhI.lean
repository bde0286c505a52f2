/- Whole numbers: fits. -/
import Derived.Test.YtiofeehcnegejaaDoorWhH
namespace Go.Proofs.YtiofeehcnegejaaDoor
open Go.RowKit Go.Proofs.YtiofeehcnegejaaDoorW.PrintWords
set_option linter.unusedVariables false
set_option linter.unusedSimpArgs false

set_option maxRecDepth 100000 in
set_option maxHeartbeats 1600000 in
theorem fits_any (neg : Bool) (A : Option Addr) (n c : Nat) (xs : List Int) (w : World) (hr : ReadsInt w .u32 A n xs) (hc : n ≤ c) (hn : n ≤ 9223372036854775807) :
    Calls Tryd.prog 48 #[.agg #[.bool neg, .slice A n c]] w fun e w' => e = .returned (.tuple #[.agg (if 256 < trimLen xs then #[.bool false, .slice none 0 0] else #[.bool neg, .slice A n c]), .int .i64 (if 256 < trimLen xs then 3 else 0)]) ∧ Below w.heap.size w w' := by
  obtain ⟨W0, hW0⟩ : ∃ W0, W0 = (w.alloc (.cells #[.bool neg, .slice A n c] 24)).alloc (.cells #[.bool false, .slice none 0 0] 24) := ⟨_, rfl⟩
  have hb0 : Below w.heap.size w W0 := by rw [hW0]; exact below_alloc (below_alloc (Below.refl _ _) _) _
  have ka : W0.heap[w.heap.size]? = some (.cells #[.bool neg, .slice A n c] 24 (0, 0)) := by rw [hW0]; exact (below_alloc (Below.refl (w.alloc (.cells #[.bool neg, .slice A n c] 24)).heap.size _) _).block _ (by simp) |>.trans (blk_new w _)
  have kr : W0.heap[w.heap.size + 1]? = some (.cells #[.bool false, .slice none 0 0] 24 (0, 0)) := by
    have h := blk_new (w.alloc (.cells #[.bool neg, .slice A n c] 24)) (.cells #[.bool false, .slice none 0 0] 24)
    rw [World.size_alloc] at h; rw [hW0]; exact h
  have hlong := long_any neg A n c xs W0 (hr.below hb0) hc hn
  obtain ⟨lb, hlb⟩ : ∃ lb, lb = decide (256 < trimLen xs) := ⟨_, rfl⟩
  rw [← hlb] at hlong
  have h1 : (if 256 < trimLen xs then #[Value.bool false, .slice none 0 0] else #[.bool neg, .slice A n c]) = if lb then #[Value.bool false, .slice none 0 0] else #[.bool neg, .slice A n c] := by rw [hlb]; simp
  have h2 : (if 256 < trimLen xs then (3 : Int) else 0) = if lb then 3 else 0 := by rw [hlb]; simp
  rw [h1, h2]
  have a0 := blk_cell ka 0
  have a1 := blk_cell ka 1
  have Hlong := Lib.hid hlong; have HW0 := Lib.hid hW0; have Hb0 := Lib.hid hb0; have Ka := Lib.hid ka; have Kr := Lib.hid kr
  clear hlong hr hlb hW0 hb0 ka kr h1 h2
  cases lb
  · simp only [Bool.false_eq_true, if_false]
    go_enter Tryd.func48, Tryd.ntmps48
    go_upto_region 1 with (fail)
    rw [← HW0.out]
    go_wp2_with (go_at_call 61; refine Hlong.out.mono ?_; rintro e w1 ⟨rfl, hb1⟩; have kr1 := blk_below Kr.out hb1; have ka1 := blk_below Ka.out hb1; have d0 := blk_cell ka1 0; have d1 := blk_cell ka1 1; have r0 := blk_cell kr1 0; have r1 := blk_cell kr1 1; have f0 := blk_frozen kr1 0; have f1 := blk_frozen kr1 1; have Kr1 := Lib.hid kr1; have HB := Lib.hid (below_then Hb0.out Hb0.out.size hb1); clear kr1 ka1 hb1)
    refine bodyPost_ret (results_ct rfl _ _ (w.heap.size + 1) 24 #[.bool neg, .slice A n c] (0, 0) _ rfl (blk_put (cs := #[.bool neg, .slice none 0 0]) (blk_put (cs := #[.bool false, .slice none 0 0]) Kr1.out 0 _ rfl) 1 _ rfl) Tryd.underlying24 rfl (by kernel_rfl)) rfl ?_
    exact ⟨rfl, (HB.out.setCell (p := ⟨w.heap.size + 1, 0, none⟩) (by simp) _).setCell (p := ⟨w.heap.size + 1, 1, none⟩) (by simp) _⟩
  · simp only [if_true]
    go_enter Tryd.func48, Tryd.ntmps48
    go_upto_region 1 with (fail)
    rw [← HW0.out]
    go_wp2_with (go_at_call 61; refine Hlong.out.mono ?_; rintro e w1 ⟨rfl, hb1⟩; have kr1 := blk_below Kr.out hb1; have r0 := blk_cell kr1 0; have r1 := blk_cell kr1 1; have f0 := blk_frozen kr1 0; have f1 := blk_frozen kr1 1; have Kr1 := Lib.hid kr1; have HB := Lib.hid (below_then Hb0.out Hb0.out.size hb1); clear kr1 hb1)
    refine bodyPost_ret (results_ct rfl _ _ (w.heap.size + 1) 24 #[.bool false, .slice none 0 0] (0, 0) _ rfl (blk_put (cs := #[.bool false, .slice none 0 0]) (blk_put (cs := #[.bool false, .slice none 0 0]) Kr1.out 0 _ rfl) 1 _ rfl) Tryd.underlying24 rfl (by kernel_rfl)) rfl ?_
    exact ⟨rfl, (HB.out.setCell (p := ⟨w.heap.size + 1, 0, none⟩) (by simp) _).setCell (p := ⟨w.heap.size + 1, 1, none⟩) (by simp) _⟩
end Go.Proofs.YtiofeehcnegejaaDoor
