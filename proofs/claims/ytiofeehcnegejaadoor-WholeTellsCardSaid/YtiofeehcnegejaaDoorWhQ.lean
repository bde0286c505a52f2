/- Whole numbers: the signs of a piece. -/
import Derived.Test.YtiofeehcnegejaaDoorWhP
namespace Go.Proofs.YtiofeehcnegejaaDoor
open Go.RowKit Go.Proofs.YtiofeehcnegejaaDoorW.PrintWords
set_option linter.unusedVariables false

/-- The digit of a piece at place j, as a sign. -/
def dgt (n : Int) (j : Nat) : Int := 48 + n / 10 ^ (8 - j) % 10
/-- The cell j of the signs when k of them are laid, the last first. -/
def dgc (n : Int) (k j : Nat) : Value := .int .u8 (if 9 ≤ k + j then dgt n j else 0)
def dgs (n : Int) (k : Nat) : Array Value := #[dgc n k 0, dgc n k 1, dgc n k 2, dgc n k 3, dgc n k 4, dgc n k 5, dgc n k 6, dgc n k 7, dgc n k 8]
theorem dgs_step (n : Int) (k : Nat) (h : k < 9) : (dgs n k).setIfInBounds (8 - k) (.int .u8 (dgt n (8 - k))) = dgs n (k + 1) := by
  rcases (by omega : k = 0 ∨ k = 1 ∨ k = 2 ∨ k = 3 ∨ k = 4 ∨ k = 5 ∨ k = 6 ∨ k = 7 ∨ k = 8) with rfl | rfl | rfl | rfl | rfl | rfl | rfl | rfl | rfl <;> simp [dgs, dgc, Array.setIfInBounds]
theorem dgs_zero (n : Int) : dgs n 0 = #[.int .u8 0, .int .u8 0, .int .u8 0, .int .u8 0, .int .u8 0, .int .u8 0, .int .u8 0, .int .u8 0, .int .u8 0] := by simp [dgs, dgc]
theorem dgs_size (n : Int) (k : Nat) : (dgs n k).size = 9 := rfl
set_option maxRecDepth 100000 in
set_option maxHeartbeats 1000000 in
theorem digits_any (n : Int) (w : World) (n0 : 0 ≤ n) (n1 : n < 4294967296) : Calls Tryd.prog 57 #[.int .u32 n] w fun e w' => e = .returned (.agg (dgs n 9)) ∧ Below w.heap.size w w' := by
  have hz := dgs_zero n
  have hk0 : ((w.alloc (.cells (dgs n 0) 76)).alloc (.cells (dgs n 0) 76)).heap[w.heap.size]? = some (.cells (dgs n 0) 76 (0, 0)) := (below_alloc (Below.refl (w.alloc (.cells (dgs n 0) 76)).heap.size _) _).block _ (by simp) |>.trans (blk_new w _)
  have hk1 : ((w.alloc (.cells (dgs n 0) 76)).alloc (.cells (dgs n 0) 76)).heap[w.heap.size + 1]? = some (.cells (dgs n 0) 76 (0, 0)) := by
    have h := blk_new (w.alloc (.cells (dgs n 0) 76)) (.cells (dgs n 0) 76)
    rw [World.size_alloc] at h; exact h
  have hb0 : Below w.heap.size w ((w.alloc (.cells (dgs n 0) 76)).alloc (.cells (dgs n 0) 76)) := below_alloc (below_alloc (Below.refl _ _) _) _
  rw [hz] at hk0 hk1 hb0
  have Hz := Lib.hid hz; have Hk0 := Lib.hid hk0; have Hk1 := Lib.hid hk1; have Hb0 := Lib.hid hb0
  clear hz hk0 hk1 hb0
  go_enter Tryd.func57, Tryd.ntmps57
  go_wp2
  go_loopw [0, 5] (fun nv iv wr => ∃ k : Nat, k ≤ 9 ∧ nv = .int .u32 (n / 10 ^ k) ∧ iv = .int .i64 k ∧ Hid (wr.heap[w.heap.size]? = some (.cells #[.int .u8 0, .int .u8 0, .int .u8 0, .int .u8 0, .int .u8 0, .int .u8 0, .int .u8 0, .int .u8 0, .int .u8 0] 76 (0, 0))) ∧ Hid (wr.heap[w.heap.size + 1]? = some (.cells (dgs n k) 76 (0, 0))) ∧ Hid (Below w.heap.size w wr)) (fun _ iv _ => 9 - (intOf iv).toNat)
  case atStart => exact ⟨0, by omega, by simp, rfl, Hk0, Lib.hid (by rw [Hz.out]; exact Hk1.out), Hb0⟩
  case round =>
    obtain ⟨k, hk, rfl, rfl, HA, HD, HB⟩ := hrel
    clear Hk0 Hk1 Hb0 Hz
    by_cases hlt : k < 9
    · have hp : (0 : Int) < 10 ^ k := Int.pow_pos (by omega)
      have hd0 : 0 ≤ n / 10 ^ k := Int.ediv_nonneg n0 (by omega)
      have hd1 : n / 10 ^ k < 4294967296 := Int.lt_of_le_of_lt (Int.ediv_le_self _ n0) n1
      have hnx : n / 10 ^ k / 10 = n / 10 ^ (k + 1) := by rw [Int.pow_succ, Int.ediv_ediv_of_nonneg (by omega)]
      have hdg : 48 + n / 10 ^ k % 10 = dgt n (8 - k) := by unfold dgt; rw [show 8 - (8 - k) = k by omega]
      have hst := dgs_step n k hlt
      have hfz := blk_frozen HD.out (8 - k)
      have hcl : wr.cell? ⟨w.heap.size + 1, 8 - k, none⟩ = some (dgc n k (8 - k)) := by
        rw [blk_cell HD.out]
        rcases (by omega : k = 0 ∨ k = 1 ∨ k = 2 ∨ k = 3 ∨ k = 4 ∨ k = 5 ∨ k = 6 ∨ k = 7 ∨ k = 8) with rfl | rfl | rfl | rfl | rfl | rfl | rfl | rfl | rfl <;> rfl
      obtain ⟨x, hx⟩ : ∃ x, x = n / 10 ^ k := ⟨_, rfl⟩
      rw [← hx] at hnx hdg hd0 hd1
      rw [← hx]
      have Hnx := Lib.hid hnx; have Hdg := Lib.hid hdg; have Hst := Lib.hid hst
      clear hnx hdg hst hx hp
      go_wp2
      go_roundw
      case rel => exact ⟨k + 1, by omega, by rw [← Hnx.out], by go_num, Lib.hid (blk_far HA.out (by simp) _), Lib.hid (by rw [Hdg.out]; exact blk_put HD.out _ _ Hst.out), Lib.hid (HB.out.setCell (p := ⟨w.heap.size + 1, 8 - k, none⟩) (by simp) _)⟩
      case measure => simp [intOf]; omega
    · have hk9 : k = 9 := by omega
      subst hk9
      clear hk hlt
      have c0 : wr.cell? ⟨w.heap.size + 1, 0, none⟩ = some (.int .u8 (dgt n 0)) := (blk_cell HD.out 0).trans (by simp [dgs, dgc]); have r0 := blk_cell HA.out 0; have f0 := blk_frozen HA.out 0
      have c1 : wr.cell? ⟨w.heap.size + 1, 1, none⟩ = some (.int .u8 (dgt n 1)) := (blk_cell HD.out 1).trans (by simp [dgs, dgc]); have r1 := blk_cell HA.out 1; have f1 := blk_frozen HA.out 1
      have c2 : wr.cell? ⟨w.heap.size + 1, 2, none⟩ = some (.int .u8 (dgt n 2)) := (blk_cell HD.out 2).trans (by simp [dgs, dgc]); have r2 := blk_cell HA.out 2; have f2 := blk_frozen HA.out 2
      have c3 : wr.cell? ⟨w.heap.size + 1, 3, none⟩ = some (.int .u8 (dgt n 3)) := (blk_cell HD.out 3).trans (by simp [dgs, dgc]); have r3 := blk_cell HA.out 3; have f3 := blk_frozen HA.out 3
      have c4 : wr.cell? ⟨w.heap.size + 1, 4, none⟩ = some (.int .u8 (dgt n 4)) := (blk_cell HD.out 4).trans (by simp [dgs, dgc]); have r4 := blk_cell HA.out 4; have f4 := blk_frozen HA.out 4
      have c5 : wr.cell? ⟨w.heap.size + 1, 5, none⟩ = some (.int .u8 (dgt n 5)) := (blk_cell HD.out 5).trans (by simp [dgs, dgc]); have r5 := blk_cell HA.out 5; have f5 := blk_frozen HA.out 5
      have c6 : wr.cell? ⟨w.heap.size + 1, 6, none⟩ = some (.int .u8 (dgt n 6)) := (blk_cell HD.out 6).trans (by simp [dgs, dgc]); have r6 := blk_cell HA.out 6; have f6 := blk_frozen HA.out 6
      have c7 : wr.cell? ⟨w.heap.size + 1, 7, none⟩ = some (.int .u8 (dgt n 7)) := (blk_cell HD.out 7).trans (by simp [dgs, dgc]); have r7 := blk_cell HA.out 7; have f7 := blk_frozen HA.out 7
      have c8 : wr.cell? ⟨w.heap.size + 1, 8, none⟩ = some (.int .u8 (dgt n 8)) := (blk_cell HD.out 8).trans (by simp [dgs, dgc]); have r8 := blk_cell HA.out 8; have f8 := blk_frozen HA.out 8
      go_wp2
      refine bodyPost_ret (results_cell_row rfl _ _ w.heap.size 76 (dgs n 9) (0, 0) _ rfl (blk_put (blk_set (blk_set (blk_set (blk_set (blk_set (blk_set (blk_set (blk_set HA.out 0 _) 1 _) 2 _) 3 _) 4 _) 5 _) 6 _) 7 _) 8 _ (by simp [dgs, dgc])) Tryd.underlying76 rfl (by kernel_rfl)) rfl ?_
      exact ⟨rfl, (((((((((HB.out.setCell (p := ⟨w.heap.size, 0, none⟩) (Nat.le_refl _) _).setCell (p := ⟨w.heap.size, 1, none⟩) (Nat.le_refl _) _).setCell (p := ⟨w.heap.size, 2, none⟩) (Nat.le_refl _) _).setCell (p := ⟨w.heap.size, 3, none⟩) (Nat.le_refl _) _).setCell (p := ⟨w.heap.size, 4, none⟩) (Nat.le_refl _) _).setCell (p := ⟨w.heap.size, 5, none⟩) (Nat.le_refl _) _).setCell (p := ⟨w.heap.size, 6, none⟩) (Nat.le_refl _) _).setCell (p := ⟨w.heap.size, 7, none⟩) (Nat.le_refl _) _).setCell (p := ⟨w.heap.size, 8, none⟩) (Nat.le_refl _) _)⟩
end Go.Proofs.YtiofeehcnegejaaDoor
