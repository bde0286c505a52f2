/- Plans: Tick and Count. -/
import Derived.Test.YtgchgkffoplogaaKa
import Derived.Maps.OwnSet
namespace Go.Proofs.Ytgchgkffoplogaa
open Go.RowKit Go.Maps Go.Proofs.YtgchgkffoplogaaW.PrintWords
set_option linter.unusedVariables false
set_option linter.unusedSimpArgs false

theorem law3 : Keyed Try.prog 3 := int_keyed Try.underlying3
theorem zero3m (w : World) : (zeroValue 3).run Try.prog w = .ok (.int .i64 0) w := by kernel_rfl
/-- How often a number stands in a list. -/
def tally (y : Int) (l : List Int) : Nat := l.countP (· == y)
/-- The map counts a list. -/
def Counts (D : DataW Unit) (l : List Int) : Prop := ∀ y : Int, D.atKey (.int .i64 y) (.lit (.int .i64 0)) = .lit (.int .i64 (tally y l))
/-- A plan: its map, its count. -/
structure PlanAt (W : World) (p b n : Nat) (D : DataW Unit) (c : Int) : Prop where
  blk : W.heap[p]? = some (.cells #[.map (some b), .int .i64 c] 67 (0, 0))
  map : W.ownsMap Try.prog 3 (plainElem Try.prog 3) b n D
theorem map_move {W W' : World} {b n : Nat} {D : DataW Unit} (h : W.ownsMap Try.prog 3 (plainElem Try.prog 3) b n D) (e : W'.heap[b]? = W.heap[b]?) : W'.ownsMap Try.prog 3 (plainElem Try.prog 3) b n D := by
  obtain ⟨es, clock, hb, F, hs, hD⟩ := h
  exact ⟨es, clock, e.trans hb, F, hs, hD⟩
theorem tick_run {W : World} {b n : Nat} {D : DataW Unit} {l : List Int} (h : W.ownsMap Try.prog 3 (plainElem Try.prog 3) b n D) (hc : Counts D l) (y : Int) (hy : (Lit.int .i64 y).wf = true) :
    ∀ q, (Instr.lookup 65 (.map (some b)) (.int .i64 y) false).run Try.prog (W.drewN q) = .ok (.int .i64 (tally y l)) (W.drewN q) := fun q => by
  have h' : (W.drewN q).ownsMap Try.prog 3 (plainElem Try.prog 3) b n D := h
  obtain ⟨c, hrun, hat, _⟩ := h'.lookup_int law3 Try.underlying65 Try.underlying3 (zero3m _) (keyOf_int_mk Try.underlying3 hy)
  rw [hc y] at hat
  injection hat with hat
  injection hat with _ hat
  rw [hrun, ← hat]

set_option maxRecDepth 100000 in
theorem tick_none (w : World) : Calls Try.prog 37 #[.pointer none] w fun e w' => e = .returned (.bool false) ∧ w = w' := by
  go_enter Try.func37, Try.ntmps37
  go_wp2
  go_ret
  exact ⟨rfl, rfl⟩
set_option maxRecDepth 100000 in
theorem count_none (w : World) : Calls Try.prog 38 #[.pointer none] w fun e w' => e = .returned (.int .i64 0) ∧ w = w' := by
  go_enter Try.func38, Try.ntmps38
  go_wp2
  go_ret
  exact ⟨rfl, rfl⟩
set_option maxRecDepth 100000 in
theorem count_at {w : World} {p : Nat} {m : Value} {c : Int} (h : w.heap[p]? = some (.cells #[m, .int .i64 c] 67 (0, 0))) : Calls Try.prog 38 #[.pointer (some ⟨p, 0, none⟩)] w fun e w' => e = .returned (.int .i64 c) ∧ w = w' := by
  have c1 := blk_cell h 1
  go_enter Try.func38, Try.ntmps38
  go_wp2
  go_ret
  exact ⟨rfl, rfl⟩

set_option maxRecDepth 100000 in
set_option maxHeartbeats 800000 in
theorem tick_at {w : World} {p b n : Nat} {D : DataW Unit} {l : List Int} {c : Nat} (h : PlanAt w p b n D c) (hb : b ≠ p) (hc : Counts D l) (hc1 : c ≤ 1000000) :
    Calls Try.prog 37 #[.pointer (some ⟨p, 0, none⟩)] w fun e w' => e = .returned (.bool (decide (0 < tally ((c : Int) + 1) l))) ∧ PlanAt w' p b n D ((c + 1 : Nat) : Int) ∧ Kept (fun k => k = p) w w' := by
  have c0 := blk_cell h.blk 0
  have c1 := blk_cell h.blk 1
  have f1 := blk_frozen h.blk 1
  have hw : (c : Int) + 1 ≤ 9223372036854775807 := by omega
  obtain ⟨t, ht⟩ : ∃ t, t = tally ((c : Int) + 1) l := ⟨_, rfl⟩
  rw [← ht]
  have Ht := Lib.hid ht
  clear ht
  go_enter Try.func37, Try.ntmps37
  go_upto_region 4 with (fail)
  obtain ⟨W1, hW1⟩ : ∃ W1, W1 = w.setCell ⟨p, 1, none⟩ (.int .i64 ((c : Int) + 1)) := ⟨_, rfl⟩
  have hpl : PlanAt W1 p b n D ((c : Int) + 1) := by
    rw [hW1]
    exact ⟨blk_set h.blk 1 _, map_move h.map (Below.heap_setCell _ _ _ _ (fun e => hb e))⟩
  have hk : Kept (fun k => k = p) w W1 := by
    rw [hW1]
    exact ⟨rfl, rfl, rfl, by rw [World.size_setCell]; exact Nat.le_refl _, fun k _ hne => Below.heap_setCell _ _ _ _ (fun e => hne e)⟩
  rw [← hW1]
  clear hW1 c0 c1 f1
  have c0 := blk_cell hpl.blk 0
  have c1 := blk_cell hpl.blk 1
  have hrun := tick_run hpl.map hc ((c : Int) + 1) (WalkArith.wf_i64 (by omega))
  rw [← Ht.out] at hrun
  have Hpl := Lib.hid hpl; have Hk := Lib.hid hk
  clear hc hpl hk h
  go_quiet (fail)
  go_wp2
  go_ret
  exact ⟨rfl, ⟨Hpl.out.blk, map_move Hpl.out.map rfl⟩, Hk.out.trans ⟨rfl, rfl, rfl, Nat.le_refl _, fun _ _ _ => rfl⟩⟩

set_option maxRecDepth 100000 in
set_option maxHeartbeats 800000 in
theorem tick_zero {w : World} {p : Nat} {c : Nat} (h : w.heap[p]? = some (.cells #[.map none, .int .i64 c] 67 (0, 0))) (hc1 : c ≤ 1000000) :
    Calls Try.prog 37 #[.pointer (some ⟨p, 0, none⟩)] w fun e w' => e = .returned (.bool false) ∧ w'.heap[p]? = some (.cells #[.map none, .int .i64 ((c + 1 : Nat) : Int)] 67 (0, 0)) ∧ Kept (fun k => k = p) w w' := by
  have c0 := blk_cell h 0
  have c1 := blk_cell h 1
  have f1 := blk_frozen h 1
  have hw : (c : Int) + 1 ≤ 9223372036854775807 := by omega
  go_enter Try.func37, Try.ntmps37
  go_upto_region 4 with (fail)
  obtain ⟨W1, hW1⟩ : ∃ W1, W1 = w.setCell ⟨p, 1, none⟩ (.int .i64 ((c : Int) + 1)) := ⟨_, rfl⟩
  have hpl : W1.heap[p]? = some (.cells #[.map none, .int .i64 ((c : Int) + 1)] 67 (0, 0)) := by
    rw [hW1]
    exact blk_set h 1 _
  have hk : Kept (fun k => k = p) w W1 := by
    rw [hW1]
    exact ⟨rfl, rfl, rfl, by rw [World.size_setCell]; exact Nat.le_refl _, fun k _ hne => Below.heap_setCell _ _ _ _ (fun e => hne e)⟩
  rw [← hW1]
  clear hW1 c0 c1 f1
  have c0 := blk_cell hpl 0
  have c1 := blk_cell hpl 1
  have hrun : ∀ q, (Instr.lookup 65 (.map none) (.int .i64 ((c : Int) + 1)) false).run Try.prog (W1.drewN q) = .ok (.int .i64 0) (W1.drewN q) := fun q =>
    look_nil (w := W1.drewN q) false law3 Try.underlying65 (zero3m _) (keyOf_int_mk Try.underlying3 (WalkArith.wf_i64 (by omega)))
  have Hpl := Lib.hid hpl; have Hk := Lib.hid hk
  clear hpl hk h
  go_quiet (fail)
  go_wp2
  go_ret
  exact ⟨rfl, Hpl.out, Hk.out.trans ⟨rfl, rfl, rfl, Nat.le_refl _, fun _ _ _ => rfl⟩⟩
end Go.Proofs.Ytgchgkffoplogaa
