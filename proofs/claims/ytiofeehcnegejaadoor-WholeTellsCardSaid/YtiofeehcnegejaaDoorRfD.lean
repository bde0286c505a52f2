/- The walks of the document's own made, Form, Negate, Small, Rest and Whole. -/
import Derived.Test.YtiofeehcnegejaaDoorRfC
namespace Go.Proofs.YtiofeehcnegejaaDoor
open Go.RowKit Go.Proofs.YtiofeehcnegejaaDoorW.PrintWords
set_option linter.unusedVariables false

theorem blk_new1 (w : World) (o o' : Obj) : ((w.alloc o).alloc o').heap[w.heap.size + 1]? = some o' := by
  have h := blk_new (w.alloc o) o'
  rw [World.size_alloc] at h
  exact h
theorem Own32.slice {W : World} {base : Nat} {v : Value} {xs : List Int} (h : Own32 W base v xs) : ∃ A c, v = .slice A xs.length c ∧ xs.length ≤ c ∧ ReadsInt W .u32 A xs.length xs := by
  obtain ⟨A, c, rfl, hr⟩ := own_reads h
  exact ⟨A, c, rfl, own_le h, hr⟩
theorem Own32.below {W W1 : World} {base : Nat} {v : Value} {xs : List Int} (h : Own32 W base v xs) (hb : Below W.heap.size W W1) : Own32 W1 base v xs := pw_own_below h hb
theorem Own32.lower {W : World} {base base' : Nat} {v : Value} {xs : List Int} (h : Own32 W base v xs) (hb : base' ≤ base) : Own32 W base' v xs := own_weaken h hb

set_option maxHeartbeats 400000 in
set_option maxRecDepth 100000 in
theorem refMade_any (neg : Bool) (A : Option Addr) (n c : Nat) (xs : List Int) (w : World) (hr : ReadsInt w .u32 A n xs) (hc : n ≤ c) (hn : n * 4 ≤ 140737488355328) :
    Calls Tryd.prog 52 #[.bool neg, .slice A n c] w fun e w' => ∃ v, e = .returned (.agg #[.bool (neg && decide (0 < trimLen xs)), v]) ∧ Own32 w' w.heap.size v (xs.take (trimLen xs)) ∧ Below w.heap.size w w' := by
  have hlt : (xs.take (trimLen xs)).length = trimLen xs := by rw [List.length_take]; have := trimLen_le xs; omega
  have Hlt := Lib.hid hlt; clear hlt
  have Hr := Lib.hid hr; clear hr
  cases neg
  all_goals
    go_enter Tryd.func52, Tryd.ntmps52
    go_wp2_with (go_at_call 49; refine (refTrim_any A n c xs _ (Hr.out.below ((Below.refl _ w).alloc (Nat.le_refl _) _)) hc hn).mono ?_; rintro e w' ⟨v, rfl, hown, hb⟩; obtain ⟨A', c', rfl, hc', hr'⟩ := hown.slice; rw [Hlt.out]; have Hown := Lib.hid hown; clear hown; have hb0 := (hb.block w.heap.size (by simp)).trans (blk_new w (.cells #[Value.bool false, Value.slice none 0 0] 24)); have Hb0 := Lib.hid hb0; have k0 := blk_cell hb0 0; have k1 := blk_cell hb0 1; have f0 := blk_frozen hb0 0; have f1 := blk_frozen hb0 1; have hz := blk_lt hb0; clear hb0)
    have hcs : Own32 w' w.heap.size (.slice A' (trimLen xs) c') (xs.take (trimLen xs)) := by have := Hown.out; rw [Hlt.out] at this; exact this.lower (by simp)
    have hne : some w.heap.size ≠ (Value.slice A' (trimLen xs) c').ownBlock := own_ne hcs Hb0.out (by decide)
    have hB : Below w.heap.size w w' := ((Below.refl _ w).alloc (Nat.le_refl _) _).trans (hb.mono (by simp))
  · refine bodyPost_ret (results_cell_row rfl _ _ w.heap.size 24 #[.bool false, .slice A' (trimLen xs) c'] (0, 0) _ rfl (blk_put (cs := #[.bool false, .slice none 0 0]) (blk_put (cs := #[.bool false, .slice none 0 0]) Hb0.out 0 _ rfl) 1 _ rfl) Tryd.underlying24 rfl (by kernel_rfl)) rfl ?_
    exact ⟨_, rfl, by unfold Own32; rw [Hlt.out]; have := hcs; unfold Own32 at this; rw [Hlt.out] at this; exact own_setCell (own_setCell this hne _) hne _, (hB.setCell (p := ⟨w.heap.size, 0, none⟩) (Nat.le_refl _) _).setCell (p := ⟨w.heap.size, 1, none⟩) (Nat.le_refl _) _⟩
  · refine bodyPost_ret (results_cell_row rfl _ _ w.heap.size 24 #[.bool (decide (0 < trimLen xs)), .slice A' (trimLen xs) c'] (0, 0) _ rfl (blk_put (cs := #[.bool (decide (0 < trimLen xs)), .slice none 0 0]) (blk_put (cs := #[.bool false, .slice none 0 0]) Hb0.out 0 _ rfl) 1 _ rfl) Tryd.underlying24 rfl (by kernel_rfl)) rfl ?_
    exact ⟨_, rfl, by unfold Own32; rw [Hlt.out]; have := hcs; unfold Own32 at this; rw [Hlt.out] at this; exact own_setCell (own_setCell this hne _) hne _, (hB.setCell (p := ⟨w.heap.size, 0, none⟩) (Nat.le_refl _) _).setCell (p := ⟨w.heap.size, 1, none⟩) (Nat.le_refl _) _⟩
end Go.Proofs.YtiofeehcnegejaaDoor
namespace Go.Proofs.YtiofeehcnegejaaDoor
open Go.RowKit Go.Proofs.YtiofeehcnegejaaDoorW.PrintWords
set_option linter.unusedVariables false

set_option maxHeartbeats 400000 in
set_option maxRecDepth 100000 in
theorem refForm_any (neg : Bool) (A : Option Addr) (n c : Nat) (xs : List Int) (w : World) (hr : ReadsInt w .u32 A n xs) (hc : n ≤ c) (hn : n * 4 ≤ 140737488355328) :
    Calls Tryd.prog 37 #[.agg #[.bool neg, .slice A n c]] w fun e w' => ∃ v, e = .returned (.agg #[.bool (neg && decide (0 < trimLen xs)), v]) ∧ Own32 w' w.heap.size v (xs.take (trimLen xs)) ∧ Below w.heap.size w w' := by
  have hlt : (xs.take (trimLen xs)).length = trimLen xs := by rw [List.length_take]; have := trimLen_le xs; omega
  have Hlt := Lib.hid hlt; clear hlt
  have Hr := Lib.hid hr; clear hr
  obtain ⟨R, hR⟩ : ∃ R, (neg && decide (0 < trimLen xs)) = R := ⟨_, rfl⟩
  have hmade := fun w hr => refMade_any neg A n c xs w hr hc hn
  rw [hR] at hmade ⊢
  clear hR
  have Hmade := Lib.hid hmade; clear hmade
  go_enter Tryd.func37, Tryd.ntmps37
  go_wp2_with (go_at_call 52; refine (Hmade.out _ (Hr.out.below (((Below.refl _ w).alloc (Nat.le_refl _) _).alloc (by simp) _))).mono ?_; rintro e w' ⟨v, rfl, hown, hb⟩; obtain ⟨A', c', rfl, hc', hr'⟩ := hown.slice; rw [Hlt.out]; have Hown := Lib.hid hown; clear hown; have hb0 := (hb.block (w.heap.size + 1) (by simp)).trans (blk_new1 w (.cells #[.bool neg, .slice A n c] 24) (.cells #[Value.bool false, Value.slice none 0 0] 24)); have Hb0 := Lib.hid hb0; have k0 := blk_cell hb0 0; have k1 := blk_cell hb0 1; have f0 := blk_frozen hb0 0; have f1 := blk_frozen hb0 1; have hz := blk_lt hb0; clear hb0)
  have hcs : Own32 w' w.heap.size (.slice A' (trimLen xs) c') (xs.take (trimLen xs)) := by have := Hown.out; rw [Hlt.out] at this; exact this.lower (by simp; omega)
  have hne : some (w.heap.size + 1) ≠ (Value.slice A' (trimLen xs) c').ownBlock := own_ne hcs Hb0.out (by decide)
  have hB : Below w.heap.size w w' := (((Below.refl _ w).alloc (Nat.le_refl _) _).alloc (by simp) _).trans (hb.mono (by simp; omega))
  refine bodyPost_ret (results_cell_row rfl _ _ (w.heap.size + 1) 24 #[.bool R, .slice A' (trimLen xs) c'] (0, 0) _ rfl (blk_put (cs := #[.bool R, .slice none 0 0]) (blk_put (cs := #[.bool false, .slice none 0 0]) Hb0.out 0 _ rfl) 1 _ rfl) Tryd.underlying24 rfl (by kernel_rfl)) rfl ?_
  exact ⟨_, rfl, by unfold Own32; rw [Hlt.out]; have := hcs; unfold Own32 at this; rw [Hlt.out] at this; exact own_setCell (own_setCell this hne _) hne _, (hB.setCell (p := ⟨w.heap.size + 1, 0, none⟩) (by simp) _).setCell (p := ⟨w.heap.size + 1, 1, none⟩) (by simp) _⟩

set_option maxHeartbeats 400000 in
set_option maxRecDepth 100000 in
theorem refNegate_any (neg : Bool) (A : Option Addr) (n c : Nat) (xs : List Int) (w : World) (hr : ReadsInt w .u32 A n xs) (hc : n ≤ c) (hn : n * 4 ≤ 140737488355328) :
    Calls Tryd.prog 29 #[.agg #[.bool neg, .slice A n c]] w fun e w' => ∃ v, e = .returned (.agg #[.bool ((!neg) && decide (0 < trimLen xs)), v]) ∧ Own32 w' w.heap.size v (xs.take (trimLen xs)) ∧ Below w.heap.size w w' := by
  have hlt : (xs.take (trimLen xs)).length = trimLen xs := by rw [List.length_take]; have := trimLen_le xs; omega
  have Hlt := Lib.hid hlt; clear hlt
  have Hr := Lib.hid hr; clear hr
  obtain ⟨R, hR⟩ : ∃ R, ((!neg) && decide (0 < trimLen xs)) = R := ⟨_, rfl⟩
  have hmade := fun w hr => refMade_any (!neg) A n c xs w hr hc hn
  rw [hR] at hmade ⊢
  clear hR
  have Hmade := Lib.hid hmade; clear hmade
  go_enter Tryd.func29, Tryd.ntmps29
  go_wp2_with (go_at_call 52; refine (Hmade.out _ (Hr.out.below (((Below.refl _ w).alloc (Nat.le_refl _) _).alloc (by simp) _))).mono ?_; rintro e w' ⟨v, rfl, hown, hb⟩; obtain ⟨A', c', rfl, hc', hr'⟩ := hown.slice; rw [Hlt.out]; have Hown := Lib.hid hown; clear hown; have hb0 := (hb.block (w.heap.size + 1) (by simp)).trans (blk_new1 w (.cells #[.bool neg, .slice A n c] 24) (.cells #[Value.bool false, Value.slice none 0 0] 24)); have Hb0 := Lib.hid hb0; have k0 := blk_cell hb0 0; have k1 := blk_cell hb0 1; have f0 := blk_frozen hb0 0; have f1 := blk_frozen hb0 1; have hz := blk_lt hb0; clear hb0)
  have hcs : Own32 w' w.heap.size (.slice A' (trimLen xs) c') (xs.take (trimLen xs)) := by have := Hown.out; rw [Hlt.out] at this; exact this.lower (by simp; omega)
  have hne : some (w.heap.size + 1) ≠ (Value.slice A' (trimLen xs) c').ownBlock := own_ne hcs Hb0.out (by decide)
  have hB : Below w.heap.size w w' := (((Below.refl _ w).alloc (Nat.le_refl _) _).alloc (by simp) _).trans (hb.mono (by simp; omega))
  refine bodyPost_ret (results_cell_row rfl _ _ (w.heap.size + 1) 24 #[.bool R, .slice A' (trimLen xs) c'] (0, 0) _ rfl (blk_put (cs := #[.bool R, .slice none 0 0]) (blk_put (cs := #[.bool false, .slice none 0 0]) Hb0.out 0 _ rfl) 1 _ rfl) Tryd.underlying24 rfl (by kernel_rfl)) rfl ?_
  exact ⟨_, rfl, by unfold Own32; rw [Hlt.out]; have := hcs; unfold Own32 at this; rw [Hlt.out] at this; exact own_setCell (own_setCell this hne _) hne _, (hB.setCell (p := ⟨w.heap.size + 1, 0, none⟩) (by simp) _).setCell (p := ⟨w.heap.size + 1, 1, none⟩) (by simp) _⟩
end Go.Proofs.YtiofeehcnegejaaDoor
