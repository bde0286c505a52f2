/- Whole numbers: copied, Negate. -/
import Derived.Test.YtiofeehcnegejaaDoorWhK
namespace Go.Proofs.YtiofeehcnegejaaDoor
open Go.RowKit Go.Proofs.YtiofeehcnegejaaDoorW.PrintWords
set_option linter.unusedVariables false
set_option linter.unusedSimpArgs false

/-- A number in its form, as it can be read. -/
def FormIs (W : World) (s : Bool) (A : Option Addr) (n c : Nat) (V : Int) : Prop := ∃ zs : List Int, n = zs.length ∧ n ≤ c ∧ ReadsInt W .u32 A n zs ∧ Dv.Wd zs ∧ trimLen zs = n ∧ (s = true → 0 < n) ∧ vI s zs = V
theorem FormIs.set_ {W : World} {s : Bool} {A : Option Addr} {n c : Nat} {V : Int} (h : FormIs W s A n c V) {p : Addr} (hp : ∀ ad, A = some ad → ad.block ≠ p.block) (v : Value) : FormIs (W.setCell p v) s A n c V := by
  obtain ⟨zs, h4, h5, h7, h8⟩ := h
  refine ⟨zs, h4, h5, ⟨h7.1, h7.2.1, fun hz => ?_⟩, h8⟩
  obtain ⟨ad, e, hc⟩ := h7.2.2 hz
  refine ⟨ad, e, fun j hj => ?_⟩
  have hbe : (ad.add j).block = ad.block := by unfold Addr.add; split <;> rfl
  rw [← hc j hj]
  exact World.cell?_of_block (Below.heap_setCell _ _ _ _ (by rw [hbe]; exact hp ad e))
theorem form_is {W : World} {neg : Bool} {A1 : Option Addr} {c1 : Nat} {zs : List Int} (hw : Dv.Wd zs) (hc : trimLen zs ≤ c1) (hr : ReadsInt W .u32 A1 (trimLen zs) (zs.take (trimLen zs))) : FormIs W (neg && decide (0 < trimLen zs)) A1 (trimLen zs) c1 (vI neg zs) := by
  have hl := trimLen_le zs
  have hlen : (zs.take (trimLen zs)).length = trimLen zs := by rw [List.length_take]; omega
  refine ⟨zs.take (trimLen zs), hlen.symm, hc, hr, hw.take _, trim_idem zs, ?_, ?_⟩
  · intro e
    rw [Bool.and_eq_true] at e
    simpa using e.2
  · unfold vI
    rw [valW_trim]
    by_cases ht : trimLen zs = 0
    · rw [trim_zero ht]; simp
    · have : decide (0 < trimLen zs) = true := by simp; omega
      rw [this, Bool.and_true]

set_option maxRecDepth 100000 in
set_option maxHeartbeats 1600000 in
theorem copied_any (neg : Bool) (A : Option Addr) (n c : Nat) (xs : List Int) (w : World) (hw : Dv.Wd xs) (hr : ReadsInt w .u32 A n xs) (hc : n ≤ c) (hn : n ≤ 100000) :
    Calls Tryd.prog 45 #[.agg #[.bool neg, .slice A n c]] w fun e w' => ∃ s A' n' c', e = .returned (.agg #[.bool s, .slice A' n' c']) ∧ FormIs w' s A' n' c' (vI neg xs) ∧ n' ≤ n ∧ Below w.heap.size w w' ∧ ∀ ad, A' = some ad → w.heap.size ≤ ad.block := by
  obtain ⟨W0, hW0⟩ : ∃ W0, W0 = (w.alloc (.cells #[.bool neg, .slice A n c] 24)).alloc (.cells #[.bool false, .slice none 0 0] 24) := ⟨_, rfl⟩
  have hb0 : Below w.heap.size w W0 := by rw [hW0]; exact below_alloc (below_alloc (Below.refl _ _) _) _
  have ka : W0.heap[w.heap.size]? = some (.cells #[.bool neg, .slice A n c] 24 (0, 0)) := by rw [hW0]; exact (below_alloc (Below.refl (w.alloc (.cells #[.bool neg, .slice A n c] 24)).heap.size _) _).block _ (by simp) |>.trans (blk_new w _)
  have kr : W0.heap[w.heap.size + 1]? = some (.cells #[.bool false, .slice none 0 0] 24 (0, 0)) := by
    have h := blk_new (w.alloc (.cells #[.bool neg, .slice A n c] 24)) (.cells #[.bool false, .slice none 0 0] 24)
    rw [World.size_alloc] at h; rw [hW0]; exact h
  have htl : trimLen xs ≤ n := by have := trimLen_le xs; have := hr.1; omega
  obtain ⟨t, ht⟩ : ∃ t, t = trimLen xs := ⟨_, rfl⟩
  have htrim := fun W (h : Below w.heap.size w W) => trim_any A n c xs W (hr.below h) hc (by omega)
  rw [← ht] at htrim htl
  have hrt : ReadsInt w .u32 A t (xs.take t) := by have hl := hr.1; have h := form_reads (A := A) (A' := A) (c' := c) (c := c) (zs := xs) (by rw [hl]; exact hr) (.inr ⟨rfl, rfl⟩); rw [← ht] at h; exact h
  have a0 := blk_cell ka 0
  have a1 := blk_cell ka 1
  have Htrim := Lib.hid htrim; have HW0 := Lib.hid hW0; have Hb0 := Lib.hid hb0; have Ka := Lib.hid ka; have Kr := Lib.hid kr; have Ht := Lib.hid ht; have Hrt := Lib.hid hrt; have Hw := Lib.hid hw
  clear htrim hr hW0 hb0 ka kr ht hrt hw
  go_enter Tryd.func45, Tryd.ntmps45
  go_upto_region 1 with (fail)
  rw [← HW0.out]
  have hbd : Below w.heap.size w W0.drew := ⟨Hb0.out.os, Hb0.out.tape, Hb0.out.output, Hb0.out.size, Hb0.out.block⟩
  have kad : W0.drew.heap[w.heap.size]? = some (.cells #[.bool neg, .slice A n c] 24 (0, 0)) := Ka.out
  have krd : W0.drew.heap[w.heap.size + 1]? = some (.cells #[.bool false, .slice none 0 0] 24 (0, 0)) := Kr.out
  have Hbd := Lib.hid hbd; have Kad := Lib.hid kad; have Krd := Lib.hid krd
  clear hbd kad krd
  go_region_with (first | (go_at_call 46; have HN := HB2; with_reducible refine (form_any neg A2 t c2 (xs.take t) W2 Hr2.out Hc2.out (by omega)).mono ?_; rintro e W3 ⟨A3, c3, rfl, hle3, hor3, hb3⟩; have kr3 := blk_below Kr2.out hb3; have r0 := blk_cell kr3 0; have r1 := blk_cell kr3 1; have f0 := blk_frozen kr3 0; have f1 := blk_frozen kr3 1; have Kr3 := Lib.hid kr3; have HB3 := Lib.hid (below_then HB2.out HB2.out.size hb3); have Hle3 := Lib.hid hle3; have Hor3 := Lib.hid hor3; have Hb3 := Lib.hid hb3; clear kr3 hle3 hor3 hb3) | (go_at_call 53; have HN := HB1; refine (clone_any A t c (xs.take t) W1 (Hrt.out.below HB1.out) (by omega) (by omega)).mono ?_; rintro e W2 ⟨A2, c2, rfl, hc2, hr2, hb2, hfar⟩; have Hfar := Lib.hid hfar; have Hsz1 := Lib.hid (show w.heap.size + 1 < W1.heap.size from blk_lt Kr1.out); have Ka2 := Lib.hid (blk_below Ka1.out hb2); have Kr2 := Lib.hid (blk_below Kr1.out hb2); have y0 := blk_cell Ka2.out 0; have HB2 := Lib.hid (below_then HB1.out HB1.out.size hb2); have Hr2 := Lib.hid hr2; have Hc2 := Lib.hid hc2; clear hc2 hr2 hb2 hfar) | (go_at_call 54; refine (Htrim.out _ Hbd.out).mono ?_; rintro e W1 ⟨rfl, q, hW1⟩; have hb1 : Below W0.drew.heap.size W0.drew W1 := (by rw [hW1]; exact pw_below_drewN (Below.refl _ _) q); have Ka1 := Lib.hid (blk_below Kad.out hb1); have Kr1 := Lib.hid (blk_below Krd.out hb1); have x0 := blk_cell Ka1.out 0; have HB1 := Lib.hid (below_then Hbd.out Hbd.out.size hb1); clear hW1 hb1))
  all_goals
    go_wp2
    have hlt : (xs.take t).length = t := Hr2.out.1
    have hrd := form_reads (A := A2) (A' := A3) (c := c2) (c' := c3) (zs := xs.take t) (by rw [hlt]; exact Hr2.out.below Hb3.out) (Hor3.out.imp id (fun h => ⟨h.1, h.2.1⟩))
    have hfi := form_is (neg := neg) (Hw.out.take t) Hle3.out hrd
    have hf3 : ∀ ad, A3 = some ad → ad.block ≠ w.heap.size + 1 := fun ad e => by
      have h1 := Hsz1.out
      rcases Hor3.out with ⟨h, _⟩ | ⟨h, _⟩
      · rw [h] at e; cases e
      · have := Hfar.out ad (by rw [← h]; exact e)
        omega
    have hf4 : ∀ ad, A3 = some ad → w.heap.size ≤ ad.block := fun ad e => by
      have h1 := Hsz1.out
      rcases Hor3.out with ⟨h, _⟩ | ⟨h, _⟩
      · rw [h] at e; cases e
      · have := Hfar.out ad (by rw [← h]; exact e)
        omega
    have hvv : vI neg (xs.take t) = vI neg xs := by unfold vI; rw [Ht.out, valW_trim]
    rw [hvv] at hfi
    have htl2 := trimLen_le (xs.take t)
    generalize trimLen (xs.take t) = t3 at *
    refine bodyPost_ret (results_cell_row rfl _ _ (w.heap.size + 1) 24 #[.bool (neg && decide (0 < t3)), .slice A3 t3 c3] (0, 0) _ rfl (blk_put (cs := #[.bool (neg && decide (0 < t3)), .slice none 0 0]) (blk_put (cs := #[.bool false, .slice none 0 0]) Kr3.out 0 _ rfl) 1 _ rfl) Tryd.underlying24 rfl (by kernel_rfl)) rfl ?_
    exact ⟨_, A3, t3, c3, rfl, (hfi.set_ (p := ⟨w.heap.size + 1, 0, none⟩) hf3 _).set_ (p := ⟨w.heap.size + 1, 1, none⟩) hf3 _, by omega, (HB3.out.setCell (p := ⟨w.heap.size + 1, 0, none⟩) (by simp) _).setCell (p := ⟨w.heap.size + 1, 1, none⟩) (by simp) _, hf4⟩
end Go.Proofs.YtiofeehcnegejaaDoor
