/- The laws' own lent and back. -/
import Derived.Test.YtiofeehcnegejaaDoorWhZ
namespace Go.Proofs.YtiofeehcnegejaaDoor
open Go.RowKit Go.Proofs.YtiofeehcnegejaaDoorW.PrintWords
set_option linter.unusedVariables false
set_option linter.unusedSimpArgs false

/-- A number lent: its words, and one behind them, in a row of the call's own. -/
def LentPost (w : World) (neg : Bool) (xs : List Int) (e : Ending) (w' : World) : Prop :=
  ∃ g c', e = .returned (.agg #[.bool neg, .slice (some ⟨g, 0, none⟩) xs.length c']) ∧ w'.ownsRow w.heap.size 62 1 (.slice (some ⟨g, 0, none⟩) (xs.length + 1) c') (xs.length + 1) (nums .u32 (xs ++ [77])) ∧ xs.length + 1 ≤ c' ∧ Below w.heap.size w w'
set_option maxRecDepth 100000 in
set_option maxHeartbeats 1000000 in
theorem lent_any (neg : Bool) (A : Option Addr) (n c : Nat) (xs : List Int) (w : World) (hr : ReadsInt w .u32 A n xs) (hn : n ≤ 100000) :
    Calls Tryd.prog 21 #[.agg #[.bool neg, .slice A n c]] w (LentPost w neg xs) := by
  obtain rfl := hr.1
  obtain ⟨W0, hW0⟩ : ∃ W0, W0 = (w.alloc (.cells #[.bool neg, .slice A xs.length c] 24)).alloc (.cells #[.bool false, .slice none 0 0] 24) := ⟨_, rfl⟩
  have hb0 : Below w.heap.size w W0 := by rw [hW0]; exact below_alloc (below_alloc (Below.refl _ _) _) _
  have ka : W0.heap[w.heap.size]? = some (.cells #[.bool neg, .slice A xs.length c] 24 (0, 0)) := by rw [hW0]; exact (below_alloc (Below.refl (w.alloc (.cells #[.bool neg, .slice A xs.length c] 24)).heap.size _) _).block _ (by simp) |>.trans (blk_new w _)
  have kr : W0.heap[w.heap.size + 1]? = some (.cells #[.bool false, .slice none 0 0] 24 (0, 0)) := by
    have h := blk_new (w.alloc (.cells #[.bool neg, .slice A xs.length c] 24)) (.cells #[.bool false, .slice none 0 0] 24)
    rw [World.size_alloc] at h; rw [hW0]; exact h
  have a1 := blk_cell ka 1
  have HW0 := Lib.hid hW0; have HB0 := Lib.hid hb0; have Ka := Lib.hid ka; have Kr := Lib.hid kr; have Hr := Lib.hid (hr.below hb0)
  clear hW0 hb0 ka kr hr
  go_enter Tryd.func21, Tryd.ntmps21
  go_upto_region 1 with (fail)
  rw [← HW0.out]
  go_upto_region 3 with (at_builtin; refine print_append_row (w0 := w) w.heap.size rfl _ _ 22 62 .u32 4 rfl Tryd.underlying22 info62 (by decide) (.slice none 0 0) [] xs A xs.length c rfl rfl (own_nil _ _ _ _) Hr.out HB0.out HB0.out.size (by simp; omega) ?_; intro v1 W1 h1 h2 h3 _; rw [List.nil_append] at h1; obtain ⟨A1, c1, rfl⟩ := own_slice h1; have HO1 := Lib.hid h1; have HB1 := Lib.hid h2; have Ka1 := Lib.hid (blk_grown Ka.out h3 (by simp [Value.ownBlock])); have Kr1 := Lib.hid (blk_grown Kr.out h3 (by simp [Value.ownBlock])); clear h1 h2 h3)
  have hown1 := HO1.out
  have hB1 := HB1.out.size
  go_upto_region 4 with (at_builtin; refine print_append_num (w0 := w) w.heap.size rfl _ _ 22 62 .u32 4 rfl Tryd.underlying22 info62 (by decide) (.slice A1 xs.length c1) xs 77 rfl rfl hown1 HB1.out hB1 (by omega) ?_; intro v2 W2 h1 h2 h3 _; have HO2 := Lib.hid h1; have HB2 := Lib.hid h2; have Ka2 := Lib.hid (blk_grown Ka1.out h3 (own_ne hown1 Ka1.out (by decide))); have Kr2 := Lib.hid (blk_grown Kr1.out h3 (own_ne hown1 Kr1.out (by decide))); clear h1 h2 h3)
  have hlen : (xs ++ [(77 : Int)]).length = xs.length + 1 := by simp
  have hown2 := HO2.out
  rw [hlen] at hown2
  obtain ⟨g, c2, hv, hg, _⟩ := hown2.form (by omega)
  subst hv
  have hle := own_le hown2
  have a0 := blk_cell Ka2.out 0; have a2 := blk_cell Ka2.out 1; have fa := blk_frozen Ka2.out 1
  have r0 := blk_cell Kr2.out 0; have r1 := blk_cell Kr2.out 1; have f0 := blk_frozen Kr2.out 0; have f1 := blk_frozen Kr2.out 1
  have Hown2 := Lib.hid hown2; have Hg := Lib.hid hg
  have hne1 := own_ne hown2 Ka2.out (by decide)
  have hne2 := own_ne hown2 Kr2.out (by decide)
  have Hne1 := Lib.hid hne1; have Hne2 := Lib.hid hne2
  clear hlen hown2 hown1 hg hne1 hne2
  go_wp2
  have kr3 := blk_far Kr2.out (p := ⟨w.heap.size, 1, none⟩) (by show w.heap.size + 1 ≠ w.heap.size; omega) (.slice (some ⟨g, 0, none⟩) xs.length c2)
  refine bodyPost_ret (results_cell_row rfl _ _ (w.heap.size + 1) 24 #[.bool neg, .slice (some ⟨g, 0, none⟩) xs.length c2] (0, 0) _ rfl (blk_put (cs := #[.bool neg, .slice none 0 0]) (blk_put (cs := #[.bool false, .slice none 0 0]) kr3 0 _ rfl) 1 _ rfl) Tryd.underlying24 rfl (by kernel_rfl)) rfl ?_
  exact ⟨g, c2, rfl, own_setCell (own_setCell (own_setCell Hown2.out (p := ⟨w.heap.size, 1, none⟩) Hne1.out _) (p := ⟨w.heap.size + 1, 0, none⟩) Hne2.out _) (p := ⟨w.heap.size + 1, 1, none⟩) Hne2.out _, hle, ((HB2.out.setCell (p := ⟨w.heap.size, 1, none⟩) (Nat.le_refl _) _).setCell (p := ⟨w.heap.size + 1, 0, none⟩) (by simp) _).setCell (p := ⟨w.heap.size + 1, 1, none⟩) (by simp) _⟩

set_option maxRecDepth 100000 in
set_option maxHeartbeats 1600000 in
/-- It is as it was, the word behind it too. -/
theorem lawBack_any (neg : Bool) (g : Nat) (c' : Nat) (A : Option Addr) (n c : Nat) (xs : List Int) (w : World) (hr : ReadsInt w .u32 A n xs) (hr' : ReadsInt w .u32 (some ⟨g, 0, none⟩) (n + 1) (xs ++ [77])) (hc : n + 1 ≤ c') (hn : n ≤ 100000) :
    Calls Tryd.prog 31 #[.agg #[.bool neg, .slice (some ⟨g, 0, none⟩) n c'], .agg #[.bool neg, .slice A n c]] w fun e w' => e = .returned (.bool true) ∧ Below w.heap.size w w' := by
  have hl := hr.1
  obtain ⟨W0, hW0⟩ : ∃ W0, W0 = (w.alloc (.cells #[.bool neg, .slice (some ⟨g, 0, none⟩) n c'] 24)).alloc (.cells #[.bool neg, .slice A n c] 24) := ⟨_, rfl⟩
  have hb0 : Below w.heap.size w W0 := by rw [hW0]; exact below_alloc (below_alloc (Below.refl _ _) _) _
  have ka : W0.heap[w.heap.size]? = some (.cells #[.bool neg, .slice (some ⟨g, 0, none⟩) n c'] 24 (0, 0)) := by rw [hW0]; exact (below_alloc (Below.refl (w.alloc (.cells #[.bool neg, .slice (some ⟨g, 0, none⟩) n c'] 24)).heap.size _) _).block _ (by simp) |>.trans (blk_new w _)
  have kb : W0.heap[w.heap.size + 1]? = some (.cells #[.bool neg, .slice A n c] 24 (0, 0)) := by
    have h := blk_new (w.alloc (.cells #[.bool neg, .slice (some ⟨g, 0, none⟩) n c'] 24)) (.cells #[.bool neg, .slice A n c] 24)
    rw [World.size_alloc] at h; rw [hW0]; exact h
  have hrt : ReadsInt w .u32 (some ⟨g, 0, none⟩) n xs := by
    have h := hr'.take_ n (by omega)
    rw [List.take_append_of_le_length (by omega), List.take_of_length_le (by omega)] at h
    exact h
  have hx : ∀ W, Below w.heap.size w W → W.cell? ⟨g, n, none⟩ = some (.int .u32 77) := fun W h => by
    obtain ⟨ad, e, hc⟩ := (hr'.below h).2.2 (by omega)
    injection e with e
    subst e
    have h1 := hc n (by omega)
    rw [add_plain] at h1
    rw [h1]
    congr 2
    rw [List.getD_eq_getElem?_getD, List.getElem?_append_right (by omega), hl]
    simp
  have hsame : ∀ W, Below w.heap.size w W → Calls Tryd.prog 18 #[.agg #[.bool neg, .slice (some ⟨g, 0, none⟩) n c'], .agg #[.bool neg, .slice A n c]] W fun e w' => e = .returned (.bool true) ∧ Below W.heap.size W w' := fun W h => same_words neg _ A n c' c xs W (hrt.below h) (hr.below h) (by omega)
  have HW0 := Lib.hid hW0; have HB0 := Lib.hid hb0; have Ka := Lib.hid ka; have Kb := Lib.hid kb; have Hx := Lib.hid hx; have Hsame := Lib.hid hsame
  have HB0d := Lib.hid (show Below w.heap.size w W0.drew from below_drew hb0)
  have Kad := Lib.hid (show W0.drew.heap[w.heap.size]? = _ from ka); have Kbd := Lib.hid (show W0.drew.heap[w.heap.size + 1]? = _ from kb)
  have c0 := blk_cell ka 0; have c1 := blk_cell ka 1; have d0 := blk_cell kb 0; have d1 := blk_cell kb 1
  have e1 : IntKind.i64.wrap ((n : Int) + 1) = (n : Int) + 1 := IntWalk.i64_in _ (by omega)
  have e2 : ((n : Int) + 1).toNat = n + 1 := by omega
  have e3 : (0 : Int) ≤ (n : Int) + 1 := by omega
  clear hW0 hb0 ka kb hx hsame hr hr' hrt hl
  go_enter Tryd.func31, Tryd.ntmps31
  go_upto_region 1 with (fail)
  rw [← HW0.out]
  go_region_with (go_at_call 18; refine (Hsame.out _ HB0d.out).mono ?_; rintro e W1 ⟨rfl, hb1⟩; have HB1 := Lib.hid (below_then HB0d.out HB0d.out.size hb1); have a0 := blk_cell (blk_below Kad.out hb1) 0; have a1 := blk_cell (blk_below Kad.out hb1) 1; have b0 := blk_cell (blk_below Kbd.out hb1) 0; have b1 := blk_cell (blk_below Kbd.out hb1) 1; have x77 := Hx.out _ HB1.out; clear hb1)
  all_goals
    clear a0 a1 b0 b1 c0 c1 d0 d1 x77 Ka Kb Kad Kbd Hx Hsame HB0 HB0d HW0
    go_wp2
    go_ret
    exact ⟨rfl, HB1.out⟩
end Go.Proofs.YtiofeehcnegejaaDoor
