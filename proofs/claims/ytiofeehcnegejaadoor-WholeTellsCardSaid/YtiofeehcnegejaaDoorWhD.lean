/- Whole numbers: Compare. -/
import Derived.Test.YtiofeehcnegejaaDoorWhC
import Derived.Deep.RegionWith
namespace Go.Proofs.YtiofeehcnegejaaDoor
open Go.RowKit Go.Proofs.YtiofeehcnegejaaDoorW.PrintWords
set_option linter.unusedVariables false
set_option linter.unusedSimpArgs false

/-- The number that a sign and words write. -/
def vI (neg : Bool) (xs : List Int) : Int := if neg then -Dv.valW xs else Dv.valW xs
theorem trim_zero {xs : List Int} (h : trimLen xs = 0) : Dv.valW xs = 0 := by
  have := valW_trim xs
  rw [h] at this
  simpa [Dv.valW] using this.symm
theorem trim_pos {xs : List Int} (hw : Dv.Wd xs) (h : trimLen xs ≠ 0) : 0 < Dv.valW xs := by
  obtain ⟨m, hm⟩ : ∃ m, trimLen xs = m + 1 := ⟨trimLen xs - 1, by omega⟩
  have h1 := val_great xs hw m hm
  have h2 := Dv.pow_pos' (32 * m)
  omega
theorem sign_val {neg : Bool} {xs : List Int} (hw : Dv.Wd xs) : signI neg xs = cmpI (vI neg xs) 0 := by
  unfold signI vI
  by_cases h : trimLen xs = 0
  · rw [if_pos h, trim_zero h]; cases neg <;> rfl
  · rw [if_neg h]
    have := trim_pos hw h
    cases neg
    · simp only [Bool.false_eq_true, if_false]; exact (cmpI_gt this).symm
    · simp only [if_true]; exact (cmpI_lt (by omega)).symm
theorem cmp_signs {na nb : Bool} {xs ys : List Int} (hx : Dv.Wd xs) (hy : Dv.Wd ys) :
    (signI na xs < signI nb ys → cmpI (vI na xs) (vI nb ys) = -1) ∧ (signI nb ys < signI na xs → cmpI (vI na xs) (vI nb ys) = 1) ∧ (signI na xs = signI nb ys → cmpI (vI na xs) (vI nb ys) = signI na xs * cmpI (Dv.valW xs) (Dv.valW ys)) := by
  have a0 := Dv.valW_nonneg hx
  have b0 := Dv.valW_nonneg hy
  rw [sign_val hx, sign_val hy]
  unfold vI cmpI
  cases na <;> cases nb <;> simp only [Bool.false_eq_true, if_false, if_true] <;> refine ⟨fun h => ?_, fun h => ?_, fun h => ?_⟩ <;> (repeat' split at h) <;> (repeat' split) <;> omega

set_option maxRecDepth 100000 in
set_option maxHeartbeats 1600000 in
theorem Compare_any (na nb : Bool) (A B : Option Addr) (n n' c c' : Nat) (xs ys : List Int) (w : World) (hx : Dv.Wd xs) (hy : Dv.Wd ys) (hr : ReadsInt w .u32 A n xs) (hr' : ReadsInt w .u32 B n' ys) (hc : n ≤ c) (hc' : n' ≤ c') (hn : n ≤ 9223372036854775807) (hn' : n' ≤ 9223372036854775807) :
    Calls Tryd.prog 13 #[.agg #[.bool na, .slice A n c], .agg #[.bool nb, .slice B n' c']] w fun e w' => e = .returned (.int .i64 (cmpI (vI na xs) (vI nb ys))) ∧ Below w.heap.size w w' := by
  have hsa := fun W (hb : Below w.heap.size w W) => sign_any na A n c xs W (hr.below hb) hc hn
  have hsb := fun W (hb : Below w.heap.size w W) => sign_any nb B n' c' ys W (hr'.below hb) hc' hn'
  have hcmp := fun W (hb : Below w.heap.size w W) => compare_any A B n n' c c' xs ys W hx hy (hr.below hb) (hr'.below hb) hc hc' hn hn'
  obtain ⟨h1, h2, h3⟩ := cmp_signs (na := na) (nb := nb) hx hy
  obtain ⟨s, hs⟩ : ∃ s, s = signI na xs := ⟨_, rfl⟩
  obtain ⟨t, ht⟩ : ∃ t, t = signI nb ys := ⟨_, rfl⟩
  obtain ⟨d, hd⟩ : ∃ d, d = cmpI (Dv.valW xs) (Dv.valW ys) := ⟨_, rfl⟩
  obtain ⟨r, hrr⟩ : ∃ r, r = cmpI (vI na xs) (vI nb ys) := ⟨_, rfl⟩
  have hsr : -1 ≤ s ∧ s ≤ 1 := by rw [hs]; unfold signI; (repeat' split) <;> omega
  have hdr : -1 ≤ d ∧ d ≤ 1 := by rw [hd]; unfold cmpI; (repeat' split) <;> omega
  rw [← hs] at h1 h2 h3
  rw [← ht] at h1 h2 h3
  rw [← hd] at h3
  rw [← hrr] at h1 h2 h3 ⊢
  have hsa' : ∀ W, Below w.heap.size w W → Calls Tryd.prog 43 #[.agg #[.bool na, .slice A n c]] W fun e w' => e = .returned (.int .i64 s) ∧ Below W.heap.size W w' := by rw [hs]; exact hsa
  have hsb' : ∀ W, Below w.heap.size w W → Calls Tryd.prog 43 #[.agg #[.bool nb, .slice B n' c']] W fun e w' => e = .returned (.int .i64 t) ∧ Below W.heap.size W w' := by rw [ht]; exact hsb
  have hcmp' : ∀ W, Below w.heap.size w W → Calls Tryd.prog 44 #[.slice A n c, .slice B n' c'] W fun e w' => e = .returned (.int .i64 d) ∧ ∃ q, w' = W.drewN q := by rw [hd]; exact hcmp
  have H1 := Lib.hid h1; have H2 := Lib.hid h2; have H3 := Lib.hid h3; have Hsa := Lib.hid hsa'; have Hsb := Lib.hid hsb'; have Hcmp := Lib.hid hcmp'
  clear h1 h2 h3 hsa hsb hcmp hsa' hsb' hcmp' hs ht hd hrr hr hr' hx hy
  go_enter Tryd.func13, Tryd.ntmps13
  go_upto_region 1 with (fail)
  obtain ⟨W1, hW1⟩ : ∃ W1, W1 = (w.alloc (.cells #[.bool na, .slice A n c] 24)).alloc (.cells #[.bool nb, .slice B n' c'] 24) := ⟨_, rfl⟩
  have hb1 : Below w.heap.size w W1 := by rw [hW1]; exact below_alloc (below_alloc (Below.refl _ _) _) _
  have ka : W1.heap[w.heap.size]? = some (.cells #[.bool na, .slice A n c] 24 (0, 0)) := by rw [hW1]; exact (below_alloc (Below.refl (w.alloc (.cells #[.bool na, .slice A n c] 24)).heap.size _) _).block _ (by simp) |>.trans (blk_new w _)
  have kb : W1.heap[w.heap.size + 1]? = some (.cells #[.bool nb, .slice B n' c'] 24 (0, 0)) := by
    have h := blk_new (w.alloc (.cells #[.bool na, .slice A n c] 24)) (.cells #[.bool nb, .slice B n' c'] 24)
    rw [World.size_alloc] at h; rw [hW1]; exact h
  rw [← hW1]
  clear hW1
  have a0 := blk_cell ka 0
  have a1 := blk_cell ka 1
  have b0 := blk_cell kb 0
  have b1 := blk_cell kb 1
  have hbd : Below w.heap.size w W1.drew := ⟨hb1.os, hb1.tape, hb1.output, hb1.size, hb1.block⟩
  have kad : W1.drew.heap[w.heap.size]? = some (.cells #[.bool na, .slice A n c] 24 (0, 0)) := ka
  have kbd : W1.drew.heap[w.heap.size + 1]? = some (.cells #[.bool nb, .slice B n' c'] 24 (0, 0)) := kb
  have Hb1 := Lib.hid hbd; have Ka := Lib.hid kad; have Kb := Lib.hid kbd
  clear hb1 ka kb hbd kad kbd
  go_region_with (first | (go_at_call 43; refine (Hsb.out _ HB2.out).mono ?_; rintro e w3 ⟨rfl, hb3⟩; have d0 := blk_cell (blk_below Ka2.out hb3) 0; have d1 := blk_cell (blk_below Ka2.out hb3) 1; have e0 := blk_cell (blk_below Kb2.out hb3) 0; have e1 := blk_cell (blk_below Kb2.out hb3) 1; have HB3 := Lib.hid (below_then HB2.out HB2.out.size hb3); clear hb3) | (go_at_call 43; refine (Hsa.out _ Hb1.out).mono ?_; rintro e w2 ⟨rfl, hb2⟩; have Ka2 := Lib.hid (blk_below Ka.out hb2); have Kb2 := Lib.hid (blk_below Kb.out hb2); have c0 := blk_cell Ka2.out 0; have c1 := blk_cell Ka2.out 1; have cc0 := blk_cell Kb2.out 0; have cc1 := blk_cell Kb2.out 1; have HB2 := Lib.hid (below_then Hb1.out Hb1.out.size hb2); clear hb2))
  all_goals
    clear a0 a1 b0 b1 Ka Kb
    rcases Int.lt_trichotomy s t with hst | hst | hst
    · obtain rfl := H1.out hst
      clear hsr hdr
      go_wp2
      go_ret
      exact ⟨rfl, HB3.out⟩
    · subst hst
      obtain rfl := H3.out rfl
      have hb : -1 ≤ s * d ∧ s * d ≤ 1 := by
        obtain ⟨s0, s1⟩ := hsr
        obtain ⟨d0, d1⟩ := hdr
        rcases (by omega : s = -1 ∨ s = 0 ∨ s = 1) with rfl | rfl | rfl <;> omega
      have hwr : IntKind.i64.wrap (s * d) = s * d := by rw [IntKind.wrap_i64]; omega
      have hss : ¬ s < s := by omega
      clear hsr hdr hb
      go_wp2_with (go_at_call 44; refine (Hcmp.out _ HB3.out).mono ?_; rintro e w4 ⟨rfl, q, rfl⟩)
      go_ret
      exact ⟨rfl, pw_below_drewN HB3.out q⟩
    · obtain rfl := H2.out hst
      have hnl : ¬ s < t := by omega
      clear hsr hdr
      go_wp2
      go_ret
      exact ⟨rfl, HB3.out⟩
end Go.Proofs.YtiofeehcnegejaaDoor
