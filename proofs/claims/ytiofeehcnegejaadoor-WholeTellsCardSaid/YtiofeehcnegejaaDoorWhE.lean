/- Whole numbers: form, Clone, copied. -/
import Derived.Test.YtiofeehcnegejaaDoorWhD
namespace Go.Proofs.YtiofeehcnegejaaDoor
open Go.RowKit Go.Proofs.YtiofeehcnegejaaDoorW.PrintWords
set_option linter.unusedVariables false
set_option linter.unusedSimpArgs false

theorem info62 : (Tryd.prog.info? 62).map (fun i => (i.zero, i.size, i.bytes)) = some (some (.int .u32 0), 1, 4) := by kernel_rfl
set_option maxRecDepth 100000 in
set_option maxHeartbeats 800000 in
theorem form_any (neg : Bool) (A : Option Addr) (n c : Nat) (xs : List Int) (w : World) (hr : ReadsInt w .u32 A n xs) (hc : n ≤ c) (hn : n ≤ 9223372036854775807) :
    Calls Tryd.prog 46 #[.bool neg, .slice A n c] w fun e w' => ∃ A' c', e = .returned (.agg #[.bool (neg && decide (0 < trimLen xs)), .slice A' (trimLen xs) c']) ∧ trimLen xs ≤ c' ∧ ((A' = none ∧ trimLen xs = 0) ∨ (A' = A ∧ c' = c ∧ 0 < trimLen xs)) ∧ Below w.heap.size w w' := by
  obtain ⟨W0, hW0⟩ : ∃ W0, W0 = w.alloc (.cells #[.bool false, .slice none 0 0] 24) := ⟨_, rfl⟩
  have hb0 : Below w.heap.size w W0 := by rw [hW0]; exact below_alloc (Below.refl _ _) _
  have k0 : W0.heap[w.heap.size]? = some (.cells #[.bool false, .slice none 0 0] 24 (0, 0)) := by rw [hW0]; exact blk_new w _
  have htrim := trim_any A n c xs W0 (hr.below hb0) hc hn
  have htl : trimLen xs ≤ n := by have := trimLen_le xs; have := hr.1; omega
  obtain ⟨t, ht⟩ : ∃ t, t = trimLen xs := ⟨_, rfl⟩
  rw [← ht] at htrim htl ⊢
  have Htrim := Lib.hid htrim; have HW0 := Lib.hid hW0; have Hb0 := Lib.hid hb0; have K0 := Lib.hid k0
  clear htrim hr ht hW0 hb0 k0
  by_cases h0 : t = 0
  · subst h0
    go_enter Tryd.func46, Tryd.ntmps46
    go_upto_region 1 with (fail)
    rw [← HW0.out]
    go_wp2_with (go_at_call 54; refine Htrim.out.mono ?_; rintro e w1 ⟨rfl, q, rfl⟩; have k1 := blk_cell K0.out 0; have k2 := blk_cell K0.out 1; have f1 := blk_frozen K0.out 0; have f2 := blk_frozen K0.out 1)
    have kq : (W0.drewN q).heap[w.heap.size]? = some (.cells #[.bool false, .slice none 0 0] 24 (0, 0)) := K0.out
    refine bodyPost_ret (results_cell_row rfl _ _ w.heap.size 24 #[.bool false, .slice none 0 0] (0, 0) _ rfl (blk_put (cs := #[.bool false, .slice none 0 0]) (blk_put (cs := #[.bool false, .slice none 0 0]) kq 0 _ rfl) 1 _ rfl) Tryd.underlying24 rfl (by kernel_rfl)) rfl ?_
    exact ⟨none, 0, by simp, Nat.zero_le _, .inl ⟨rfl, trivial⟩, ((pw_below_drewN Hb0.out q).setCell (p := ⟨w.heap.size, 0, none⟩) (Nat.le_refl _) _).setCell (p := ⟨w.heap.size, 1, none⟩) (Nat.le_refl _) _⟩
  · have hp : decide (0 < t) = true := by simp; omega
    have hbz : ((t : Int) == 0) = false := beq_eq_false_iff_ne.2 (by omega)
    rw [hp]
    have Hp0 := Lib.hid (show 0 < t by omega)
    clear hp h0
    simp only [Bool.and_true]
    go_enter Tryd.func46, Tryd.ntmps46
    go_upto_region 1 with (fail)
    rw [← HW0.out]
    go_wp2_with (go_at_call 54; refine Htrim.out.mono ?_; rintro e w1 ⟨rfl, q, rfl⟩; have k1 := blk_cell K0.out 0; have k2 := blk_cell K0.out 1; have f1 := blk_frozen K0.out 0; have f2 := blk_frozen K0.out 1)
    have kq : (W0.drewN q).heap[w.heap.size]? = some (.cells #[.bool false, .slice none 0 0] 24 (0, 0)) := K0.out
    refine bodyPost_ret (results_cell_row rfl _ _ w.heap.size 24 #[.bool neg, .slice A t c] (0, 0) _ rfl (blk_put (cs := #[.bool neg, .slice none 0 0]) (blk_put (cs := #[.bool false, .slice none 0 0]) kq 0 _ rfl) 1 _ rfl) Tryd.underlying24 rfl (by kernel_rfl)) rfl ?_
    exact ⟨A, c, rfl, by omega, .inr ⟨rfl, rfl, Hp0.out⟩, ((pw_below_drewN Hb0.out q).setCell (p := ⟨w.heap.size, 0, none⟩) (Nat.le_refl _) _).setCell (p := ⟨w.heap.size, 1, none⟩) (Nat.le_refl _) _⟩

set_option maxRecDepth 100000 in
set_option maxHeartbeats 800000 in
/-- slices.Clone of words: a row of the call's own. -/
theorem clone_any (A : Option Addr) (n c : Nat) (xs : List Int) (w : World) (hr : ReadsInt w .u32 A n xs) (hc : n ≤ c) (hn : n ≤ 1000000) :
    Calls Tryd.prog 53 #[.slice A n c] w fun e w' => ∃ A' c', e = .returned (.slice A' n c') ∧ n ≤ c' ∧ ReadsInt w' .u32 A' n xs ∧ Below w.heap.size w w' ∧ ∀ ad, A' = some ad → w.heap.size ≤ ad.block := by
  have hl : xs.length = n := hr.1
  have hsome : ∀ (ad : Addr) (W : World), (binOp .eql 22 (.slice (some ad) n c) (.slice none 0 0)).run Tryd.prog W = .ok (.bool false) W := fun ad W => rfl
  have hnone : ∀ W : World, (binOp .eql 22 (.slice none n c) (.slice none 0 0)).run Tryd.prog W = .ok (.bool true) W := fun W => rfl
  have Hl := Lib.hid hl; have Hr := Lib.hid hr
  clear hl hr
  cases A with
  | none =>
    have hn0 : n = 0 := by
      rcases Nat.eq_zero_or_pos n with h | h
      · exact h
      · obtain ⟨ad, e, _⟩ := Hr.out.2.2 h
        cases e
    have Hn0 := Lib.hid hn0
    clear hn0
    go_enter Tryd.func53, Tryd.ntmps53
    go_wp2
    go_ret
    exact ⟨none, 0, by rw [Hn0.out]; rfl, by have := Hn0.out; omega, Hr.out, Below.refl _ _, fun ad e => by cases e⟩
  | some ad =>
    have hempty : (w.alloc (.cells #[] 62)).ownsRow w.heap.size 62 1 (.slice (some ⟨w.heap.size, 0, none⟩) 0 0) ([] : List Int).length (nums .u32 []) := World.ownsRow_lit (base := w.heap.size) (e := 62) (size := 1) w #[] 0 (Nat.le_refl _) (by simp [maxLen]) (by simp)
    have Hempty := Lib.hid hempty
    clear hempty
    go_enter Tryd.func53, Tryd.ntmps53
    go_wp2_with (at_builtin; refine print_append_row (w0 := w) w.heap.size rfl (.tmp 5) (.tmp 6) 22 62 .u32 4 rfl Tryd.underlying22 info62 (by decide) (.slice (some ⟨w.heap.size, 0, none⟩) 0 0) [] xs (some ad) n c rfl rfl Hempty.out (Hr.out.below (below_alloc (Below.refl _ _) _)) (below_alloc (Below.refl _ _) _) (by simp) (by simp; omega) ?_; intro v2 W2 hown2 hb2 hg2 hat2; rw [List.nil_append, Hl.out] at hown2; obtain ⟨A2, c2, rfl⟩ := own_slice hown2; have Hown2 := Lib.hid hown2; have HB2 := Lib.hid hb2; clear hown2 hb2 hg2 hat2)
    go_ret
    exact ⟨A2, c2, rfl, own_le Hown2.out, own_reads' Hown2.out, HB2.out, fun ad e => own_base Hown2.out ad.block (by rw [e]; rfl)⟩
end Go.Proofs.YtiofeehcnegejaaDoor
