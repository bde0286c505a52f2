/- The document's own Of. -/
import Derived.Test.YtiofeehcnegejaaDoorWhZ
import Derived.Test.YtiofeehcnegejaaDoorRfE
namespace Go.Proofs.YtiofeehcnegejaaDoor
open Go.RowKit Go.Proofs.YtiofeehcnegejaaDoorW.PrintWords
set_option linter.unusedVariables false
set_option linter.unusedSimpArgs false

set_option maxRecDepth 100000 in
set_option maxHeartbeats 800000 in
/-- The document's own Of, of the two words of a size. -/
theorem refOf_any (v : Int) (w : World) (h0 : -9223372036854775808 ≤ v) (h1 : v ≤ 9223372036854775807) :
    Calls Tryd.prog 38 #[.int .i64 v] w fun e w' => ∃ s A' n' c', e = .returned (.agg #[.bool s, .slice A' n' c']) ∧ FormIs w' s A' n' c' v ∧ Below w.heap.size w w' := by
  obtain ⟨U, hU⟩ : ∃ U, U = if v < 0 then -v else v := ⟨_, rfl⟩
  have hU0 : 0 ≤ U := by rw [hU]; split <;> omega
  have hU1 : U ≤ 9223372036854775808 := by rw [hU]; split <;> omega
  have hwd : Dv.Wd [U % 4294967296, U / 4294967296] := fun x hx => by
    simp at hx
    rcases hx with rfl | rfl <;> omega
  have hval : vI (decide (v < 0)) [U % 4294967296, U / 4294967296] = v := by
    by_cases hv : v < 0
    · simp [vI, Dv.valW, hv] at hU ⊢; omega
    · simp [vI, Dv.valW, hv] at hU ⊢; omega
  obtain ⟨W1, hW1⟩ : ∃ W1, W1 = w.alloc (.cells #[.bool false, .slice none 0 0] 24) := ⟨_, rfl⟩
  have hs1 : W1.heap.size = w.heap.size + 1 := by rw [hW1]; simp
  have k1 : W1.heap[w.heap.size]? = some (.cells #[.bool false, .slice none 0 0] 24 (0, 0)) := by rw [hW1]; exact blk_new _ _
  obtain ⟨W2, hW2⟩ : ∃ W2, W2 = W1.alloc (.cells #[.int .u32 (U % 4294967296), .int .u32 (U / 4294967296)] 62) := ⟨_, rfl⟩
  have hs2 : W2.heap.size = w.heap.size + 2 := by rw [hW2]; simp; omega
  have hb1 : Below w.heap.size w W1 := by rw [hW1]; exact below_alloc (Below.refl _ _) _
  have hb2 : Below W1.heap.size W1 W2 := by rw [hW2]; exact below_alloc (Below.refl _ _) _
  have hrd := reads_two W1 (U % 4294967296) (U / 4294967296)
  rw [← hW2, hs1] at hrd
  have hform := refMade_any (decide (v < 0)) (some ⟨w.heap.size + 1, 0, none⟩) 2 2 _ W2 hrd (by omega) (by omega)
  have hform : Calls Tryd.prog 52 #[.bool (decide (v < 0)), .slice (some ⟨w.heap.size + 1, 0, none⟩) 2 2] W2 fun e w' => ∃ A3 t3 c3 s3, e = .returned (.agg #[.bool s3, .slice A3 t3 c3]) ∧ FormIs w' s3 A3 t3 c3 v ∧ (∃ ts, Own32 w' (w.heap.size + 2) (.slice A3 t3 c3) ts) ∧ Below W2.heap.size W2 w' := hform.mono fun e w' h => by
    obtain ⟨y, rfl, hown, hb⟩ := h
    obtain ⟨A3, c3, rfl, hc, hr⟩ := hown.slice
    have hlt : ([U % 4294967296, U / 4294967296].take (trimLen [U % 4294967296, U / 4294967296])).length = trimLen [U % 4294967296, U / 4294967296] := by rw [List.length_take]; have := trimLen_le [U % 4294967296, U / 4294967296]; omega
    rw [hlt] at hc hr hown ⊢
    have hfi := form_is (neg := decide (v < 0)) hwd hc hr
    rw [hval] at hfi
    rw [hs2] at hown
    exact ⟨A3, _, c3, _, rfl, hfi, ⟨_, hown⟩, hb⟩
  rw [hW2, hW1] at hform
  have Hform := Lib.hid hform; have Hwd := Lib.hid hwd; have Hval := Lib.hid hval; have K2 := Lib.hid (blk_below k1 hb2); have HB2 := Lib.hid (below_then hb1 hb1.size hb2); have HW := Lib.hid (show W2 = (w.alloc (.cells #[.bool false, .slice none 0 0] 24)).alloc (.cells #[.int .u32 (U % 4294967296), .int .u32 (U / 4294967296)] 62) by rw [hW2, hW1])
  have Hs2 := Lib.hid hs2
  have hu : (if v < 0 then IntKind.u64.wrap (-IntKind.u64.wrap v) else IntKind.u64.wrap v) = U := by
    rw [hU]
    split <;> rw [IntKind.wrap_u64] <;> (try rw [IntKind.wrap_u64]) <;> omega
  have Hu := Lib.hid hu
  clear hform hwd hval hrd k1 hb1 hb2 hs1 hW2 hW1 hs2 hu
  by_cases hv : v < 0
  · have hu : IntKind.u64.wrap (-IntKind.u64.wrap v) = U := by have := Hu.out; rwa [if_pos hv] at this
    have hd : decide (v < 0) = true := by simpa using hv
    rw [hd] at Hform
    clear hU
    go_enter Tryd.func38, Tryd.ntmps38
    go_wp2_with (go_at_call 52; refine Hform.out.mono ?_; rintro e W3 ⟨A3, t3, c3, s3, rfl, hfi, hown, hb3⟩; rw [← HW.out] at hb3; have kr3 := blk_below K2.out hb3; have r0 := blk_cell kr3 0; have r1 := blk_cell kr3 1; have f0 := blk_frozen kr3 0; have f1 := blk_frozen kr3 1; have Kr3 := Lib.hid kr3; have HB3 := Lib.hid (below_then HB2.out HB2.out.size hb3); have Hown := Lib.hid hown; have Hfi := Lib.hid hfi; clear kr3 hb3 hown hfi)
    have hfi := Hfi.out
    obtain ⟨ts, hts⟩ := Hown.out
    have hne := own_ne hts Kr3.out (by decide)
    have hf3 : ∀ ad, A3 = some ad → ad.block ≠ w.heap.size := fun ad e h => by
      subst e
      exact hne (by simp [Value.ownBlock, h])
    refine bodyPost_ret (results_cell_row rfl _ _ w.heap.size 24 #[.bool s3, .slice A3 t3 c3] (0, 0) _ rfl (blk_put (cs := #[.bool s3, .slice none 0 0]) (blk_put (cs := #[.bool false, .slice none 0 0]) Kr3.out 0 _ (by simp)) 1 _ (by simp)) Tryd.underlying24 rfl (by kernel_rfl)) rfl ?_
    exact ⟨_, A3, t3, c3, rfl, (hfi.set_ (p := ⟨w.heap.size, 0, none⟩) hf3 _).set_ (p := ⟨w.heap.size, 1, none⟩) hf3 _, (HB3.out.setCell (p := ⟨w.heap.size, 0, none⟩) (Nat.le_refl _) _).setCell (p := ⟨w.heap.size, 1, none⟩) (Nat.le_refl _) _⟩
  · have hu : IntKind.u64.wrap v = U := by have := Hu.out; rwa [if_neg hv] at this
    have hd : decide (v < 0) = false := by simpa using hv
    rw [hd] at Hform
    clear hU
    go_enter Tryd.func38, Tryd.ntmps38
    go_wp2_with (go_at_call 52; refine Hform.out.mono ?_; rintro e W3 ⟨A3, t3, c3, s3, rfl, hfi, hown, hb3⟩; rw [← HW.out] at hb3; have kr3 := blk_below K2.out hb3; have r0 := blk_cell kr3 0; have r1 := blk_cell kr3 1; have f0 := blk_frozen kr3 0; have f1 := blk_frozen kr3 1; have Kr3 := Lib.hid kr3; have HB3 := Lib.hid (below_then HB2.out HB2.out.size hb3); have Hown := Lib.hid hown; have Hfi := Lib.hid hfi; clear kr3 hb3 hown hfi)
    have hfi := Hfi.out
    obtain ⟨ts, hts⟩ := Hown.out
    have hne := own_ne hts Kr3.out (by decide)
    have hf3 : ∀ ad, A3 = some ad → ad.block ≠ w.heap.size := fun ad e h => by
      subst e
      exact hne (by simp [Value.ownBlock, h])
    refine bodyPost_ret (results_cell_row rfl _ _ w.heap.size 24 #[.bool s3, .slice A3 t3 c3] (0, 0) _ rfl (blk_put (cs := #[.bool s3, .slice none 0 0]) (blk_put (cs := #[.bool false, .slice none 0 0]) Kr3.out 0 _ (by simp)) 1 _ (by simp)) Tryd.underlying24 rfl (by kernel_rfl)) rfl ?_
    exact ⟨_, A3, t3, c3, rfl, (hfi.set_ (p := ⟨w.heap.size, 0, none⟩) hf3 _).set_ (p := ⟨w.heap.size, 1, none⟩) hf3 _, (HB3.out.setCell (p := ⟨w.heap.size, 0, none⟩) (Nat.le_refl _) _).setCell (p := ⟨w.heap.size, 1, none⟩) (Nat.le_refl _) _⟩

set_option maxHeartbeats 1600000 in
set_option maxRecDepth 100000 in
/-- The int that a whole number is, if it is one. -/
theorem Small_any (neg : Bool) (A : Option Addr) (n c : Nat) (xs : List Int) (w : World) (hw : Dv.Wd xs) (hr : ReadsInt w .u32 A n xs) (hc : n ≤ c) (hn : n ≤ 100000) :
    Calls Tryd.prog 34 #[.agg #[.bool neg, .slice A n c]] w fun e w' => e = .returned (.tuple #[.int .i64 (smallS neg (Dv.valW xs)).1, .bool (smallS neg (Dv.valW xs)).2]) ∧ Below w.heap.size w w' := by
  obtain ⟨W0, hW0⟩ : ∃ W0, W0 = w.alloc (.cells #[.bool neg, .slice A n c] 24) := ⟨_, rfl⟩
  have hb0 : Below w.heap.size w W0 := by rw [hW0]; exact below_alloc (Below.refl _ _) _
  have ka : W0.heap[w.heap.size]? = some (.cells #[.bool neg, .slice A n c] 24 (0, 0)) := by rw [hW0]; exact blk_new w _
  have hv := valW_trim xs
  have hl := trimLen_le xs
  have hln := hr.1
  have hrt : ReadsInt w .u32 A (trimLen xs) (xs.take (trimLen xs)) := form_reads (c := c) (c' := c) (by rw [hln]; exact hr) (.inr ⟨rfl, rfl⟩)
  have hwt := hw.take (trimLen xs)
  have htrim := fun W (h : Below w.heap.size w W) => trim_any A n c xs W (hr.below h) hc (by omega)
  have hbig : 2 < trimLen xs → smallS neg (Dv.valW xs) = (0, false) := fun ht => by
    obtain ⟨m, hm⟩ : ∃ m, trimLen xs = m + 1 := ⟨trimLen xs - 1, by omega⟩
    have h1 := val_great xs hw m hm
    have h2 : (2 : Int) ^ 64 ≤ 2 ^ (32 * m) := by
      rw [show 32 * m = 64 + (32 * m - 64) by omega, Int.pow_add]
      have := Dv.pow_pos' (32 * m - 64)
      have : (2 : Int) ^ 64 * 1 ≤ 2 ^ 64 * 2 ^ (32 * m - 64) := Int.mul_le_mul_of_nonneg_left (by omega) (by decide)
      omega
    have e : (2 : Int) ^ 64 = 18446744073709551616 := by decide
    cases neg <;> simp [smallS] <;> omega
  rw [← hv] at hbig ⊢
  clear hv hr hw
  generalize trimLen xs = t at *
  have hlen : (xs.take t).length = t := by rw [List.length_take]; omega
  generalize xs.take t = ts at *
  obtain ⟨U, hU⟩ : ∃ U, Dv.valW ts = U := ⟨_, rfl⟩
  have htn : t ≤ 100000 := by omega
  have HW0 := Lib.hid hW0; have HB0 := Lib.hid hb0; have Ka := Lib.hid ka; have Hrt := Lib.hid hrt; have Hwt := Lib.hid hwt; have Htrim := Lib.hid htrim; have Hlen := Lib.hid hlen
  have a1 := blk_cell ka 1
  rw [hU] at hbig ⊢
  have HU := Lib.hid hU; have Hbig := Lib.hid hbig
  clear hW0 hb0 ka hrt hwt htrim hlen hU hbig hl hln hn hc
  go_enter Tryd.func34, Tryd.ntmps34
  go_upto_region 1 with (fail)
  rw [← HW0.out]
  go_upto_region 3 with (go_at_call 54; refine (Htrim.out _ HB0.out).mono ?_; rintro e W1 ⟨rfl, q, hW1⟩; have hb1 : Below W0.heap.size W0 W1 := (by rw [hW1]; exact pw_below_drewN (Below.refl _ _) q); have HB1 := Lib.hid (below_then HB0.out HB0.out.size hb1); have Ka1 := Lib.hid (blk_below Ka.out hb1); have x0 := blk_cell Ka1.out 0; clear hW1 hb1)
  have hr1 := Hrt.out.below HB1.out
  have Hr1 := Lib.hid hr1; clear hr1 a1
  have hU0 : 0 ≤ U := by rw [← HU.out]; exact Dv.valW_nonneg Hwt.out
  by_cases ht3 : 2 < t
  · have hf := Hbig.out ht3
    have Hf := Lib.hid hf; clear hf
    go_wp2
    go_ret2
    exact ⟨by rw [Hf.out]; rfl, HB1.out⟩
  · have hU1 : U ≤ 18446744073709551615 := by
      rw [← HU.out]
      have h1 := Dv.valW_lt Hwt.out
      rw [Hlen.out] at h1
      rcases (show t = 0 ∨ t = 1 ∨ t = 2 by omega) with rfl | rfl | rfl <;> simp at h1 <;> omega
    have hf0 : 9223372036854775808 < U → smallS true U = (0, false) := fun h => by simp [smallS]; omega
    have hf1 : ¬ 9223372036854775808 < U → smallS true U = (-U, true) := fun h => by simp [smallS]; omega
    have hf2 : 9223372036854775808 ≤ U → smallS false U = (0, false) := fun h => by simp [smallS]; omega
    have hf3 : ¬ 9223372036854775808 ≤ U → smallS false U = (U, true) := fun h => by simp [smallS]; omega
    have hwr : ¬ 9223372036854775808 < U → wrap64 (IntKind.u64.wrap (-U)) = -U := fun h => by rw [Dv.u64w]; unfold wrap64; omega
    have Hf0 := Lib.hid hf0; have Hf1 := Lib.hid hf1; have Hf2 := Lib.hid hf2; have Hf3 := Lib.hid hf3; have Hwr := Lib.hid hwr
    clear hf0 hf1 hf2 hf3 hwr
    rcases (show t = 0 ∨ t = 1 ∨ t = 2 by omega) with rfl | rfl | rfl
    · have hU' : U = 0 := by
        have := List.length_eq_zero_iff.1 Hlen.out
        rw [← HU.out, this]; rfl
      have hs : smallS neg U = (0, true) := by rw [hU']; cases neg <;> rfl
      have Hs := Lib.hid hs; clear hs hU'
      go_wp2
      go_ret2
      exact ⟨by rw [Hs.out]; rfl, HB1.out⟩
    · obtain ⟨ad, rfl, hcell⟩ := Hr1.out.2.2 (by omega)
      have h0 := hcell 0 (by omega)
      rw [show ad.add 0 = ad from by simp [Addr.add]] at h0
      have hx : ts.getD 0 0 = U := by
        rw [← HU.out]
        match ts, Hlen.out with
        | [x], _ => simp [Dv.valW]
      rw [hx] at h0
      clear hcell hx
      cases neg
      · by_cases h9 : 9223372036854775808 ≤ U
        · have Hf := Lib.hid (Hf2.out (by omega))
          go_wp2
          go_ret2
          exact ⟨by rw [Hf.out]; rfl, HB1.out⟩
        · have Hf := Lib.hid (Hf3.out (by omega))
          go_wp2
          go_ret2
          exact ⟨by rw [Hf.out]; rfl, HB1.out⟩
      · by_cases h9 : 9223372036854775808 < U
        · have Hf := Lib.hid (Hf0.out (by omega))
          go_wp2
          go_ret2
          exact ⟨by rw [Hf.out]; rfl, HB1.out⟩
        · have Hf := Lib.hid (Hf1.out (by omega))
          have hw := Hwr.out (by omega)
          go_wp2
          go_ret2
          exact ⟨by rw [Hf.out]; rfl, HB1.out⟩
    · obtain ⟨ad, rfl, hcell⟩ := Hr1.out.2.2 (by omega)
      have h0 := hcell 0 (by omega)
      have h1 := hcell 1 (by omega)
      rw [show ad.add 0 = ad from by simp [Addr.add]] at h0
      obtain ⟨a, b, hts⟩ : ∃ a b, ts = [a, b] := by
        match ts, Hlen.out with
        | [x, y], _ => exact ⟨x, y, rfl⟩
      have hab : 0 ≤ a ∧ a < 4294967296 ∧ 0 ≤ b ∧ b < 4294967296 ∧ U = b * 4294967296 + a := by
        have h := Hwt.out
        have hu := HU.out
        rw [hts] at h hu
        have ha := h a (by simp)
        have hb := h b (by simp)
        simp [Dv.valW] at hu
        omega
      obtain ⟨ha0, ha1, hb0, hb1, hUab⟩ := hab
      rw [hts] at h0 h1
      simp only [List.getD_cons_zero, List.getD_cons_succ] at h0 h1
      have hor : bits .or .u64 (b * 4294967296) a = U := by
        have := Dv.or_sum b a 32 hb0 (by omega) ha0 (by omega) (by omega)
        rw [hUab]
        exact this
      have hsh : IntKind.u64.wrap (b * 4294967296) = b * 4294967296 := by rw [Dv.u64w]; omega
      have hor2 : bits .or .u64 (IntKind.u64.wrap (b * 4294967296)) a = U := by rw [hsh]; exact hor
      have h1' : W1.cell? ⟨ad.block, ad.off + 1, none⟩ = some (.int .u32 b) := by simpa [Addr.add] using h1
      clear hcell hUab hts
      go_wp2
      go_quiet (fail)
      cases neg
      · by_cases h9 : 9223372036854775808 ≤ U
        · have Hf := Lib.hid (Hf2.out (by omega))
          go_wp2
          go_ret2
          exact ⟨by rw [Hf.out]; rfl, pw_below_drewN HB1.out _⟩
        · have Hf := Lib.hid (Hf3.out (by omega))
          go_wp2
          go_ret2
          exact ⟨by rw [Hf.out]; rfl, pw_below_drewN HB1.out _⟩
      · by_cases h9 : 9223372036854775808 < U
        · have Hf := Lib.hid (Hf0.out (by omega))
          go_wp2
          go_ret2
          exact ⟨by rw [Hf.out]; rfl, pw_below_drewN HB1.out _⟩
        · have Hf := Lib.hid (Hf1.out (by omega))
          have hw := Hwr.out (by omega)
          go_wp2
          go_ret2
          exact ⟨by rw [Hf.out]; rfl, pw_below_drewN HB1.out _⟩
end Go.Proofs.YtiofeehcnegejaaDoor
