/- The walks of the document's own Small and Rest and Whole. -/
import Derived.Test.YtiofeehcnegejaaDoorRfD
namespace Go.Proofs.YtiofeehcnegejaaDoor
open Go.RowKit Go.Proofs.YtiofeehcnegejaaDoorW.PrintWords
set_option linter.unusedVariables false

/-- The int that a size and a sign write, if there is one. -/
def smallS (neg : Bool) (U : Int) : Int × Bool :=
  if neg then (if 9223372036854775808 < U then (0, false) else (-U, true)) else (if 9223372036854775808 ≤ U then (0, false) else (U, true))

theorem or_two (a b : Int) (a0 : 0 ≤ a) (a1 : a < 4294967296) (b0 : 0 ≤ b) (b1 : b < 4294967296) : bits .or .u64 a (IntKind.u64.wrap (b * 4294967296)) = a + 4294967296 * b := by
  have e : IntKind.u64.wrap (b * 4294967296) = b * 2 ^ 32 := by rw [Dv.u64w]; omega
  rw [e, u64_or a (b * 2 ^ 32) a0 (by omega) (by omega) (by omega), Nat.or_comm, ← u64_or (b * 2 ^ 32) a (by omega) (by omega) a0 (by omega), Dv.or_sum b a 32 b0 (by omega) a0 (by omega) (by omega)]
  omega

set_option maxHeartbeats 1600000 in
set_option maxRecDepth 100000 in
theorem small_few (neg : Bool) (A : Option Addr) (n c : Nat) (xs : List Int) (w : World) (hw : Dv.Wd xs) (hr : ReadsInt w .u32 A n xs) (hc : n ≤ c) (hn : n * 4 ≤ 140737488355328) (ht : trimLen xs ≤ 2) :
    Calls Tryd.prog 35 #[.agg #[.bool neg, .slice A n c]] w fun e w' => e = .returned (.tuple #[.int .i64 (smallS neg (Dv.valW xs)).1, .bool (smallS neg (Dv.valW xs)).2]) ∧ Below w.heap.size w w' := by
  have hlt : (xs.take (trimLen xs)).length = trimLen xs := by rw [List.length_take]; have := trimLen_le xs; omega
  have Hlt := Lib.hid hlt; clear hlt
  have Hr := Lib.hid hr; clear hr
  obtain ⟨R, hR⟩ : ∃ R, (neg && decide (0 < trimLen xs)) = R := ⟨_, rfl⟩
  have hmade := fun w hr => refForm_any neg A n c xs w hr hc hn
  rw [hR] at hmade
  have HR := Lib.hid hR; clear hR
  have Hmade := Lib.hid hmade; clear hmade
  obtain ⟨tl, htl⟩ : ∃ tl, trimLen xs = tl := ⟨_, rfl⟩
  rw [htl] at ht
  have Htl := Lib.hid htl; clear htl
  go_enter Tryd.func35, Tryd.ntmps35
  go_upto_block 0 with (go_at_call 37; refine (Hmade.out _ (Hr.out.below ((Below.refl _ w).alloc (Nat.le_refl _) _))).mono ?_; rintro e w' ⟨v, rfl, hown, hb⟩; obtain ⟨A', c', rfl, hc', hr'⟩ := hown.slice; rw [Hlt.out, Htl.out]; have Hown := Lib.hid hown; clear hown; have hb0 := (hb.block w.heap.size (by simp)).trans (blk_new w (.cells #[Value.bool neg, Value.slice A n c] 24)); have Hb0 := Lib.hid hb0; have k0 := blk_cell hb0 0; have k1 := blk_cell hb0 1; have f0 := blk_frozen hb0 0; have f1 := blk_frozen hb0 1; have hz := blk_lt hb0; clear hb0)
  have hcs : Own32 w' w.heap.size (.slice A' tl c') (xs.take (trimLen xs)) := by rw [← Hlt.out.trans Htl.out]; exact Hown.out.lower (by simp)
  have hne : some w.heap.size ≠ (Value.slice A' tl c').ownBlock := own_ne hcs Hb0.out (by decide)
  have hB : Below w.heap.size w w' := ((Below.refl _ w).alloc (Nat.le_refl _) _).trans (hb.mono (by simp))
  have hB2 := (hB.setCell (p := ⟨w.heap.size, 0, none⟩) (Nat.le_refl _) (.bool R)).setCell (p := ⟨w.heap.size, 1, none⟩) (Nat.le_refl _) (.slice A' tl c')
  have hb2 := blk_put (cs := #[.bool R, .slice A n c]) (blk_put (cs := #[.bool neg, .slice A n c]) Hb0.out 0 (.bool R) rfl) 1 (.slice A' tl c') rfl
  have hown2 : Own32 ((w'.setCell ⟨w.heap.size, 0, none⟩ (.bool R)).setCell ⟨w.heap.size, 1, none⟩ (.slice A' tl c')) w.heap.size (.slice A' tl c') (xs.take (trimLen xs)) := own_setCell (own_setCell hcs hne _) hne _
  obtain ⟨A2, c2, e2, _, hr2⟩ := hown2.slice
  rw [Hlt.out.trans Htl.out] at e2 hr2
  obtain ⟨rfl, _, rfl⟩ := Value.slice.inj e2
  generalize (w'.setCell ⟨w.heap.size, 0, none⟩ (.bool R)).setCell ⟨w.heap.size, 1, none⟩ (.slice A' tl c') = W2 at *
  have k20 := blk_cell hb2 0
  have k21 := blk_cell hb2 1
  clear k0 k1 f0 f1 hcs hne hB hb hb2 hown2 e2 hr' Hown Hb0 hz hc'
  have hvt := valW_trim xs
  have hwt := hw.take (trimLen xs)
  have hS : smallS neg (Dv.valW (xs.take (trimLen xs))) = smallS R (Dv.valW (xs.take (trimLen xs))) := by
    rw [← HR.out]
    by_cases h0 : 0 < trimLen xs
    · simp [h0]
    · have e : xs.take (trimLen xs) = [] := by rw [show trimLen xs = 0 by omega]; rfl
      rw [e]
      cases neg <;> simp [smallS, Dv.valW, h0]
  rw [hvt] at hS
  have HS : smallS neg (Dv.valW xs) = smallS R (Dv.valW (xs.take (trimLen xs))) := hS.trans (by rw [← hvt])
  clear hS
  have htl := Htl.out
  clear HR hvt Hmade Hr
  generalize xs.take (trimLen xs) = ts at *
  have hlen : ts.length = tl := by rw [Hlt.out, htl]
  have Hlen := Lib.hid hlen; clear hlen htl Hlt Htl
  have Hr2 := Lib.hid hr2; clear hr2
  have Hwt := Lib.hid hwt; clear hwt hw
  obtain ⟨U, hU⟩ : ∃ U, Dv.valW ts = U := ⟨_, rfl⟩
  rw [hU] at HS
  have HU := Lib.hid hU; clear hU
  have HS' := Lib.hid HS; clear HS
  go_cut [4] (fun a wc => a = .int .u64 U ∧ wc = W2)
  case first =>
    go_wp2
    go_loop [4, 5] (fun a i => ∃ k : Nat, k ≤ tl ∧ i = .int .i64 k ∧ a = .int .u64 (Dv.valW (ts.take k))) (fun _ i => tl - (intOf i).toNat)
    case atStart => exact ⟨0, Nat.zero_le _, rfl, by simp [Dv.valW]⟩
    case round =>
      obtain ⟨k, hk, rfl, rfl⟩ := hrel
      by_cases hlt : k < tl
      · obtain ⟨ad, rfl, hcell⟩ := Hr2.out.at_ (k : Int) (by omega) (by omega)
        rw [Int.toNat_natCast] at hcell
        obtain ⟨hx0, hx1⟩ := Hwt.out.get (k : Int)
        have hsn := take_succ_rd ts k (by rw [Hlen.out]; exact hlt)
        have hvs := congrArg Dv.valW hsn
        rw [Dv.valW_snoc, List.length_take, Hlen.out, Nat.min_eq_left hk] at hvs
        clear hsn
        rcases (show k = 0 ∨ k = 1 by omega) with rfl | rfl
        · have hc0 : W2.cell? ad = some (.int .u32 (rd ts 0)) := by simpa [Addr.add] using hcell
          have hx0' : 0 ≤ rd ts 0 := hx0
          have hx1' : rd ts 0 < 4294967296 := hx1
          have hv0 : bits .or .u64 0 (rd ts 0) = Dv.valW (ts.take 1) := by
            have := Dv.or_sum 0 (rd ts 0) 32 (by omega) (by omega) hx0' (by omega) (by omega)
            rw [Int.zero_mul, Int.zero_add] at this
            rw [this]; have := hvs; simp [Dv.valW] at this; exact this.symm
          have Hv0 := Lib.hid hv0
          have e0 : Dv.valW [] = 0 := rfl
          clear hcell hvs hx0 hx1
          go_wp2
          go_round
          case rel => exact ⟨1, by omega, by go_num, rfl⟩
          case measure => simp [intOf]; omega
        · have hx0' : 0 ≤ rd ts 1 := hx0
          have hx1' : rd ts 1 < 4294967296 := hx1
          have hc0 : W2.cell? ⟨ad.block, ad.off + 1, none⟩ = some (.int .u32 (rd ts 1)) := by simpa [Addr.add] using hcell
          have hv1 : bits .or .u64 (Dv.valW (ts.take 1)) (IntKind.u64.wrap (rd ts 1 * 4294967296)) = Dv.valW (ts.take 2) := by
            have e1 : ts.take 1 = [rd ts 0] := by
              have := take_succ_rd ts 0 (by rw [Hlen.out]; omega); simpa using this
            have e2 : Dv.valW (ts.take 1) = rd ts 0 := by rw [e1]; simp [Dv.valW]
            obtain ⟨y0, y1⟩ := Hwt.out.get 0
            have h2 := hvs
            rw [e2] at h2 ⊢
            rw [or_two _ _ y0 y1 hx0' hx1']
            have e3 : (2 : Int) ^ (32 * 1) = 4294967296 := by decide
            rw [e3] at h2
            exact h2.symm
          rw [IntWalk.u64_in (rd ts 1 * 4294967296) ⟨by omega, by omega⟩] at hv1
          clear hcell hx0 hx1 hvs
          go_wp2
          go_round
          case rel => exact ⟨2, by omega, by go_num, rfl⟩
          case measure => simp [intOf]; omega
      · have hkt : k = tl := by omega
        have he : Dv.valW (ts.take tl) = U := by rw [← HU.out, List.take_of_length_le (by rw [Hlen.out]; omega)]
        have He := Lib.hid he; clear he
        go_wp2
        go_meet
        exact ⟨by rw [He.out], rfl⟩
  case rest =>
    obtain ⟨rfl, rfl⟩ := hcut
    have hU0 : 0 ≤ U := by rw [← HU.out]; exact Dv.valW_nonneg Hwt.out
    have hU1 : U ≤ 18446744073709551615 := by
      rw [← HU.out]
      have h1 := Dv.valW_lt Hwt.out
      rw [Hlen.out] at h1
      rcases (show tl = 0 ∨ tl = 1 ∨ tl = 2 by omega) with rfl | rfl | rfl <;> simp at h1 <;> omega
    cases R
    · by_cases h9 : 9223372036854775808 ≤ U
      · have hf : smallS false U = (0, false) := by simp [smallS]; omega
        have Hf := Lib.hid hf; clear hf
        go_wp2
        go_ret2
        exact ⟨by rw [HS'.out, Hf.out]; rfl, hB2⟩
      · have hf : smallS false U = (U, true) := by simp [smallS]; omega
        have Hf := Lib.hid hf; clear hf
        go_wp2
        go_ret2
        exact ⟨by rw [HS'.out, Hf.out]; rfl, hB2⟩
    · by_cases h9 : 9223372036854775808 < U
      · have hf : smallS true U = (0, false) := by simp [smallS]; omega
        have Hf := Lib.hid hf; clear hf
        go_wp2
        go_ret2
        exact ⟨by rw [HS'.out, Hf.out]; rfl, hB2⟩
      · have hf : smallS true U = (-U, true) := by simp [smallS]; omega
        have hw : wrap64 (IntKind.u64.wrap (-U)) = -U := by rw [Dv.u64w]; unfold wrap64; omega
        have Hf := Lib.hid hf; clear hf
        go_wp2
        go_ret2
        exact ⟨by rw [HS'.out, Hf.out]; rfl, hB2⟩





set_option maxHeartbeats 1600000 in
set_option maxRecDepth 100000 in
theorem small_many (neg : Bool) (A : Option Addr) (n c : Nat) (xs : List Int) (w : World) (hw : Dv.Wd xs) (hr : ReadsInt w .u32 A n xs) (hc : n ≤ c) (hn : n * 4 ≤ 140737488355328) (ht : 2 < trimLen xs) :
    Calls Tryd.prog 35 #[.agg #[.bool neg, .slice A n c]] w fun e w' => e = .returned (.tuple #[.int .i64 (smallS neg (Dv.valW xs)).1, .bool (smallS neg (Dv.valW xs)).2]) ∧ Below w.heap.size w w' := by
  have hS : smallS neg (Dv.valW xs) = (0, false) := by
    obtain ⟨m, hm⟩ : ∃ m, trimLen xs = m + 1 := ⟨trimLen xs - 1, by omega⟩
    have h1 := val_great xs hw m hm
    have h2 : (2 : Int) ^ 64 ≤ 2 ^ (32 * m) := by
      rw [show 32 * m = 64 + (32 * m - 64) by omega, Int.pow_add]
      have := Dv.pow_pos' (32 * m - 64)
      have : (2 : Int) ^ 64 * 1 ≤ 2 ^ 64 * 2 ^ (32 * m - 64) := Int.mul_le_mul_of_nonneg_left (by omega) (by decide)
      omega
    have e : (2 : Int) ^ 64 = 18446744073709551616 := by decide
    cases neg <;> simp [smallS] <;> omega
  have HS' := Lib.hid hS; clear hS
  have hlt : (xs.take (trimLen xs)).length = trimLen xs := by rw [List.length_take]; have := trimLen_le xs; omega
  have Hlt := Lib.hid hlt; clear hlt
  have Hr := Lib.hid hr; clear hr
  obtain ⟨R, hR⟩ : ∃ R, (neg && decide (0 < trimLen xs)) = R := ⟨_, rfl⟩
  have hmade := fun w hr => refForm_any neg A n c xs w hr hc hn
  rw [hR] at hmade
  clear hR
  have Hmade := Lib.hid hmade; clear hmade
  obtain ⟨tl, htl⟩ : ∃ tl, trimLen xs = tl := ⟨_, rfl⟩
  rw [htl] at ht
  have Htl := Lib.hid htl; clear htl
  go_enter Tryd.func35, Tryd.ntmps35
  go_wp2_with (go_at_call 37; refine (Hmade.out _ (Hr.out.below ((Below.refl _ w).alloc (Nat.le_refl _) _))).mono ?_; rintro e w' ⟨v, rfl, hown, hb⟩; obtain ⟨A', c', rfl, hc', hr'⟩ := hown.slice; rw [Hlt.out, Htl.out]; clear hown; have hb0 := (hb.block w.heap.size (by simp)).trans (blk_new w (.cells #[Value.bool neg, Value.slice A n c] 24)); have k0 := blk_cell hb0 0; have k1 := blk_cell hb0 1; have f0 := blk_frozen hb0 0; have f1 := blk_frozen hb0 1; have hz := blk_lt hb0; clear hb0)
  have hB : Below w.heap.size w w' := ((Below.refl _ w).alloc (Nat.le_refl _) _).trans (hb.mono (by simp))
  go_ret2
  exact ⟨by rw [HS'.out]; rfl, (hB.setCell (p := ⟨w.heap.size, 0, none⟩) (Nat.le_refl _) _).setCell (p := ⟨w.heap.size, 1, none⟩) (Nat.le_refl _) _⟩

theorem small_any (neg : Bool) (A : Option Addr) (n c : Nat) (xs : List Int) (w : World) (hw : Dv.Wd xs) (hr : ReadsInt w .u32 A n xs) (hc : n ≤ c) (hn : n * 4 ≤ 140737488355328) :
    Calls Tryd.prog 35 #[.agg #[.bool neg, .slice A n c]] w fun e w' => e = .returned (.tuple #[.int .i64 (smallS neg (Dv.valW xs)).1, .bool (smallS neg (Dv.valW xs)).2]) ∧ Below w.heap.size w w' := by
  rcases Nat.lt_or_ge 2 (trimLen xs) with h | h
  · exact small_many neg A n c xs w hw hr hc hn h
  · exact small_few neg A n c xs w hw hr hc hn h
end Go.Proofs.YtiofeehcnegejaaDoor
