/- Whole numbers: Sub, Mul, times by value; numbers in one form compared word by word. -/
import Derived.Test.YtiofeehcnegejaaDoorWhX
namespace Go.Proofs.YtiofeehcnegejaaDoor
open Go.RowKit Go.Proofs.YtiofeehcnegejaaDoorW.PrintWords
set_option linter.unusedVariables false
set_option linter.unusedSimpArgs false

theorem Mul_num {na nb : Bool} {A B : Option Addr} {n n' c c' : Nat} {V U : Int} {w : World} (h : NumIs w na A n c V) (h' : NumIs w nb B n' c' U) (h1 : V < tooBig) (h2 : -V < tooBig) (h3 : U < tooBig) (h4 : -U < tooBig) :
    Calls Tryd.prog 27 #[.agg #[.bool na, .slice A n c], .agg #[.bool nb, .slice B n' c']] w fun e w' => ∃ s A n c er, e = .returned (.tuple #[.agg #[.bool s, .slice A n c], .int .i64 er]) ∧ AnsIs w' s A n c er (V * U) ∧ Below w.heap.size w w' := by
  obtain ⟨xs, rfl, hc, hn, hr, hw, rfl, ht⟩ := h.short h1 h2
  obtain ⟨ys, rfl, hc', hn', hr', hw', rfl, ht'⟩ := h'.short h3 h4
  exact Mul_any na nb A B c c' xs ys w hw hw' hr hr' hc hc' hn hn' ht ht'

set_option maxRecDepth 100000 in
set_option maxHeartbeats 1000000 in
/-- A product that is not too big. -/
theorem times_num {na nb : Bool} {A B : Option Addr} {n n' c c' : Nat} {V U : Int} {w : World} (h : NumIs w na A n c V) (h' : NumIs w nb B n' c' U) (h1 : V < tooBig) (h2 : -V < tooBig) (h3 : U < tooBig) (h4 : -U < tooBig) (h5 : V * U < tooBig) (h6 : -(V * U) < tooBig) :
    Calls Tryd.prog 32 #[.agg #[.bool na, .slice A n c], .agg #[.bool nb, .slice B n' c']] w fun e w' => ∃ s A n c, e = .returned (.tuple #[.agg #[.bool s, .slice A n c], .bool true]) ∧ FormIs w' s A n c (V * U) ∧ n ≤ 256 ∧ Below w.heap.size w w' := by
  obtain ⟨W0, hW0⟩ : ∃ W0, W0 = ((w.alloc (.cells #[.bool na, .slice A n c] 24)).alloc (.cells #[.bool nb, .slice B n' c'] 24)).alloc (.cells #[.bool false, .slice none 0 0] 24) := ⟨_, rfl⟩
  have hb0 : Below w.heap.size w W0 := by rw [hW0]; exact below_alloc (below_alloc (below_alloc (Below.refl _ _) _) _) _
  have h0 := addAt_start w na nb A B n n' c c' W0 hW0
  have hadd := Mul_num (h.below hb0) (h'.below hb0) h1 h2 h3 h4
  have c0 := blk_cell h0.a 0; have c1 := blk_cell h0.a 1; have d0 := blk_cell h0.b 0; have d1 := blk_cell h0.b 1
  have kr := h0.r
  have hadd' : Calls Tryd.prog 27 #[.agg #[.bool na, .slice A n c], .agg #[.bool nb, .slice B n' c']] W0 fun e w' => ∃ s A n c, e = .returned (.tuple #[.agg #[.bool s, .slice A n c], .int .i64 0]) ∧ (FormIs w' s A n c (V * U) ∧ n ≤ 256) ∧ Below W0.heap.size W0 w' := by
    refine hadd.mono ?_
    rintro e w' ⟨s, A, n, c, er, rfl, ha, hb⟩
    obtain ⟨rfl, hf, hn⟩ := ha.form h5 h6
    exact ⟨s, A, n, c, rfl, ⟨hf, hn⟩, hb⟩
  have Hadd := Lib.hid hadd'; have HW0 := Lib.hid hW0; have HB0 := Lib.hid hb0; have Kr := Lib.hid kr
  clear h0 hadd hadd' hW0 hb0 kr h h'
  go_enter Tryd.func32, Tryd.ntmps32
  go_upto_region 1 with (fail)
  rw [← HW0.out]
  go_wp2_with (go_at_call 27; refine Hadd.out.mono ?_; rintro e W1 ⟨s1, A1, n1, c1, rfl, ⟨hf1, hn1⟩, hb1⟩; have HB1 := Lib.hid (below_then HB0.out HB0.out.size hb1); have Kr1 := Lib.hid (blk_below Kr.out hb1); have kr2 := blk_alloc Kr1.out (.cells #[.bool s1, .slice A1 n1 c1] 24); have r0 := blk_cell kr2 0; have r1 := blk_cell kr2 1; have f0 := blk_frozen kr2 0; have f1 := blk_frozen kr2 1; have Kr2 := Lib.hid kr2; have HB2 := Lib.hid (below_alloc HB1.out (.cells #[.bool s1, .slice A1 n1 c1] 24)); have HF1 := Lib.hid (hf1.below (below_alloc (Below.refl _ _) (.cells #[.bool s1, .slice A1 n1 c1] 24))); clear hf1 hb1 kr2)
  refine bodyPost_ret (results_ct rfl _ _ (w.heap.size + 1 + 1) 24 #[.bool s1, .slice A1 n1 c1] (0, 0) _ rfl (blk_put (cs := #[.bool s1, .slice none 0 0]) (blk_put (cs := #[.bool false, .slice none 0 0]) Kr2.out 0 _ rfl) 1 _ rfl) Tryd.underlying24 rfl (by kernel_rfl)) rfl ?_
  have k2 := blk_put (cs := #[.bool false, .slice none 0 0]) (cs' := #[.bool s1, .slice none 0 0]) Kr2.out 0 (.bool s1) rfl
  exact ⟨s1, A1, n1, c1, rfl, (HF1.out.put Kr2.out (no_words _ _ _ _) 0 _).put k2 (no_words _ _ _ _) 1 _, hn1, (HB2.out.setCell (p := ⟨w.heap.size + 1 + 1, 0, none⟩) (by simp; omega) _).setCell (p := ⟨w.heap.size + 1 + 1, 1, none⟩) (by simp; omega) _⟩

theorem NumIs.neg {W : World} {s : Bool} {A : Option Addr} {n c : Nat} {V : Int} (h : NumIs W s A n c V) : NumIs W (!s) A n c (-V) := by
  obtain ⟨zs, h4, h5, h6, h7, hw, rfl⟩ := h
  refine ⟨zs, h4, h5, h6, h7, hw, ?_⟩
  unfold vI
  cases s <;> simp
set_option maxRecDepth 100000 in
set_option maxHeartbeats 1000000 in
theorem Sub_num {na nb : Bool} {A B : Option Addr} {n n' c c' : Nat} {V U : Int} {w : World} (h : NumIs w na A n c V) (h' : NumIs w nb B n' c' U) (h1 : V < tooBig) (h2 : -V < tooBig) (h3 : U < tooBig) (h4 : -U < tooBig) :
    Calls Tryd.prog 25 #[.agg #[.bool na, .slice A n c], .agg #[.bool nb, .slice B n' c']] w fun e w' => ∃ s A n c er, e = .returned (.tuple #[.agg #[.bool s, .slice A n c], .int .i64 er]) ∧ AnsIs w' s A n c er (V - U) ∧ Below w.heap.size w w' := by
  obtain ⟨W0, hW0⟩ : ∃ W0, W0 = ((w.alloc (.cells #[.bool na, .slice A n c] 24)).alloc (.cells #[.bool nb, .slice B n' c'] 24)).alloc (.cells #[.bool false, .slice none 0 0] 24) := ⟨_, rfl⟩
  have hb0 : Below w.heap.size w W0 := by rw [hW0]; exact below_alloc (below_alloc (below_alloc (Below.refl _ _) _) _) _
  have h0 := addAt_start w na nb A B n n' c c' W0 hW0
  have hadd := Add_num (h.below hb0) (h'.neg.below hb0) h1 h2 (by omega) (by omega)
  rw [← Int.sub_eq_add_neg] at hadd
  have c0 := blk_cell h0.a 0; have c1 := blk_cell h0.a 1; have d0 := blk_cell h0.b 0; have d1 := blk_cell h0.b 1
  have Hadd := Lib.hid hadd; have HW0 := Lib.hid hW0; have HA0 := Lib.hid h0
  clear h0 hadd hW0 hb0 h h' h1 h2 h3 h4
  go_enter Tryd.func25, Tryd.ntmps25
  go_upto_region 1 with (fail)
  rw [← HW0.out]
  go_wp2_with (go_at_call 22; refine Hadd.out.mono ?_; rintro e W1 ⟨s6, A6, n6, c6, er6, rfl, hans, hb1⟩; have HA6 := Lib.hid (HA0.out.below hb1); have Hans := Lib.hid hans; have r0 := blk_cell HA6.out.r 0; have r1 := blk_cell HA6.out.r 1; have f0 := blk_frozen HA6.out.r 0; have f1 := blk_frozen HA6.out.r 1; clear hans hb1)
  have k2 := blk_put (cs := #[.bool false, .slice none 0 0]) (cs' := #[.bool s6, .slice none 0 0]) HA6.out.r 0 (.bool s6) rfl
  refine bodyPost_ret (results_ct rfl _ _ (w.heap.size + 1 + 1) 24 #[.bool s6, .slice A6 n6 c6] (0, 0) _ rfl (blk_put (cs := #[.bool s6, .slice none 0 0]) k2 1 _ rfl) Tryd.underlying24 rfl (by kernel_rfl)) rfl ?_
  exact ⟨s6, A6, n6, c6, er6, rfl, (Hans.out.put HA6.out.r (no_words _ _ _ _) 0 (.bool s6)).put k2 (no_words _ _ _ _) 1 (.slice A6 n6 c6), (HA6.out.bel.setCell (p := ⟨w.heap.size + 1 + 1, 0, none⟩) (by simp; omega) _).setCell (p := ⟨w.heap.size + 1 + 1, 1, none⟩) (by simp; omega) _⟩

/-! ### One form -/
theorem valW_inj : ∀ (xs ys : List Int), Dv.Wd xs → Dv.Wd ys → xs.length = ys.length → Dv.valW xs = Dv.valW ys → xs = ys
  | [], [], _, _, _, _ => rfl
  | [], y :: ys, _, _, h, _ => by simp at h
  | x :: xs, [], _, _, h, _ => by simp at h
  | x :: xs, y :: ys, hx, hy, h, hv => by
    simp only [Dv.valW] at hv
    have h1 := hx.cons
    have h2 := hy.cons
    have e : x = y := by omega
    have e2 : Dv.valW xs = Dv.valW ys := by omega
    rw [e, valW_inj xs ys h1.2 h2.2 (by simpa using h) e2]
theorem form_unique {s s' : Bool} {zs zs' : List Int} (hw : Dv.Wd zs) (hw' : Dv.Wd zs') (ht : trimLen zs = zs.length) (ht' : trimLen zs' = zs'.length) (hs : s = true → 0 < zs.length) (hs' : s' = true → 0 < zs'.length) (h : vI s zs = vI s' zs') : s = s' ∧ zs = zs' := by
  have h0 := Dv.valW_nonneg hw
  have h0' := Dv.valW_nonneg hw'
  have key : Dv.valW zs = Dv.valW zs' → zs = zs' := fun e => by
    refine valW_inj zs zs' hw hw' ?_ e
    rcases Nat.lt_trichotomy zs.length zs'.length with hl | hl | hl
    · have := val_len hw hw' (by rw [ht, ht']; exact hl); omega
    · exact hl
    · have := val_len hw' hw (by rw [ht, ht']; exact hl); omega
  have pos : ∀ {s : Bool} {l : List Int}, Dv.Wd l → trimLen l = l.length → (s = true → 0 < l.length) → s = true → 0 < Dv.valW l := fun hw ht hs e => trim_pos hw (by have := hs e; omega)
  unfold vI at h
  cases s <;> cases s'
  · exact ⟨rfl, key (by simpa using h)⟩
  · have := pos hw' ht' hs' rfl; simp at h; omega
  · have := pos hw ht hs rfl; simp at h; omega
  · exact ⟨rfl, key (by simp at h; omega)⟩

set_option maxRecDepth 100000 in
set_option maxHeartbeats 1600000 in
/-- Words that are alike. -/
theorem same_words (na : Bool) (A B : Option Addr) (n c c' : Nat) (xs : List Int) (w : World) (hr : ReadsInt w .u32 A n xs) (hr' : ReadsInt w .u32 B n xs) (hn : n ≤ 9223372036854775807) :
    Calls Tryd.prog 18 #[.agg #[.bool na, .slice A n c], .agg #[.bool na, .slice B n c']] w fun e w' => e = .returned (.bool true) ∧ Below w.heap.size w w' := by
  obtain ⟨W0, hW0⟩ : ∃ W0, W0 = (w.alloc (.cells #[.bool na, .slice A n c] 24)).alloc (.cells #[.bool na, .slice B n c'] 24) := ⟨_, rfl⟩
  have hb0 : Below w.heap.size w W0 := by rw [hW0]; exact below_alloc (below_alloc (Below.refl _ _) _) _
  have ka : W0.heap[w.heap.size]? = some (.cells #[.bool na, .slice A n c] 24 (0, 0)) := by rw [hW0]; exact (below_alloc (Below.refl (w.alloc (.cells #[.bool na, .slice A n c] 24)).heap.size _) _).block _ (by simp) |>.trans (blk_new w _)
  have kb : W0.heap[w.heap.size + 1]? = some (.cells #[.bool na, .slice B n c'] 24 (0, 0)) := by
    have h := blk_new (w.alloc (.cells #[.bool na, .slice A n c] 24)) (.cells #[.bool na, .slice B n c'] 24)
    rw [World.size_alloc] at h; rw [hW0]; exact h
  have a0 := blk_cell ka 0; have a1 := blk_cell ka 1; have b0 := blk_cell kb 0; have b1 := blk_cell kb 1
  have HB0 := Lib.hid hb0; have HW0 := Lib.hid hW0; have Hr := Lib.hid (hr.below hb0); have Hr' := Lib.hid (hr'.below hb0)
  clear hb0 hW0 ka kb hr hr'
  go_enter Tryd.func18, Tryd.ntmps18
  go_upto_region 1 with (fail)
  rw [← HW0.out]
  go_wp2
  go_loopw [5] (fun iv wr => ∃ (i q : Nat), i ≤ n ∧ iv = .int .i64 i ∧ wr = W0.drewN q) (fun iv _ => n - (intOf iv).toNat)
  case atStart => exact ⟨0, 0, Nat.zero_le _, rfl, rfl⟩
  case round =>
    obtain ⟨i, q, hi, rfl, rfl⟩ := hrel
    by_cases hil : i < n
    · obtain ⟨ad, hae, hcx⟩ := Hr.out.at_ (i : Int) (by omega) (by omega)
      obtain ⟨bd, hbe, hcy⟩ := Hr'.out.at_ (i : Int) (by omega) (by omega)
      subst hae hbe
      rw [Int.toNat_natCast] at hcx hcy
      generalize rd xs (i : Int) = x at *
      have p0 : (0 : Int) ≤ (i : Int) := by omega
      have p1 : (i : Int) < (n : Int) := by omega
      go_upto_region 6 with (fail)
      go_quiet (fail)
      go_wp2
      go_roundw
      case rel => exact ⟨i + 1, _, by omega, by go_num, rfl⟩
      case measure => simp [intOf]; omega
    · have hin : i = n := by omega
      subst hin
      go_wp2
      go_ret
      exact ⟨rfl, pw_below_drewN HB0.out q⟩
/-- Two forms of one number. -/
theorem same_form {na nb : Bool} {A B : Option Addr} {n n' c c' : Nat} {V : Int} {w : World} (h : FormIs w na A n c V) (h' : FormIs w nb B n' c' V) :
    Calls Tryd.prog 18 #[.agg #[.bool na, .slice A n c], .agg #[.bool nb, .slice B n' c']] w fun e w' => e = .returned (.bool true) ∧ Below w.heap.size w w' := by
  obtain ⟨xs, e1, hc, hr, hw, ht, hs, hv⟩ := h
  obtain ⟨ys, e2, hc', hr', hw', ht', hs', hv'⟩ := h'
  obtain ⟨rfl, rfl⟩ := form_unique hw hw' (by omega) (by omega) (by rw [← e1]; exact hs) (by rw [← e2]; exact hs') (hv.trans hv'.symm)
  obtain rfl : n = n' := by omega
  exact same_words na A B n c c' xs w hr hr' hr.2.1
end Go.Proofs.YtiofeehcnegejaaDoor
