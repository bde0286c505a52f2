/- Whole numbers: Add. (The unlike signs' ways written by a program off the like signs'.) -/
import Derived.Test.YtiofeehcnegejaaDoorWhJ
namespace Go.Proofs.YtiofeehcnegejaaDoor
open Go.RowKit Go.Proofs.YtiofeehcnegejaaDoorW.PrintWords
set_option linter.unusedVariables false
set_option linter.unusedSimpArgs false

/-- What Add has in its memory. -/
structure AddAt (w W : World) (na nb : Bool) (A B : Option Addr) (n n' c c' : Nat) : Prop where
  a : W.heap[w.heap.size]? = some (.cells #[.bool na, .slice A n c] 24 (0, 0))
  b : W.heap[w.heap.size + 1]? = some (.cells #[.bool nb, .slice B n' c'] 24 (0, 0))
  r : W.heap[w.heap.size + 1 + 1]? = some (.cells #[.bool false, .slice none 0 0] 24 (0, 0))
  bel : Below w.heap.size w W
theorem AddAt.below {w W W' : World} {na nb : Bool} {A B : Option Addr} {n n' c c' : Nat} (h : AddAt w W na nb A B n n' c c') (hb : Below W.heap.size W W') : AddAt w W' na nb A B n n' c c' :=
  ⟨blk_below h.a hb, blk_below h.b hb, blk_below h.r hb, below_then h.bel h.bel.size hb⟩
theorem addAt_start (w : World) (na nb : Bool) (A B : Option Addr) (n n' c c' : Nat) (W : World) (e : W = ((w.alloc (.cells #[.bool na, .slice A n c] 24)).alloc (.cells #[.bool nb, .slice B n' c'] 24)).alloc (.cells #[.bool false, .slice none 0 0] 24)) : AddAt w W na nb A B n n' c c' := by
  subst e
  obtain ⟨W1, h1⟩ : ∃ W1, W1 = w.alloc (.cells #[.bool na, .slice A n c] 24) := ⟨_, rfl⟩
  obtain ⟨W2, h2⟩ : ∃ W2, W2 = W1.alloc (.cells #[.bool nb, .slice B n' c'] 24) := ⟨_, rfl⟩
  rw [← h1, ← h2]
  have s1 : W1.heap.size = w.heap.size + 1 := by rw [h1]; simp
  have s2 : W2.heap.size = w.heap.size + 1 + 1 := by rw [h2]; simp [s1]
  have b1 : Below w.heap.size w W1 := by rw [h1]; exact below_alloc (Below.refl _ _) _
  have b2 : Below W1.heap.size W1 W2 := by rw [h2]; exact below_alloc (Below.refl _ _) _
  have b3 : Below W2.heap.size W2 (W2.alloc (.cells #[.bool false, .slice none 0 0] 24)) := below_alloc (Below.refl _ _) _
  have ka : W1.heap[w.heap.size]? = some (.cells #[.bool na, .slice A n c] 24 (0, 0)) := by rw [h1]; exact blk_new w _
  have kb : W2.heap[w.heap.size + 1]? = some (.cells #[.bool nb, .slice B n' c'] 24 (0, 0)) := by
    have h := blk_new W1 (.cells #[.bool nb, .slice B n' c'] 24)
    rw [s1] at h; rw [h2]; exact h
  have kr := blk_new W2 (.cells #[.bool false, .slice none 0 0] 24)
  rw [s2] at kr
  exact ⟨blk_below (blk_below ka b2) b3, blk_below kb b3, kr, below_then (below_then b1 b1.size b2) (below_then b1 b1.size b2).size b3⟩

set_option maxRecDepth 100000 in
set_option maxHeartbeats 3200000 in
theorem Add_any (na nb : Bool) (A B : Option Addr) (c c' : Nat) (xs ys : List Int) (w : World) (hx : Dv.Wd xs) (hy : Dv.Wd ys) (hr : ReadsInt w .u32 A xs.length xs) (hr' : ReadsInt w .u32 B ys.length ys) (hc : xs.length ≤ c) (hc' : ys.length ≤ c') (hn : xs.length ≤ 100000) (hn' : ys.length ≤ 100000) (hlx : trimLen xs ≤ 256) (hly : trimLen ys ≤ 256) :
    Calls Tryd.prog 22 #[.agg #[.bool na, .slice A xs.length c], .agg #[.bool nb, .slice B ys.length c']] w fun e w' => ∃ s A n c er, e = .returned (.tuple #[.agg #[.bool s, .slice A n c], .int .i64 er]) ∧ AnsIs w' s A n c er (vI na xs + vI nb ys) ∧ Below w.heap.size w w' := by
  obtain ⟨W0, hW0⟩ : ∃ W0, W0 = ((w.alloc (.cells #[.bool na, .slice A xs.length c] 24)).alloc (.cells #[.bool nb, .slice B ys.length c'] 24)).alloc (.cells #[.bool false, .slice none 0 0] 24) := ⟨_, rfl⟩
  have h0 := addAt_start w na nb A B _ _ c c' W0 hW0
  have hla := fun W (h : AddAt w W na nb A B xs.length ys.length c c') => long_any na A xs.length c xs W (hr.below h.bel) hc (by omega)
  have hlb := fun W (h : AddAt w W na nb A B xs.length ys.length c c') => long_any nb B ys.length c' ys W (hr'.below h.bel) hc' (by omega)
  rw [show decide (256 < trimLen xs) = false by simp; omega] at hla
  rw [show decide (256 < trimLen ys) = false by simp; omega] at hlb
  have hta := fun W (h : AddAt w W na nb A B xs.length ys.length c c') q => trim_any A xs.length c xs (W.drewN q) ((hr.below h.bel).below (pw_below_drewN (Below.refl _ _) q)) hc (by omega)
  have htb := fun W (h : AddAt w W na nb A B xs.length ys.length c c') q => trim_any B ys.length c' ys (W.drewN q) ((hr'.below h.bel).below (pw_below_drewN (Below.refl _ _) q)) hc' (by omega)
  obtain ⟨s, hs⟩ : ∃ s, s = trimLen xs := ⟨_, rfl⟩
  obtain ⟨t, ht⟩ : ∃ t, t = trimLen ys := ⟨_, rfl⟩
  rw [← hs] at hta
  rw [← ht] at htb
  obtain ⟨n, hnn⟩ : ∃ n, n = xs.length := ⟨_, rfl⟩
  obtain ⟨n', hnn'⟩ : ∃ n', n' = ys.length := ⟨_, rfl⟩
  rw [← hnn, ← hnn'] at h0 hla hlb hta htb ⊢
  rw [← hnn, ← hnn'] at hW0
  have a1 := fun W (h : AddAt w W na nb A B n n' c c') => blk_cell h.a 1
  have H0 := Lib.hid h0; have HW0 := Lib.hid hW0; have Hla := Lib.hid hla; have Hlb := Lib.hid hlb; have Hta := Lib.hid hta; have Htb := Lib.hid htb; have Hs := Lib.hid hs; have Ht := Lib.hid ht; have Hn := Lib.hid hnn; have Hn' := Lib.hid hnn'
  have Hr := Lib.hid hr; have Hr' := Lib.hid hr'; have Hx := Lib.hid hx; have Hy := Lib.hid hy
  have c0 := blk_cell h0.a 0
  have c1 := blk_cell h0.a 1
  clear h0 hW0 hla hlb hta htb hs ht hnn hnn' hr hr' hx hy a1
  go_enter Tryd.func22, Tryd.ntmps22
  go_upto_region 1 with (fail)
  rw [← HW0.out]
  go_upto_region 3 with (first | (go_at_call 61; refine (Hlb.out _ HA1.out).mono ?_; rintro e W2 ⟨rfl, hb2⟩; have HA2 := Lib.hid (HA1.out.below hb2); clear hb2) | (go_at_call 61; refine (Hla.out _ H0.out).mono ?_; rintro e W1 ⟨rfl, hb1⟩; have HA1 := Lib.hid (H0.out.below hb1); have d0 := blk_cell HA1.out.b 0; have d1 := blk_cell HA1.out.b 1; clear hb1))
  have e0 := blk_cell HA2.out.a 0
  have e1 := blk_cell HA2.out.a 1
  have f0 := blk_cell HA2.out.b 0
  have f1 := blk_cell HA2.out.b 1
  clear c0 c1 d0 d1
  go_quiet (first | (go_at_call 54; with_reducible refine Calls.quiet_of (Hta.out W2 HA2.out _)) | (go_at_call 54; with_reducible refine Calls.quiet_of (Htb.out W2 HA2.out _)))
  have HA3 := Lib.hid (HA2.out.below (pw_below_drewN (Below.refl _ _) nq))
  have e0 := blk_cell HA3.out.a 0
  have e1 := blk_cell HA3.out.a 1
  have f0 := blk_cell HA3.out.b 0
  have f1 := blk_cell HA3.out.b 1
  generalize W2.drewN nq = W3 at *
  by_cases hab : na = nb
  · have hbe : (na == nb) = true := by rw [hab]; simp
    have hV : vI na (xs.take s) + vI na (ys.take t) = vI na xs + vI nb ys := by
      rw [← hab]; unfold vI; rw [Hs.out, Ht.out, valW_trim, valW_trim]
    have hV2 : ∀ zs : List Int, Dv.valW zs = Dv.valW (xs.take s) + Dv.valW (ys.take t) → vI na zs = vI na xs + vI nb ys := fun zs h => by
      rw [← hV]; unfold vI; rw [h]; cases na <;> simp; omega
    have hlx' : (xs.take s).length = s := by rw [List.length_take, Hs.out]; have := trimLen_le xs; omega
    have hly' : (ys.take t).length = t := by rw [List.length_take, Ht.out]; have := trimLen_le ys; omega
    have hs1 : s ≤ 256 := by rw [Hs.out]; exact hlx
    have ht1 : t ≤ 256 := by rw [Ht.out]; exact hly
    have hsc : s ≤ c := by have := Hs.out; have := trimLen_le xs; omega
    have htc : t ≤ c' := by have := Ht.out; have := trimLen_le ys; omega
    have hrx : ReadsInt w .u32 A s (xs.take s) := by have h := form_reads (A' := A) (c' := c) (c := c) Hr.out (.inr ⟨rfl, rfl⟩); rw [← Hs.out] at h; exact h
    have hry : ReadsInt w .u32 B t (ys.take t) := by have h := form_reads (A' := B) (c' := c') (c := c') Hr'.out (.inr ⟨rfl, rfl⟩); rw [← Ht.out] at h; exact h
    have HA3d : Hid (AddAt w W3.drew na nb A B n n' c c') := Lib.hid (HA3.out.below ⟨rfl, rfl, rfl, Nat.le_refl _, fun _ _ => rfl⟩)
    have hadd := add_any A B c c' (xs.take s) (ys.take t) W3.drew (Hx.out.take s) (Hy.out.take t) (by rw [hlx']; exact hrx.below HA3d.out.bel) (by rw [hly']; exact hry.below HA3d.out.bel) (by rw [hlx']; exact hsc) (by rw [hly']; exact htc) (by rw [hlx']; omega) (by rw [hly']; omega)
    rw [hlx', hly'] at hadd
    have HV2 := Lib.hid hV2; have Hadd := Lib.hid hadd; have Hlx' := Lib.hid hlx'; have Hly' := Lib.hid hly'
    have e0' := blk_cell HA3d.out.a 0
    clear hV hV2 hadd hrx hry hlx' hly' hab
    go_upto_region 5 with (fail)
    go_region_with (first | (go_at_call 48; have HN := HA5; with_reducible refine (fits_form na A5 c5 zs W5 Hwd4.out Hlen4.out Hle5.out Hr5.out).mono ?_; rintro e W6 ⟨s6, A6, n6, c6, er6, rfl, hans, hA6, hb6⟩; have HA6 := Lib.hid (HA5.out.below hb6); have r0 := blk_cell HA6.out.r 0; have r1 := blk_cell HA6.out.r 1; have fr0 := blk_frozen HA6.out.r 0; have fr1 := blk_frozen HA6.out.r 1; have x0 := blk_cell HA6.out.a 0; have Hans := Lib.hid hans; have HA6e := Lib.hid hA6; clear hans hA6 hb6) | (go_at_call 46; have HN := HA4; with_reducible refine (form_any na A4 zs.length c4 zs W4 Hr4.out Hc4.out (by have := Hlen4.out; omega)).mono ?_; rintro e W5 ⟨A5, c5, rfl, hle5, hor5, hb5⟩; have HA5 := Lib.hid (HA4.out.below hb5); have Hr5 := Lib.hid (form_reads (c' := c5) (Hr4.out.below hb5) (hor5.imp id (fun h => ⟨h.1, h.2.1⟩))); have Hle5 := Lib.hid hle5; have Hor5 := Lib.hid hor5; have y0 := blk_cell HA5.out.a 0; clear hle5 hor5 hb5) | (go_at_call 62; refine Hadd.out.mono ?_; rintro e W4 ⟨A4, c4, zs, rfl, hc4, hown4, hb4, hlen4, hwd4, hv4⟩; have HA4 := Lib.hid (HA3d.out.below hb4); have Hr4 := Lib.hid (own_reads' hown4); have Hc4 := Lib.hid hc4; have Hlen4 := Lib.hid (show zs.length ≤ 1000000 by have := Hlx'.out; have := Hly'.out; omega); have Hwd4 := Lib.hid hwd4; have Hv4 := Lib.hid (HV2.out zs hv4); have Hown4 := Lib.hid hown4; have z0 := blk_cell HA4.out.a 0; clear hc4 hown4 hb4 hlen4 hwd4 hv4))
    all_goals
      go_wp2
      refine bodyPost_ret (results_ct rfl _ _ (w.heap.size + 1 + 1) 24 #[.bool s6, .slice A6 n6 c6] (0, 0) _ rfl (blk_put (cs := #[.bool s6, .slice none 0 0]) (blk_put (cs := #[.bool false, .slice none 0 0]) HA6.out.r 0 _ rfl) 1 _ rfl) Tryd.underlying24 rfl (by kernel_rfl)) rfl ?_
      have hfar : ∀ ad, A6 = some ad → ad.block ≠ w.heap.size + 1 + 1 := fun ad e => by
        have hrb : w.heap.size + 1 + 1 < W3.drew.heap.size := blk_lt HA3d.out.r
        obtain ⟨h4, hz⟩ : A6 = A4 ∧ 0 < zs.length := by
          rcases HA6e.out with h | h
          · rw [e] at h; cases h
          · rcases Hor5.out with ⟨h5, _⟩ | ⟨h5, _, h7⟩
            · rw [h5] at h; rw [h] at e; cases e
            · exact ⟨by rw [h, h5], by have := trimLen_le zs; omega⟩
        obtain ⟨g4, c4', hv, hg1, _⟩ := Hown4.out.form hz
        injection hv with hv _ _
        rw [e] at h4
        rw [hv] at h4
        injection h4 with h4
        subst h4
        show g4 ≠ _
        omega
      exact ⟨s6, A6, n6, c6, er6, rfl, (by have h := (Hans.out.set_ (p := ⟨w.heap.size + 1 + 1, 0, none⟩) hfar (.bool s6)).set_ (p := ⟨w.heap.size + 1 + 1, 1, none⟩) hfar (.slice A6 n6 c6); rw [Hv4.out] at h; exact h), (HA6.out.bel.setCell (p := ⟨w.heap.size + 1 + 1, 0, none⟩) (by simp; omega) _).setCell (p := ⟨w.heap.size + 1 + 1, 1, none⟩) (by simp; omega) _⟩
  · have hbe : (na == nb) = false := by simpa using hab
    have hlx' : (xs.take s).length = s := by rw [List.length_take, Hs.out]; have := trimLen_le xs; omega
    have hly' : (ys.take t).length = t := by rw [List.length_take, Ht.out]; have := trimLen_le ys; omega
    have hs1 : s ≤ 256 := by rw [Hs.out]; exact hlx
    have ht1 : t ≤ 256 := by rw [Ht.out]; exact hly
    have hsc : s ≤ c := by have := Hs.out; have := trimLen_le xs; omega
    have htc : t ≤ c' := by have := Ht.out; have := trimLen_le ys; omega
    have hrx : ReadsInt w .u32 A s (xs.take s) := by have h := form_reads (A' := A) (c' := c) (c := c) Hr.out (.inr ⟨rfl, rfl⟩); rw [← Hs.out] at h; exact h
    have hry : ReadsInt w .u32 B t (ys.take t) := by have h := form_reads (A' := B) (c' := c') (c := c') Hr'.out (.inr ⟨rfl, rfl⟩); rw [← Ht.out] at h; exact h
    have hvx : Dv.valW (xs.take s) = Dv.valW xs := by rw [Hs.out]; exact valW_trim xs
    have hvy : Dv.valW (ys.take t) = Dv.valW ys := by rw [Ht.out]; exact valW_trim ys
    have hcmp := compare_any A B s t c c' (xs.take s) (ys.take t) W3 (Hx.out.take s) (Hy.out.take t) (hrx.below HA3.out.bel) (hry.below HA3.out.bel) hsc htc (by omega) (by omega)
    rw [hvx, hvy] at hcmp
    by_cases hge : Dv.valW ys ≤ Dv.valW xs
    · obtain ⟨d, hd⟩ : ∃ d, d = cmpI (Dv.valW xs) (Dv.valW ys) := ⟨_, rfl⟩
      have hd0 : 0 ≤ d := by rw [hd]; unfold cmpI; (repeat' split) <;> omega
      have hts : t ≤ s := by
        rcases Nat.lt_or_ge s t with h | h
        · have := val_len Hx.out Hy.out (by rw [← Hs.out, ← Ht.out]; exact h); omega
        · exact h
      rw [← hd] at hcmp
      have hV2 : ∀ zs : List Int, Dv.valW zs = Dv.valW (xs.take s) - Dv.valW (ys.take t) → vI na zs = vI na xs + vI nb ys := fun zs h => by
        rw [hvx, hvy] at h; unfold vI; rw [h]; cases na <;> cases nb <;> simp at hab ⊢ <;> omega
      have hsub := fun W (h : AddAt w W na nb A B n n' c c') => sub_any A B c c' (xs.take s) (ys.take t) W (Hx.out.take s) (Hy.out.take t) (by rw [hlx']; exact hrx.below h.bel) (by rw [hly']; exact hry.below h.bel) (by rw [hlx']; exact hsc) (by rw [hly']; exact htc) (by rw [hlx']; omega) (by rw [hlx', hly']; exact hts) (by rw [hvx, hvy]; exact hge)
      simp only [hlx', hly'] at hsub
      have HV2 := Lib.hid hV2; have Hcmp := Lib.hid hcmp; have Hlx' := Lib.hid hlx'; have Hly' := Lib.hid hly'; have Hsub := Lib.hid hsub
      clear hV2 hcmp hrx hry hlx' hly' hab hd hvx hvy hge hts hsub
      go_upto_region 7 with (go_at_call 44; refine Hcmp.out.mono ?_; rintro e W7 ⟨rfl, q7, hW7⟩; have hA7 := (by rw [hW7]; exact HA3.out.below (pw_below_drewN (Below.refl _ _) q7) : AddAt w W7 na nb A B n n' c c'); have HA7 := Lib.hid hA7; clear hW7 hA7)
      have HA7d : Hid (AddAt w W7.drew na nb A B n n' c c') := Lib.hid (HA7.out.below ⟨rfl, rfl, rfl, Nat.le_refl _, fun _ _ => rfl⟩)
      have Hadd := Lib.hid (Hsub.out W7.drew HA7d.out)
      have e0' := blk_cell HA7d.out.a 0
      go_upto_region 7 with (fail)
      go_region_with (first | (go_at_call 48; have HN := HA5; with_reducible refine (fits_form na A5 c5 zs W5 Hwd4.out Hlen4.out Hle5.out Hr5.out).mono ?_; rintro e W6 ⟨s6, A6, n6, c6, er6, rfl, hans, hA6, hb6⟩; have HA6 := Lib.hid (HA5.out.below hb6); have r0 := blk_cell HA6.out.r 0; have r1 := blk_cell HA6.out.r 1; have fr0 := blk_frozen HA6.out.r 0; have fr1 := blk_frozen HA6.out.r 1; have x0 := blk_cell HA6.out.a 0; have Hans := Lib.hid hans; have HA6e := Lib.hid hA6; clear hans hA6 hb6) | (go_at_call 46; have HN := HA4; with_reducible refine (form_any na A4 zs.length c4 zs W4 Hr4.out Hc4.out (by have := Hlen4.out; omega)).mono ?_; rintro e W5 ⟨A5, c5, rfl, hle5, hor5, hb5⟩; have HA5 := Lib.hid (HA4.out.below hb5); have Hr5 := Lib.hid (form_reads (c' := c5) (Hr4.out.below hb5) (hor5.imp id (fun h => ⟨h.1, h.2.1⟩))); have Hle5 := Lib.hid hle5; have Hor5 := Lib.hid hor5; have y0 := blk_cell HA5.out.a 0; clear hle5 hor5 hb5) | (go_at_call 63; refine Hadd.out.mono ?_; rintro e W4 ⟨A4, c4, zs, rfl, hc4, hown4, hb4, hlen4, hwd4, hv4⟩; have HA4 := Lib.hid (HA7d.out.below hb4); have Hr4 := Lib.hid (own_reads' hown4); have Hc4 := Lib.hid hc4; have Hlen4 := Lib.hid (show zs.length ≤ 1000000 by have := Hlx'.out; have := Hly'.out; omega); have Hwd4 := Lib.hid hwd4; have Hv4 := Lib.hid (HV2.out zs hv4); have Hown4 := Lib.hid hown4; have z0 := blk_cell HA4.out.a 0; clear hc4 hown4 hb4 hlen4 hwd4 hv4))
      all_goals
        go_wp2
        refine bodyPost_ret (results_ct rfl _ _ (w.heap.size + 1 + 1) 24 #[.bool s6, .slice A6 n6 c6] (0, 0) _ rfl (blk_put (cs := #[.bool s6, .slice none 0 0]) (blk_put (cs := #[.bool false, .slice none 0 0]) HA6.out.r 0 _ rfl) 1 _ rfl) Tryd.underlying24 rfl (by kernel_rfl)) rfl ?_
        have hfar : ∀ ad, A6 = some ad → ad.block ≠ w.heap.size + 1 + 1 := fun ad e => by
          have hrb : w.heap.size + 1 + 1 < W7.drew.heap.size := blk_lt HA7d.out.r
          obtain ⟨h4, hz⟩ : A6 = A4 ∧ 0 < zs.length := by
            rcases HA6e.out with h | h
            · rw [e] at h; cases h
            · rcases Hor5.out with ⟨h5, _⟩ | ⟨h5, _, h7⟩
              · rw [h5] at h; rw [h] at e; cases e
              · exact ⟨by rw [h, h5], by have := trimLen_le zs; omega⟩
          obtain ⟨g4, c4', hv, hg1, _⟩ := Hown4.out.form hz
          injection hv with hv _ _
          rw [e] at h4
          rw [hv] at h4
          injection h4 with h4
          subst h4
          show g4 ≠ _
          omega
        exact ⟨s6, A6, n6, c6, er6, rfl, (by have h := (Hans.out.set_ (p := ⟨w.heap.size + 1 + 1, 0, none⟩) hfar (.bool s6)).set_ (p := ⟨w.heap.size + 1 + 1, 1, none⟩) hfar (.slice A6 n6 c6); rw [Hv4.out] at h; exact h), (HA6.out.bel.setCell (p := ⟨w.heap.size + 1 + 1, 0, none⟩) (by simp; omega) _).setCell (p := ⟨w.heap.size + 1 + 1, 1, none⟩) (by simp; omega) _⟩
    · obtain ⟨d, hd⟩ : ∃ d, d = cmpI (Dv.valW xs) (Dv.valW ys) := ⟨_, rfl⟩
      have hd0 : ¬ 0 ≤ d := by rw [hd, cmpI_lt (by omega)]; omega
      have hts : s ≤ t := by
        rcases Nat.lt_or_ge t s with h | h
        · have := val_len Hy.out Hx.out (by rw [← Hs.out, ← Ht.out]; exact h); omega
        · exact h
      rw [← hd] at hcmp
      have hV2 : ∀ zs : List Int, Dv.valW zs = Dv.valW (ys.take t) - Dv.valW (xs.take s) → vI nb zs = vI na xs + vI nb ys := fun zs h => by
        rw [hvx, hvy] at h; unfold vI; rw [h]; cases na <;> cases nb <;> simp at hab ⊢ <;> omega
      have hsub := fun W (h : AddAt w W na nb A B n n' c c') => sub_any B A c' c (ys.take t) (xs.take s) W (Hy.out.take t) (Hx.out.take s) (by rw [hly']; exact hry.below h.bel) (by rw [hlx']; exact hrx.below h.bel) (by rw [hly']; exact htc) (by rw [hlx']; exact hsc) (by rw [hly']; omega) (by rw [hlx', hly']; exact hts) (by rw [hvx, hvy]; omega)
      simp only [hlx', hly'] at hsub
      have HV2 := Lib.hid hV2; have Hcmp := Lib.hid hcmp; have Hlx' := Lib.hid hlx'; have Hly' := Lib.hid hly'; have Hsub := Lib.hid hsub
      clear hV2 hcmp hrx hry hlx' hly' hab hd hvx hvy hge hts hsub
      go_upto_region 8 with (go_at_call 44; refine Hcmp.out.mono ?_; rintro e W7 ⟨rfl, q7, hW7⟩; have hA7 := (by rw [hW7]; exact HA3.out.below (pw_below_drewN (Below.refl _ _) q7) : AddAt w W7 na nb A B n n' c c'); have HA7 := Lib.hid hA7; clear hW7 hA7)
      have HA7d : Hid (AddAt w W7.drew na nb A B n n' c c') := Lib.hid (HA7.out.below ⟨rfl, rfl, rfl, Nat.le_refl _, fun _ _ => rfl⟩)
      have Hadd := Lib.hid (Hsub.out W7.drew HA7d.out)
      have e0' := blk_cell HA7d.out.b 0
      go_upto_region 8 with (fail)
      go_region_with (first | (go_at_call 48; have HN := HA5; with_reducible refine (fits_form nb A5 c5 zs W5 Hwd4.out Hlen4.out Hle5.out Hr5.out).mono ?_; rintro e W6 ⟨s6, A6, n6, c6, er6, rfl, hans, hA6, hb6⟩; have HA6 := Lib.hid (HA5.out.below hb6); have r0 := blk_cell HA6.out.r 0; have r1 := blk_cell HA6.out.r 1; have fr0 := blk_frozen HA6.out.r 0; have fr1 := blk_frozen HA6.out.r 1; have x0 := blk_cell HA6.out.b 0; have Hans := Lib.hid hans; have HA6e := Lib.hid hA6; clear hans hA6 hb6) | (go_at_call 46; have HN := HA4; with_reducible refine (form_any nb A4 zs.length c4 zs W4 Hr4.out Hc4.out (by have := Hlen4.out; omega)).mono ?_; rintro e W5 ⟨A5, c5, rfl, hle5, hor5, hb5⟩; have HA5 := Lib.hid (HA4.out.below hb5); have Hr5 := Lib.hid (form_reads (c' := c5) (Hr4.out.below hb5) (hor5.imp id (fun h => ⟨h.1, h.2.1⟩))); have Hle5 := Lib.hid hle5; have Hor5 := Lib.hid hor5; have y0 := blk_cell HA5.out.b 0; clear hle5 hor5 hb5) | (go_at_call 63; refine Hadd.out.mono ?_; rintro e W4 ⟨A4, c4, zs, rfl, hc4, hown4, hb4, hlen4, hwd4, hv4⟩; have HA4 := Lib.hid (HA7d.out.below hb4); have Hr4 := Lib.hid (own_reads' hown4); have Hc4 := Lib.hid hc4; have Hlen4 := Lib.hid (show zs.length ≤ 1000000 by have := Hlx'.out; have := Hly'.out; omega); have Hwd4 := Lib.hid hwd4; have Hv4 := Lib.hid (HV2.out zs hv4); have Hown4 := Lib.hid hown4; have z0 := blk_cell HA4.out.b 0; clear hc4 hown4 hb4 hlen4 hwd4 hv4))
      all_goals
        go_wp2
        refine bodyPost_ret (results_ct rfl _ _ (w.heap.size + 1 + 1) 24 #[.bool s6, .slice A6 n6 c6] (0, 0) _ rfl (blk_put (cs := #[.bool s6, .slice none 0 0]) (blk_put (cs := #[.bool false, .slice none 0 0]) HA6.out.r 0 _ rfl) 1 _ rfl) Tryd.underlying24 rfl (by kernel_rfl)) rfl ?_
        have hfar : ∀ ad, A6 = some ad → ad.block ≠ w.heap.size + 1 + 1 := fun ad e => by
          have hrb : w.heap.size + 1 + 1 < W7.drew.heap.size := blk_lt HA7d.out.r
          obtain ⟨h4, hz⟩ : A6 = A4 ∧ 0 < zs.length := by
            rcases HA6e.out with h | h
            · rw [e] at h; cases h
            · rcases Hor5.out with ⟨h5, _⟩ | ⟨h5, _, h7⟩
              · rw [h5] at h; rw [h] at e; cases e
              · exact ⟨by rw [h, h5], by have := trimLen_le zs; omega⟩
          obtain ⟨g4, c4', hv, hg1, _⟩ := Hown4.out.form hz
          injection hv with hv _ _
          rw [e] at h4
          rw [hv] at h4
          injection h4 with h4
          subst h4
          show g4 ≠ _
          omega
        exact ⟨s6, A6, n6, c6, er6, rfl, (by have h := (Hans.out.set_ (p := ⟨w.heap.size + 1 + 1, 0, none⟩) hfar (.bool s6)).set_ (p := ⟨w.heap.size + 1 + 1, 1, none⟩) hfar (.slice A6 n6 c6); rw [Hv4.out] at h; exact h), (HA6.out.bel.setCell (p := ⟨w.heap.size + 1 + 1, 0, none⟩) (by simp; omega) _).setCell (p := ⟨w.heap.size + 1 + 1, 1, none⟩) (by simp; omega) _⟩
end Go.Proofs.YtiofeehcnegejaaDoor
