/- Whole numbers: Mul. -/
import Derived.Test.YtiofeehcnegejaaDoorTm
namespace Go.Proofs.YtiofeehcnegejaaDoor
open Go.RowKit Go.Proofs.YtiofeehcnegejaaDoorW.PrintWords
set_option linter.unusedVariables false
set_option linter.unusedSimpArgs false

/-- At the product's outer loop's head, in memory. -/
structure MulW (w : World) (na nb : Bool) (A B : Option Addr) (n n' c c' g l : Nat) (X Y zs : List Int) (i : Nat) (wr : World) : Prop where
  own : wr.ownsRow w.heap.size 62 1 (.slice (some ⟨g, 0, none⟩) l l) l (nums .u32 zs)
  at_ : AddAt w wr na nb A B n n' c c'
  mul : MulAt X Y zs i
structure MulJ (w : World) (na nb : Bool) (A B : Option Addr) (n n' c c' g l : Nat) (Y z0 zs : List Int) (p : Int) (i j : Nat) (k : Int) (wr : World) : Prop where
  own : wr.ownsRow w.heap.size 62 1 (.slice (some ⟨g, 0, none⟩) l l) l (nums .u32 zs)
  at_ : AddAt w wr na nb A B n n' c c'
  mul : MulIn Y z0 zs p i j k
/-- A store into the product's row leaves the boxes. -/
theorem AddAt.put {w wr : World} {na nb : Bool} {A B : Option Addr} {n n' c c' : Nat} (h : AddAt w wr na nb A B n n' c c') {g : Nat} (hg : w.heap.size + 1 + 1 < g) (i : Nat) (v : Value) : AddAt w (wr.setCell ⟨g, i, none⟩ v) na nb A B n n' c c' :=
  ⟨blk_far h.a (by show _ ≠ g; omega) _, blk_far h.b (by show _ ≠ g; omega) _, blk_far h.r (by show _ ≠ g; omega) _, h.bel.setCell (p := ⟨g, i, none⟩) (by show _ ≤ g; omega) _⟩

theorem AnsIs.put {W : World} {s : Bool} {A : Option Addr} {n c : Nat} {er V : Int} (h : AnsIs W s A n c er V) {g : Nat} {cs : Array Value} {T : TypeId} (hg : W.heap[g]? = some (.cells cs T (0, 0))) (hc : ∀ (i : Nat) (x : Int), cs[i]? ≠ some (Value.int .u32 x)) (i : Nat) (v : Value) : AnsIs (W.setCell ⟨g, i, none⟩ v) s A n c er V := by
  rcases h with h | ⟨h1, h2, h3, zs, h4, h5, h6, h7, h8⟩
  · exact .inl h
  · obtain ⟨zs', k4, k5, k7, k8⟩ := FormIs.put (i := i) (v := v) (⟨zs, h4, h5, h7, h8⟩ : FormIs W s A n c V) hg hc
    exact .inr ⟨h1, h2, h3, zs', k4, k5, h6, k7, k8⟩
theorem vI_mul (na nb : Bool) (xs ys zs : List Int) (h : Dv.valW zs = Dv.valW xs * Dv.valW ys) : vI (!(na == nb)) zs = vI na xs * vI nb ys := by
  unfold vI
  rw [h]
  cases na <;> cases nb <;> simp [Int.neg_mul, Int.mul_neg]

set_option maxRecDepth 100000 in
set_option maxHeartbeats 4000000 in
theorem Mul_any (na nb : Bool) (A B : Option Addr) (c c' : Nat) (xs ys : List Int) (w : World) (hx : Dv.Wd xs) (hy : Dv.Wd ys) (hr : ReadsInt w .u32 A xs.length xs) (hr' : ReadsInt w .u32 B ys.length ys) (hc : xs.length ≤ c) (hc' : ys.length ≤ c') (hn : xs.length ≤ 100000) (hn' : ys.length ≤ 100000) (hlx : trimLen xs ≤ 256) (hly : trimLen ys ≤ 256) :
    Calls Tryd.prog 27 #[.agg #[.bool na, .slice A xs.length c], .agg #[.bool nb, .slice B ys.length c']] w fun e w' => ∃ s A n c er, e = .returned (.tuple #[.agg #[.bool s, .slice A n c], .int .i64 er]) ∧ AnsIs w' s A n c er (vI na xs * vI nb ys) ∧ Below w.heap.size w w' := by
  obtain ⟨W0, hW0⟩ : ∃ W0, W0 = ((w.alloc (.cells #[.bool na, .slice A xs.length c] 24)).alloc (.cells #[.bool nb, .slice B ys.length c'] 24)).alloc (.cells #[.bool false, .slice none 0 0] 24) := ⟨_, rfl⟩
  have h0 := addAt_start w na nb A B _ _ c c' W0 hW0
  have hla := fun W (h : AddAt w W na nb A B xs.length ys.length c c') => long_any na A xs.length c xs W (hr.below h.bel) hc (by omega)
  have hlb := fun W (h : AddAt w W na nb A B xs.length ys.length c c') => long_any nb B ys.length c' ys W (hr'.below h.bel) hc' (by omega)
  rw [show decide (256 < trimLen xs) = false by simp; omega] at hla
  rw [show decide (256 < trimLen ys) = false by simp; omega] at hlb
  have hta := fun W (h : AddAt w W na nb A B xs.length ys.length c c') q => trim_any A xs.length c xs (W.drewN q) ((hr.below h.bel).below (pw_below_drewN (Below.refl _ _) q)) hc (by omega)
  have htb := fun W (h : AddAt w W na nb A B xs.length ys.length c c') q => trim_any B ys.length c' ys (W.drewN q) ((hr'.below h.bel).below (pw_below_drewN (Below.refl _ _) q)) hc' (by omega)
  have hsc : trimLen xs ≤ c := by have := trimLen_le xs; omega
  have htc : trimLen ys ≤ c' := by have := trimLen_le ys; omega
  have hrx : ReadsInt w .u32 A (trimLen xs) (xs.take (trimLen xs)) := form_reads (A' := A) (c' := c) (c := c) hr (.inr ⟨rfl, rfl⟩)
  have hry : ReadsInt w .u32 B (trimLen ys) (ys.take (trimLen ys)) := form_reads (A' := B) (c' := c') (c := c') hr' (.inr ⟨rfl, rfl⟩)
  have hvx := valW_trim xs
  have hvy := valW_trim ys
  obtain ⟨s, hs⟩ : ∃ s, s = trimLen xs := ⟨_, rfl⟩
  obtain ⟨t, ht⟩ : ∃ t, t = trimLen ys := ⟨_, rfl⟩
  have hXl : (xs.take s).length = s := by rw [List.length_take, hs]; have := trimLen_le xs; omega
  have hYl : (ys.take t).length = t := by rw [List.length_take, ht]; have := trimLen_le ys; omega
  have hXw := hx.take s
  have hYw := hy.take t
  rw [← hs] at hta hlx hsc hrx hvx
  rw [← ht] at htb hly htc hry hvy
  obtain ⟨X, hX⟩ : ∃ X, X = xs.take s := ⟨_, rfl⟩
  obtain ⟨Y, hY⟩ : ∃ Y, Y = ys.take t := ⟨_, rfl⟩
  rw [← hX] at hrx hvx hXl hXw
  rw [← hY] at hry hvy hYl hYw
  obtain ⟨n, hnn⟩ : ∃ n, n = xs.length := ⟨_, rfl⟩
  obtain ⟨n', hnn'⟩ : ∃ n', n' = ys.length := ⟨_, rfl⟩
  have hmake : ∀ W : World, (Instr.makeSlice 22 (.int .i64 ((s : Int) + (t : Int))) (.int .i64 ((s : Int) + (t : Int)))).run Tryd.prog W = .ok (.slice (some ⟨W.heap.size, 0, none⟩) (s + t) (s + t)) (W.alloc (.cells (madeCells #[.int .u32 0] (s + t)) 62)) := by
    have h := print_make_of (P := Tryd.prog) 22 62 (.int .u32 0) 4 Tryd.underlying22 info62 rfl (by decide) (s + t) (by omega)
    rw [Int.natCast_add] at h
    exact h
  rw [← hnn, ← hnn'] at h0 hla hlb hta htb ⊢
  rw [← hnn, ← hnn'] at hW0
  have H0 := Lib.hid h0; have HW0 := Lib.hid hW0; have Hla := Lib.hid hla; have Hlb := Lib.hid hlb; have Hta := Lib.hid hta; have Htb := Lib.hid htb
  have Hrx := Lib.hid hrx; have Hry := Lib.hid hry; have Hvx := Lib.hid hvx; have Hvy := Lib.hid hvy; have HXl := Lib.hid hXl; have HYl := Lib.hid hYl; have HXw := Lib.hid hXw; have HYw := Lib.hid hYw
  have c0 := blk_cell h0.a 0
  have c1 := blk_cell h0.a 1
  clear h0 hW0 hla hlb hta htb hs ht hnn hnn' hr hr' hx hy hrx hry hvx hvy hXl hYl hXw hYw hX hY hc hc' hn hn'
  go_enter Tryd.func27, Tryd.ntmps27
  go_upto_region 1 with (fail)
  rw [← HW0.out]
  go_upto_region 3 with (first | (go_at_call 61; refine (Hlb.out _ HA1.out).mono ?_; rintro e W2 ⟨rfl, hb2⟩; have HA2 := Lib.hid (HA1.out.below hb2); clear hb2) | (go_at_call 61; refine (Hla.out _ H0.out).mono ?_; rintro e W1 ⟨rfl, hb1⟩; have HA1 := Lib.hid (H0.out.below hb1); have d0 := blk_cell HA1.out.b 0; have d1 := blk_cell HA1.out.b 1; clear hb1))
  have e0 := blk_cell HA2.out.a 0
  have e1 := blk_cell HA2.out.a 1
  have f0 := blk_cell HA2.out.b 0
  have f1 := blk_cell HA2.out.b 1
  clear c0 c1 d0 d1
  go_quiet (first | (go_at_call 54; with_reducible refine Calls.quiet_of (Hta.out W2 HA2.out _)) | (go_at_call 54; with_reducible refine Calls.quiet_of (Htb.out W2 HA2.out _)))
  have HA3 := Lib.hid (HA2.out.below (pw_below_drewN (Below.refl _ _) nq))
  obtain ⟨W3, hW3⟩ : ∃ W3, W3 = W2.drewN nq := ⟨_, rfl⟩
  rw [← hW3] at HA3 ⊢
  clear hW3 e0 e1 f0 f1 HA2
  have hown0 := own_made W3 w.heap.size 62 .u32 (s + t) HA3.out.bel.size (by omega)
  have hA4 := HA3.out.below (below_alloc (Below.refl _ _) (.cells (madeCells #[.int .u32 0] (s + t)) 62))
  have hg : w.heap.size + 1 + 1 < W3.heap.size := blk_lt HA3.out.r
  have hm0 : MulAt X Y (List.replicate (s + t) 0) 0 := by rw [← HXl.out, ← HYl.out]; exact MulAt.start X Y
  have Hst := Lib.hid (show MulW w na nb A B n n' c c' W3.heap.size (s + t) X Y (List.replicate (s + t) 0) 0 (W3.alloc (.cells (madeCells #[.int .u32 0] (s + t)) 62)) from ⟨hown0, hA4, hm0⟩)
  have Hg := Lib.hid hg
  clear hown0 hA4 hm0 hg
  go_wp2
  clear hmake
  obtain ⟨g, hgg⟩ : ∃ g, g = W3.heap.size := ⟨_, rfl⟩
  rw [← hgg] at Hst Hg ⊢
  clear hgg
  go_loopw [35] (fun iv wr => ∃ (i : Nat) (zs : List Int), i ≤ s ∧ iv = .int .i64 i ∧ Hid (MulW w na nb A B n n' c c' g (s + t) X Y zs i wr)) (fun iv _ => s - (intOf iv).toNat)
  case atStart => exact ⟨0, _, Nat.zero_le _, rfl, Hst⟩
  case round =>
    obtain ⟨i, zs, hi, rfl, HM⟩ := hrel
    clear Hst
    by_cases hil : i < s
    · obtain ⟨ad, hae, hcx⟩ := (Hrx.out.below HM.out.at_.bel).at_ (i : Int) (by omega) (by omega)
      subst hae
      rw [Int.toNat_natCast] at hcx
      have hpb := HXw.out.get (i : Int)
      obtain ⟨p, hp⟩ : ∃ p, p = rd X (i : Int) := ⟨_, rfl⟩
      rw [← hp] at hcx hpb
      have Hp := Lib.hid hp
      have p0 : (0 : Int) ≤ (i : Int) := by omega
      have p1 : (i : Int) < (s : Int) := by omega
      have Hs2 := Lib.hid (show MulJ w na nb (some ad) B n n' c c' g (s + t) Y zs zs p i 0 0 wr from ⟨HM.out.own, HM.out.at_, MulIn.start HM.out.mul p⟩)
      clear hp
      go_wp2
      go_loopw [11, 42] (fun kv jv wr => ∃ (j : Nat) (k : Int) (zs' : List Int), j ≤ t ∧ kv = .int .u64 k ∧ jv = .int .i64 j ∧ Hid (MulJ w na nb (some ad) B n n' c c' g (s + t) Y zs zs' p i j k wr)) (fun _ jv _ => t - (intOf jv).toNat)
      case atStart => exact ⟨0, 0, zs, Nat.zero_le _, rfl, rfl, Hs2⟩
      case round =>
        obtain ⟨j, k, zs', hj, rfl, rfl, HJ⟩ := hrel
        clear Hs2
        have k0 := HJ.out.mul.k0
        have k1 := HJ.out.mul.k1
        by_cases hjl : j < t
        · obtain ⟨bd, hbe, hcy⟩ := (Hry.out.below HJ.out.at_.bel).at_ (j : Int) (by omega) (by omega)
          subst hbe
          rw [Int.toNat_natCast] at hcy
          have hqb := HYw.out.get (j : Int)
          have hzw := HM.out.mul.wd.get ((i + j : Nat) : Int)
          obtain ⟨hoc, hof⟩ := own_at HJ.out.own ((i + j : Nat) : Int) (by omega) (by omega)
          have hsm := HJ.out.mul.same (i + j) (Nat.le_refl _)
          rw [Int.toNat_natCast, hsm] at hoc
          rw [Int.toNat_natCast] at hof
          have hstep := HJ.out.mul.step HM.out.mul.wd HYw.out hpb.1 hpb.2 (by rw [HYl.out]; exact hjl) (by rw [HM.out.mul.len, HXl.out, HYl.out]; omega)
          obtain ⟨q, hq⟩ : ∃ q, q = rd Y (j : Int) := ⟨_, rfl⟩
          obtain ⟨z, hz⟩ : ∃ z, z = rd zs ((i + j : Nat) : Int) := ⟨_, rfl⟩
          rw [← hq] at hcy hqb hstep
          rw [← hz] at hzw hoc hstep
          obtain ⟨m0, m1⟩ := mul_word hpb.1 hpb.2 hqb.1 hqb.2 hzw.1 hzw.2 k0 k1
          obtain ⟨m, hm⟩ : ∃ m, m = p * q := ⟨_, rfl⟩
          rw [← hm] at m0 m1 hstep
          have hpq : p * q = m := hm.symm
          obtain ⟨T, hT⟩ : ∃ T, T = k + (m + z) := ⟨_, rfl⟩
          rw [← hT] at hstep
          have hput := own_store HJ.out.own ((i + j : Nat) : Int) (T % 4294967296)
          rw [Int.toNat_natCast] at hput
          have Hput := Lib.hid hput; have Hstep := Lib.hid hstep; have HT := Lib.hid hT
          have hij : ((i : Int) + (j : Int)).toNat = i + j := by omega
          have p2 : (0 : Int) ≤ (j : Int) := by omega
          have p3 : (j : Int) < (t : Int) := by omega
          have p4 : (i : Int) + (j : Int) < ((s + t : Nat) : Int) := by omega
          clear hm hT hput hstep hq hz hsm
          go_wp2
          go_roundw
          case rel => exact ⟨j + 1, T / 4294967296, zs'.set (i + j) (T % 4294967296), by omega, by rw [HT.out], by go_num, Lib.hid (by rw [HT.out] at Hput ⊢; exact ⟨Hput.out.1, HJ.out.at_.put Hg.out _ _, by have h := Hstep.out; rw [HT.out] at h; exact h⟩)⟩
          case measure => simp [intOf]; omega
        · have hjt : j = t := by omega
          subst hjt
          obtain ⟨hoc, hof⟩ := own_at HJ.out.own ((i + j : Nat) : Int) (by omega) (by omega)
          rw [Int.toNat_natCast] at hoc hof
          have hput := own_store HJ.out.own ((i + j : Nat) : Int) k
          rw [Int.toNat_natCast] at hput
          have hlast : MulAt X Y (zs'.set (i + j) k) (i + 1) := by
            have h := HJ.out.mul
            rw [Hp.out, ← HYl.out] at h
            have h2 := MulIn.last HM.out.mul h (by rw [HXl.out]; exact hil)
            rw [HYl.out] at h2
            exact h2
          have Hput := Lib.hid hput; have Hlast := Lib.hid hlast
          have hij : ((i : Int) + (j : Int)).toNat = i + j := by omega
          have p4 : (i : Int) + (j : Int) < ((s + j : Nat) : Int) := by omega
          clear hput hlast
          go_wp2
          go_roundw
          case rel => exact ⟨i + 1, zs'.set (i + j) k, by omega, by go_num, Lib.hid ⟨Hput.out.1, HJ.out.at_.put Hg.out _ _, Hlast.out⟩⟩
          case measure => simp [intOf]; omega
    · have his : i = s := by omega
      subst his
      have hzl : zs.length = i + t := by rw [HM.out.mul.len, HXl.out, HYl.out]
      have hrz : ReadsInt wr .u32 (some ⟨g, 0, none⟩) (i + t) zs := own_reads' HM.out.own
      have hv : Dv.valW zs = Dv.valW xs * Dv.valW ys := by
        rw [← Hvx.out, ← Hvy.out]
        have h := HM.out.mul
        rw [← HXl.out] at h
        exact h.last
      have hval := vI_mul na nb xs ys zs hv
      have hform := form_any (!(na == nb)) (some ⟨g, 0, none⟩) (i + t) (i + t) zs wr hrz (Nat.le_refl _) (by omega)
      have x0 := blk_cell HM.out.at_.a 0
      have x1 := blk_cell HM.out.at_.b 0
      have Hrz := Lib.hid hrz; have Hzl := Lib.hid hzl; have Hval := Lib.hid hval; have Hform := Lib.hid hform; have Hwz := Lib.hid HM.out.mul.wd
      clear hrz hzl hv hval hform
      go_wp2_with (first | (go_at_call 48; have HN := HA5; with_reducible refine (fits_form (!(na == nb)) A5 c5 zs W5 Hwz.out (by have := Hzl.out; omega) Hle5.out Hr5.out).mono ?_; rintro e W6 ⟨s6, A6, n6, c6, er6, rfl, hans, hA6, hb6⟩; have HA6 := Lib.hid (HA5.out.below hb6); have r0 := blk_cell HA6.out.r 0; have r1 := blk_cell HA6.out.r 1; have fr0 := blk_frozen HA6.out.r 0; have fr1 := blk_frozen HA6.out.r 1; have Hans := Lib.hid hans; clear hans hA6 hb6) | (go_at_call 46; with_reducible refine Hform.out.mono ?_; rintro e W5 ⟨A5, c5, rfl, hle5, hor5, hb5⟩; have HA5 := Lib.hid (HM.out.at_.below hb5); have Hr5 := Lib.hid (form_reads (c' := c5) (by rw [Hzl.out]; exact Hrz.out.below hb5) (hor5.imp id (fun h => ⟨h.1, h.2.1⟩))); have Hle5 := Lib.hid hle5; clear hle5 hor5 hb5))
      have k2 := blk_put (cs := #[.bool false, .slice none 0 0]) (cs' := #[.bool s6, .slice none 0 0]) HA6.out.r 0 (.bool s6) rfl
      refine bodyPost_ret (results_ct rfl _ _ (w.heap.size + 1 + 1) 24 #[.bool s6, .slice A6 n6 c6] (0, 0) _ rfl (blk_put (cs := #[.bool s6, .slice none 0 0]) k2 1 _ rfl) Tryd.underlying24 rfl (by kernel_rfl)) rfl ?_
      exact ⟨s6, A6, n6, c6, er6, rfl, (by have h := (Hans.out.put HA6.out.r (no_words _ _ _ _) 0 (.bool s6)).put k2 (no_words _ _ _ _) 1 (.slice A6 n6 c6); rw [Hval.out] at h; exact h), (HA6.out.bel.setCell (p := ⟨w.heap.size + 1 + 1, 0, none⟩) (by simp; omega) _).setCell (p := ⟨w.heap.size + 1 + 1, 1, none⟩) (by simp; omega) _⟩
end Go.Proofs.YtiofeehcnegejaaDoor
