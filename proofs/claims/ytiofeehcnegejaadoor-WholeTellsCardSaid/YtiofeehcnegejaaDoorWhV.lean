/- Whole numbers as they are handed in: contracts by value; sum. -/
import Derived.Test.YtiofeehcnegejaaDoorWhU
namespace Go.Proofs.YtiofeehcnegejaaDoor
open Go.RowKit Go.Proofs.YtiofeehcnegejaaDoorW.PrintWords
set_option linter.unusedVariables false
set_option linter.unusedSimpArgs false

/-- A number that can be read, in whatever form. -/
def NumIs (W : World) (s : Bool) (A : Option Addr) (n c : Nat) (V : Int) : Prop := ∃ zs : List Int, n = zs.length ∧ n ≤ c ∧ n ≤ 100000 ∧ ReadsInt W .u32 A n zs ∧ Dv.Wd zs ∧ vI s zs = V
theorem NumIs.below {W W' : World} {s : Bool} {A : Option Addr} {n c : Nat} {V : Int} (h : NumIs W s A n c V) (hb : Below W.heap.size W W') : NumIs W' s A n c V := by
  obtain ⟨zs, h4, h5, h6, h7, h8⟩ := h
  exact ⟨zs, h4, h5, h6, h7.below hb, h8⟩
theorem FormIs.num {W : World} {s : Bool} {A : Option Addr} {n c : Nat} {V : Int} (h : FormIs W s A n c V) (hn : n ≤ 100000) : NumIs W s A n c V := by
  obtain ⟨zs, h4, h5, h7, hw, ht, _, hv⟩ := h
  exact ⟨zs, h4, h5, hn, h7, hw, hv⟩
/-- A number of few words is small. -/
theorem NumIs.small {W : World} {s : Bool} {A : Option Addr} {n c : Nat} {V : Int} (h : NumIs W s A n c V) : V < 2 ^ (32 * n) ∧ -V < 2 ^ (32 * n) := by
  obtain ⟨zs, h4, h5, h6, h7, hw, hv⟩ := h
  have h0 := Dv.valW_nonneg hw
  have h1 := Dv.valW_lt hw
  rw [← h4] at h1
  have hp := Dv.pow_pos' (32 * n)
  unfold vI at hv
  cases s
  · simp at hv; omega
  · simp at hv; omega
theorem NumIs.short {W : World} {s : Bool} {A : Option Addr} {n c : Nat} {V : Int} (h : NumIs W s A n c V) (h1 : V < tooBig) (h2 : -V < tooBig) : ∃ zs : List Int, n = zs.length ∧ n ≤ c ∧ n ≤ 100000 ∧ ReadsInt W .u32 A n zs ∧ Dv.Wd zs ∧ vI s zs = V ∧ trimLen zs ≤ 256 := by
  obtain ⟨zs, h4, h5, h6, h7, hw, hv⟩ := h
  refine ⟨zs, h4, h5, h6, h7, hw, hv, ?_⟩
  rcases Nat.lt_or_ge 256 (trimLen zs) with hn | hn
  · exfalso
    have := (small_iff hw).2 hn
    unfold vI at hv
    cases s
    · simp at hv; omega
    · simp at hv; omega
  · exact hn
theorem Compare_num {na nb : Bool} {A B : Option Addr} {n n' c c' : Nat} {V U : Int} {w : World} (h : NumIs w na A n c V) (h' : NumIs w nb B n' c' U) :
    Calls Tryd.prog 13 #[.agg #[.bool na, .slice A n c], .agg #[.bool nb, .slice B n' c']] w fun e w' => e = .returned (.int .i64 (cmpI V U)) ∧ Below w.heap.size w w' := by
  obtain ⟨xs, e1, hc, hn, hr, hw, rfl⟩ := h
  obtain ⟨ys, e2, hc', hn', hr', hw', rfl⟩ := h'
  exact Compare_any na nb A B n n' c c' xs ys w hw hw' hr hr' hc hc' (by omega) (by omega)
theorem Negate_num {na : Bool} {A : Option Addr} {n c : Nat} {V : Int} {w : World} (h : NumIs w na A n c V) (hn : n ≤ 256) :
    Calls Tryd.prog 14 #[.agg #[.bool na, .slice A n c]] w fun e w' => ∃ s A' n' c', e = .returned (.agg #[.bool s, .slice A' n' c']) ∧ FormIs w' s A' n' c' (-V) ∧ n' ≤ 256 ∧ Below w.heap.size w w' := by
  have hs := h.small
  have hp := pow_le n 256 hn
  obtain ⟨xs, e1, hc, hn1, hr, hw, rfl⟩ := h
  refine (Negate_any na A n c xs w hw hr hc (by omega)).mono ?_
  rintro e w' ⟨s, A', n', c', rfl, hf, hb⟩
  exact ⟨s, A', n', c', rfl, hf, hf.few (by unfold tooBig; omega) (by unfold tooBig; omega), hb⟩
theorem Add_num {na nb : Bool} {A B : Option Addr} {n n' c c' : Nat} {V U : Int} {w : World} (h : NumIs w na A n c V) (h' : NumIs w nb B n' c' U) (h1 : V < tooBig) (h2 : -V < tooBig) (h3 : U < tooBig) (h4 : -U < tooBig) :
    Calls Tryd.prog 22 #[.agg #[.bool na, .slice A n c], .agg #[.bool nb, .slice B n' c']] w fun e w' => ∃ s A n c er, e = .returned (.tuple #[.agg #[.bool s, .slice A n c], .int .i64 er]) ∧ AnsIs w' s A n c er (V + U) ∧ Below w.heap.size w w' := by
  obtain ⟨xs, rfl, hc, hn, hr, hw, rfl, ht⟩ := h.short h1 h2
  obtain ⟨ys, rfl, hc', hn', hr', hw', rfl, ht'⟩ := h'.short h3 h4
  exact Add_any na nb A B c c' xs ys w hw hw' hr hr' hc hc' hn hn' ht ht'

/-- A block of no words is no number's. -/
theorem reads_far {W : World} {A : Option Addr} {n : Nat} {xs : List Int} (h : ReadsInt W .u32 A n xs) {g : Nat} {cs : Array Value} {T : TypeId} (hg : W.heap[g]? = some (.cells cs T (0, 0))) (hc : ∀ (i : Nat) (x : Int), cs[i]? ≠ some (Value.int .u32 x)) (hn : 0 < n) : ∀ ad, A = some ad → ad.block ≠ g := fun ad e hb => by
  obtain ⟨ad', e', hcell⟩ := h.2.2 hn
  rw [e] at e'
  injection e' with e'
  subst e'
  have h0 := hcell 0 hn
  subst hb
  have hz : (ad.add 0) = ad := by unfold Addr.add; split <;> simp_all
  rw [hz] at h0
  simp only [World.cell?, hg] at h0
  split at h0 <;> first | exact hc _ _ h0 | exact absurd h0 (by simp)
theorem FormIs.put {W : World} {s : Bool} {A : Option Addr} {n c : Nat} {V : Int} (h : FormIs W s A n c V) {g : Nat} {cs : Array Value} {T : TypeId} (hg : W.heap[g]? = some (.cells cs T (0, 0))) (hc : ∀ (i : Nat) (x : Int), cs[i]? ≠ some (Value.int .u32 x)) (i : Nat) (v : Value) : FormIs (W.setCell ⟨g, i, none⟩ v) s A n c V := by
  by_cases hn : 0 < n
  · obtain ⟨zs, _, _, h7, _⟩ := id h
    exact h.set_ (p := ⟨g, i, none⟩) (reads_far h7 hg hc hn) v
  · obtain ⟨zs, h4, h5, h7, h8⟩ := h
    exact ⟨zs, h4, h5, ⟨h7.1, h7.2.1, fun hz => absurd hz (by omega)⟩, h8⟩
theorem no_words (b : Bool) (A : Option Addr) (n c : Nat) : ∀ (i : Nat) (x : Int), (#[Value.bool b, .slice A n c] : Array Value)[i]? ≠ some (Value.int .u32 x) := fun i x => by
  match i with
  | 0 => simp
  | 1 => simp
  | i + 2 => simp

set_option maxRecDepth 100000 in
set_option maxHeartbeats 1000000 in
/-- A sum that is not too big. -/
theorem sum_num {na nb : Bool} {A B : Option Addr} {n n' c c' : Nat} {V U : Int} {w : World} (h : NumIs w na A n c V) (h' : NumIs w nb B n' c' U) (h1 : V < tooBig) (h2 : -V < tooBig) (h3 : U < tooBig) (h4 : -U < tooBig) (h5 : V + U < tooBig) (h6 : -(V + U) < tooBig) :
    Calls Tryd.prog 15 #[.agg #[.bool na, .slice A n c], .agg #[.bool nb, .slice B n' c']] w fun e w' => ∃ s A n c, e = .returned (.tuple #[.agg #[.bool s, .slice A n c], .bool true]) ∧ FormIs w' s A n c (V + U) ∧ n ≤ 256 ∧ Below w.heap.size w w' := by
  obtain ⟨W0, hW0⟩ : ∃ W0, W0 = ((w.alloc (.cells #[.bool na, .slice A n c] 24)).alloc (.cells #[.bool nb, .slice B n' c'] 24)).alloc (.cells #[.bool false, .slice none 0 0] 24) := ⟨_, rfl⟩
  have hb0 : Below w.heap.size w W0 := by rw [hW0]; exact below_alloc (below_alloc (below_alloc (Below.refl _ _) _) _) _
  have h0 := addAt_start w na nb A B n n' c c' W0 hW0
  have hadd := Add_num (h.below hb0) (h'.below hb0) h1 h2 h3 h4
  have c0 := blk_cell h0.a 0; have c1 := blk_cell h0.a 1; have d0 := blk_cell h0.b 0; have d1 := blk_cell h0.b 1
  have kr := h0.r
  have hadd' : Calls Tryd.prog 22 #[.agg #[.bool na, .slice A n c], .agg #[.bool nb, .slice B n' c']] W0 fun e w' => ∃ s A n c, e = .returned (.tuple #[.agg #[.bool s, .slice A n c], .int .i64 0]) ∧ (FormIs w' s A n c (V + U) ∧ n ≤ 256) ∧ Below W0.heap.size W0 w' := by
    refine hadd.mono ?_
    rintro e w' ⟨s, A, n, c, er, rfl, ha, hb⟩
    obtain ⟨rfl, hf, hn⟩ := ha.form h5 h6
    exact ⟨s, A, n, c, rfl, ⟨hf, hn⟩, hb⟩
  have Hadd := Lib.hid hadd'; have HW0 := Lib.hid hW0; have HB0 := Lib.hid hb0; have Kr := Lib.hid kr
  clear h0 hadd hadd' hW0 hb0 kr h h'
  go_enter Tryd.func15, Tryd.ntmps15
  go_upto_region 1 with (fail)
  rw [← HW0.out]
  go_wp2_with (go_at_call 22; refine Hadd.out.mono ?_; rintro e W1 ⟨s1, A1, n1, c1, rfl, ⟨hf1, hn1⟩, hb1⟩; have HB1 := Lib.hid (below_then HB0.out HB0.out.size hb1); have Kr1 := Lib.hid (blk_below Kr.out hb1); have kr2 := blk_alloc Kr1.out (.cells #[.bool s1, .slice A1 n1 c1] 24); have r0 := blk_cell kr2 0; have r1 := blk_cell kr2 1; have f0 := blk_frozen kr2 0; have f1 := blk_frozen kr2 1; have Kr2 := Lib.hid kr2; have HB2 := Lib.hid (below_alloc HB1.out (.cells #[.bool s1, .slice A1 n1 c1] 24)); have HF1 := Lib.hid (hf1.below (below_alloc (Below.refl _ _) (.cells #[.bool s1, .slice A1 n1 c1] 24))); clear hf1 hb1 kr2)
  refine bodyPost_ret (results_ct rfl _ _ (w.heap.size + 1 + 1) 24 #[.bool s1, .slice A1 n1 c1] (0, 0) _ rfl (blk_put (cs := #[.bool s1, .slice none 0 0]) (blk_put (cs := #[.bool false, .slice none 0 0]) Kr2.out 0 _ rfl) 1 _ rfl) Tryd.underlying24 rfl (by kernel_rfl)) rfl ?_
  have k2 := blk_put (cs := #[.bool false, .slice none 0 0]) (cs' := #[.bool s1, .slice none 0 0]) Kr2.out 0 (.bool s1) rfl
  exact ⟨s1, A1, n1, c1, rfl, (HF1.out.put Kr2.out (no_words _ _ _ _) 0 _).put k2 (no_words _ _ _ _) 1 _, hn1, (HB2.out.setCell (p := ⟨w.heap.size + 1 + 1, 0, none⟩) (by simp; omega) _).setCell (p := ⟨w.heap.size + 1 + 1, 1, none⟩) (by simp; omega) _⟩
theorem wd_of_wf {l : List Int} (h : ∀ x ∈ l, (Lit.int .u32 x).wf = true) : Dv.Wd l := fun x hx => by
  have h1 := h x hx
  simp only [Lit.wf, IntKind.min, IntKind.max, IntKind.bits, IntKind.signed] at h1
  have h2 : 0 ≤ x ∧ x ≤ 4294967295 := by simpa using h1
  omega
end Go.Proofs.YtiofeehcnegejaaDoor
