/- Whole numbers: awake. -/
import Derived.Test.YtiofeehcnegejaaDoorWhT
namespace Go.Proofs.YtiofeehcnegejaaDoor
open Go.RowKit Go.Proofs.YtiofeehcnegejaaDoorW.PrintWords
set_option linter.unusedVariables false
set_option linter.unusedSimpArgs false

/-- The text of a number. -/
def textV (V : Int) : List Int := if V = 0 then [48] else (if V < 0 then [45] else []) ++ decI V.natAbs
theorem text_val (neg : Bool) (xs : List Int) (hw : Dv.Wd xs) : textI neg xs = textV (vI neg xs) := by
  have h0 := Dv.valW_nonneg hw
  unfold textI textV vI
  by_cases h : Dv.valW xs = 0
  · rw [if_pos h, if_pos (by rw [h]; cases neg <;> rfl)]
  · rw [if_neg h]
    cases neg
    · simp only [Bool.false_eq_true, if_false]
      rw [if_neg h, if_neg (by omega)]
      congr 2
      omega
    · simp only [if_true]
      rw [if_neg (by omega), if_pos (by omega)]
      congr 2
      omega
theorem tooBig_great : (4294967296 : Int) ≤ tooBig := pow_le 1 256 (by omega)
theorem text_minus3 : (⟨(toB (textV (-3))).toArray⟩ : ByteArray) = ⟨#[45, 51]⟩ := by
  have e : textV (-3) = [45, 51] := by
    unfold textV
    rw [if_neg (by omega), if_pos (by omega), show (-3 : Int).natAbs = 3 from rfl, decI_pos 3 (by omega), show 3 / 10 = 0 from rfl, decI_zero]
    rfl
  rw [e]; rfl

theorem FormIs.below {W W' : World} {s : Bool} {A : Option Addr} {n c : Nat} {V : Int} (h : FormIs W s A n c V) (hb : Below W.heap.size W W') : FormIs W' s A n c V := by
  obtain ⟨zs, h4, h5, h7, h8⟩ := h
  exact ⟨zs, h4, h5, h7.below hb, h8⟩
theorem FormIs.few {W : World} {s : Bool} {A : Option Addr} {n c : Nat} {V : Int} (h : FormIs W s A n c V) (h1 : V < tooBig) (h2 : -V < tooBig) : n ≤ 256 := by
  obtain ⟨zs, h4, h5, h7, hw, ht, _, hv⟩ := h
  rcases Nat.lt_or_ge 256 n with hn | hn
  · exfalso
    have := (small_iff hw).2 (by omega)
    unfold vI at hv
    cases s
    · simp at hv; omega
    · simp at hv; omega
  · exact hn
/-- Add of numbers in their form that are not long. -/
theorem Add_form {na nb : Bool} {A B : Option Addr} {n n' c c' : Nat} {V U : Int} {w : World} (h : FormIs w na A n c V) (h' : FormIs w nb B n' c' U) (hn : n ≤ 256) (hn' : n' ≤ 256) :
    Calls Tryd.prog 22 #[.agg #[.bool na, .slice A n c], .agg #[.bool nb, .slice B n' c']] w fun e w' => ∃ s A n c er, e = .returned (.tuple #[.agg #[.bool s, .slice A n c], .int .i64 er]) ∧ AnsIs w' s A n c er (V + U) ∧ Below w.heap.size w w' := by
  obtain ⟨xs, rfl, hc, hr, hw, ht, _, rfl⟩ := h
  obtain ⟨ys, rfl, hc', hr', hw', ht', _, rfl⟩ := h'
  exact Add_any na nb A B c c' xs ys w hw hw' hr hr' hc hc' (by omega) (by omega) (by omega) (by omega)
theorem Text_form {na : Bool} {A : Option Addr} {n c : Nat} {V : Int} {w : World} (h : FormIs w na A n c V) (hn : n ≤ 100000) :
    Calls Tryd.prog 19 #[.agg #[.bool na, .slice A n c]] w fun e w' => e = .returned (.string ⟨(toB (textV V)).toArray⟩) ∧ Below w.heap.size w w' := by
  obtain ⟨xs, rfl, hc, hr, hw, ht, _, rfl⟩ := h
  rw [← text_val na xs hw]
  exact text_any na A _ c xs w hw hr hc hn
/-- An answer that is not too big. -/
theorem AnsIs.form {W : World} {s : Bool} {A : Option Addr} {n c : Nat} {er V : Int} (h : AnsIs W s A n c er V) (h1 : V < tooBig) (h2 : -V < tooBig) : er = 0 ∧ FormIs W s A n c V ∧ n ≤ 256 := by
  rcases h with ⟨_, _, _, _, _, h⟩ | ⟨h1, h2, h3, zs, h4, h5, h6, h7, h8⟩
  · omega
  · exact ⟨h1, ⟨zs, h4, h5, h7, h8⟩, h6⟩

set_option maxRecDepth 100000 in
set_option maxHeartbeats 1000000 in
theorem awake_any (w : World) : Calls Tryd.prog 12 #[] w fun e w' => e = .returned (.bool true) ∧ Below w.heap.size w w' := by
  have hbig := tooBig_great
  have htx := text_minus3
  have hadd : ∀ (W : World) s1 A1 n1 c1 s2 A2 n2 c2, FormIs W s1 A1 n1 c1 2 → FormIs W s2 A2 n2 c2 (-5) → Calls Tryd.prog 22 #[.agg #[.bool s1, .slice A1 n1 c1], .agg #[.bool s2, .slice A2 n2 c2]] W fun e w' => ∃ s A n c, e = .returned (.tuple #[.agg #[.bool s, .slice A n c], .int .i64 0]) ∧ (FormIs w' s A n c (-3) ∧ n ≤ 256) ∧ Below W.heap.size W w' := fun W s1 A1 n1 c1 s2 A2 n2 c2 h1 h2 => by
    refine (Add_form h1 h2 (h1.few (by omega) (by omega)) (h2.few (by omega) (by omega))).mono ?_
    rintro e w' ⟨s, A, n, c, er, rfl, ha, hb⟩
    obtain ⟨rfl, hf, hn⟩ := ha.form (by omega) (by omega)
    exact ⟨s, A, n, c, rfl, ⟨hf, hn⟩, hb⟩
  have htext : ∀ (W : World) s A n c, FormIs W s A n c (-3) → n ≤ 256 → Calls Tryd.prog 19 #[.agg #[.bool s, .slice A n c]] W fun e w' => e = .returned (.string ⟨#[45, 51]⟩) ∧ Below W.heap.size W w' := fun W s A n c h hn => by
    have := Text_form h (by omega)
    rw [htx] at this
    exact this
  have Hadd := Lib.hid hadd; have Htext := Lib.hid htext
  clear hbig htx hadd htext
  go_enter Tryd.func12, Tryd.ntmps12
  go_wp2_with (first | (go_at_call 22; refine (Hadd.out _ _ _ _ _ _ _ _ _ HF1'.out HF2.out).mono ?_; rintro e W3 ⟨s3, A3, n3, c3, rfl, ⟨hf3, hn3⟩, hb3⟩; have HB3 := Lib.hid (below_then HB2.out HB2.out.size hb3); have HF3 := Lib.hid (hf3.below (below_alloc (Below.refl _ _) (.cells #[.bool s3, .slice A3 n3 c3] 24))); have HB4 := Lib.hid (below_alloc HB3.out (.cells #[.bool s3, .slice A3 n3 c3] 24)); clear hf3 hb3) | (go_at_call 19; refine (Htext.out _ _ _ _ _ HF3.out hn3).mono ?_; rintro e W5 ⟨rfl, hb5⟩; have HB5 := Lib.hid (below_then HB4.out HB4.out.size hb5); clear hb5) | (go_at_call 33; have HN := HB1; with_reducible refine (Of_any (-5) W1 (by omega) (by omega)).mono ?_; rintro e W2 ⟨s2, A2, n2, c2, rfl, hf2, hb2⟩; have HB2 := Lib.hid (below_then HB1.out HB1.out.size hb2); have HF1' := Lib.hid (FormIs.below HF1.out hb2); have HF2 := Lib.hid hf2; clear hf2 hb2) | (go_at_call 33; with_reducible refine (Of_any 2 w (by omega) (by omega)).mono ?_; rintro e W1 ⟨s1, A1, n1, c1, rfl, hf1, hb1⟩; have HB1 := Lib.hid hb1; have HF1 := Lib.hid hf1; clear hf1 hb1))
  go_ret
  exact ⟨rfl, HB5.out⟩
end Go.Proofs.YtiofeehcnegejaaDoor
