/- The law WholeReads: any text is read as the number that it writes, or refused. -/
import Derived.Test.YtiofeehcnegejaaDoorTq
import Derived.Test.YtiofeehcnegejaaDoorRdB
namespace Go.Proofs.YtiofeehcnegejaaDoor
open Go.RowKit Go.Proofs.YtiofeehcnegejaaDoorW.PrintWords
set_option linter.unusedVariables false
set_option linter.unusedSimpArgs false

/-- A reader's answer that is a refusal. -/
theorem post_bad {w w' : World} {d : ByteArray} {neg : Bool} {e : Ending} (h : ParsePost w d neg e w') (hb : BadD d neg) : e = .returned (.tuple #[.agg #[.bool false, .slice none 0 0], .int .i64 4]) ∧ Below w.heap.size w w' := by
  obtain ⟨s, A, n, c, er, rfl, hB, h⟩ := h
  rcases h with ⟨rfl, rfl, rfl, rfl, rfl, _⟩ | ⟨h, _⟩
  · exact ⟨rfl, hB⟩
  · exact absurd hb h
theorem post_big {w w' : World} {d : ByteArray} {neg : Bool} {e : Ending} (h : ParsePost w d neg e w') (hb : ¬ BadD d neg) (hv : tooBig ≤ valD d d.size) : e = .returned (.tuple #[.agg #[.bool false, .slice none 0 0], .int .i64 3]) ∧ Below w.heap.size w w' := by
  obtain ⟨s, A, n, c, er, rfl, hB, h⟩ := h
  rcases h with ⟨_, _, _, _, _, h⟩ | ⟨_, h⟩
  · exact absurd h hb
  · rcases h with ⟨rfl, rfl, rfl, rfl, rfl, _⟩ | ⟨_, h1, h2, _⟩
    · exact ⟨rfl, hB⟩
    · unfold sgnI at h1 h2
      cases neg <;> simp at h1 h2 <;> omega
theorem post_good {w w' : World} {d : ByteArray} {neg : Bool} {e : Ending} (h : ParsePost w d neg e w') (hb : ¬ BadD d neg) (h0 : 0 ≤ valD d d.size) (hv : valD d d.size < tooBig) : ∃ s A n c, e = .returned (.tuple #[.agg #[.bool s, .slice A n c], .int .i64 0]) ∧ FormIs w' s A n c (sgnI neg (valD d d.size)) ∧ n ≤ 256 ∧ Below w.heap.size w w' := by
  obtain ⟨s, A, n, c, er, rfl, hB, h⟩ := h
  rcases h with ⟨_, _, _, _, _, h⟩ | ⟨_, h⟩
  · exact absurd h hb
  · obtain ⟨rfl, hf, hn⟩ := h.form (by unfold sgnI; cases neg <;> simp <;> omega) (by unfold sgnI; cases neg <;> simp <;> omega)
    exact ⟨s, A, n, c, rfl, hf, hn, hB⟩

set_option maxRecDepth 100000 in
set_option maxHeartbeats 2000000 in
/-- Both refuse. -/
theorem reads_no (s : ByteArray) (w : World) (er : Int) (her : er ≠ 0) (hs : ¬ (3000 : Int) < (s.size : Int)) (hp : ∀ W, Calls Tryd.prog 16 #[.string s] W fun e w' => e = .returned (.tuple #[.agg #[.bool false, .slice none 0 0], .int .i64 er]) ∧ Below W.heap.size W w') (hq : ∀ W, Calls Tryd.prog 17 #[.string s] W fun e w' => e = .returned (.tuple #[.agg #[.bool false, .slice none 0 0], .int .i64 er]) ∧ Below W.heap.size W w') :
    Calls Tryd.prog 4 #[.string s] w fun e w' => e = .returned (.bool true) ∧ Below w.heap.size w w' := by
  have q1 : decide ((3000 : Int) < (s.size : Int)) = false := by simpa using hs
  have q2 : (er == 0) = false := beq_eq_false_iff_ne.2 her
  have q3 : (er != 0) = true := by simpa using her
  have hsame : ∀ W, Calls Tryd.prog 18 #[.agg #[.bool false, .slice none 0 0], .agg #[.bool false, .slice none 0 0]] W fun e w' => e = .returned (.bool true) ∧ Below W.heap.size W w' := fun W => same_words false none none 0 0 0 [] W (ReadsInt.nil _ _) (ReadsInt.nil _ _) (by omega)
  have Hp := Lib.hid hp; have Hq := Lib.hid hq; have Hsame := Lib.hid hsame; have Her := Lib.hid her
  clear hp hq hsame her
  go_enter Tryd.func4, Tryd.ntmps4
  go_wp2_with (first | (go_at_call 16; refine (Hp.out _).mono ?_; rintro e W1 ⟨rfl, hb1⟩; have hk1 := blk_new W1 (.cells #[.bool false, .slice none 0 0] 24); have HK1 := Lib.hid hk1; have HB1 := Lib.hid (below_alloc hb1 (.cells #[.bool false, .slice none 0 0] 24)); clear hb1 hk1) | (go_at_call 17; refine (Hq.out _).mono ?_; rintro e W2 ⟨rfl, hb2⟩; have HB2 := Lib.hid (below_alloc (below_then HB1.out HB1.out.size hb2) (.cells #[.bool false, .slice none 0 0] 24)); have HK2 := Lib.hid (blk_alloc (blk_below HK1.out hb2) (.cells #[.bool false, .slice none 0 0] 24)); have x0 := blk_cell HK2.out 0; have x1 := blk_cell HK2.out 1; clear hb2) | (go_at_call 18; refine (Hsame.out _).mono ?_; rintro e W3 ⟨rfl, hb3⟩; have HB3 := Lib.hid (below_then HB2.out HB2.out.size hb3); clear hb3))
  go_ret
  exact ⟨rfl, HB3.out⟩
set_option maxRecDepth 100000 in
set_option maxHeartbeats 2000000 in
/-- Both read it. -/
theorem reads_yes (s : ByteArray) (V : Int) (w : World) (hs : ¬ (3000 : Int) < (s.size : Int)) (htx : (⟨(toB (textV V)).toArray⟩ : ByteArray) = s) (hp : ∀ W, Calls Tryd.prog 16 #[.string s] W fun e w' => ∃ s A n c, e = .returned (.tuple #[.agg #[.bool s, .slice A n c], .int .i64 0]) ∧ FormIs w' s A n c V ∧ n ≤ 256 ∧ Below W.heap.size W w') (hq : ∀ W, Calls Tryd.prog 17 #[.string s] W fun e w' => ∃ s A n c, e = .returned (.tuple #[.agg #[.bool s, .slice A n c], .int .i64 0]) ∧ FormIs w' s A n c V ∧ n ≤ 256 ∧ Below W.heap.size W w') :
    Calls Tryd.prog 4 #[.string s] w fun e w' => e = .returned (.bool true) ∧ Below w.heap.size w w' := by
  have q1 : decide ((3000 : Int) < (s.size : Int)) = false := by simpa using hs
  have htext : ∀ W sg A n c, FormIs W sg A n c V → n ≤ 256 → Calls Tryd.prog 19 #[.agg #[.bool sg, .slice A n c]] W fun e w' => e = .returned (.string s) ∧ Below W.heap.size W w' := fun W sg A n c h hn => by
    have := Text_form h (by omega)
    rw [htx] at this
    exact this
  have Hp := Lib.hid hp; have Hq := Lib.hid hq; have Htext := Lib.hid htext
  clear hp hq htext htx
  go_enter Tryd.func4, Tryd.ntmps4
  go_wp2_with (first | (go_at_call 16; refine (Hp.out _).mono ?_; rintro e W1 ⟨s1, A1, n1, c1, rfl, hf1, hn1, hb1⟩; have hk1 := blk_new W1 (.cells #[.bool s1, .slice A1 n1 c1] 24); have HK1 := Lib.hid hk1; have HF1 := Lib.hid (FormIs.below hf1 (below_alloc (Below.refl _ _) (.cells #[.bool s1, .slice A1 n1 c1] 24))); have HB1 := Lib.hid (below_alloc hb1 (.cells #[.bool s1, .slice A1 n1 c1] 24)); clear hb1 hk1 hf1) | (go_at_call 17; refine (Hq.out _).mono ?_; rintro e W2 ⟨s2, A2, n2, c2, rfl, hf2, hn2, hb2⟩; have HB2 := Lib.hid (below_alloc (below_then HB1.out HB1.out.size hb2) (.cells #[.bool s2, .slice A2 n2 c2] 24)); have HK2 := Lib.hid (blk_alloc (blk_below HK1.out hb2) (.cells #[.bool s2, .slice A2 n2 c2] 24)); have HF1b := Lib.hid (FormIs.below (FormIs.below HF1.out hb2) (below_alloc (Below.refl _ _) (.cells #[.bool s2, .slice A2 n2 c2] 24))); have HF2 := Lib.hid (FormIs.below hf2 (below_alloc (Below.refl _ _) (.cells #[.bool s2, .slice A2 n2 c2] 24))); have x0 := blk_cell HK2.out 0; have x1 := blk_cell HK2.out 1; clear hb2 hf2) | (go_at_call 18; refine (same_form HF1b.out HF2.out).mono ?_; rintro e W3 ⟨rfl, hb3⟩; have HB3 := Lib.hid (below_then HB2.out HB2.out.size hb3); have HK3 := Lib.hid (blk_below HK2.out hb3); have HF3 := Lib.hid (FormIs.below HF1b.out hb3); have y0 := blk_cell HK3.out 0; have y1 := blk_cell HK3.out 1; clear hb3) | (go_at_call 19; refine (Htext.out _ _ _ _ _ HF3.out hn1).mono ?_; rintro e W4 ⟨rfl, hb4⟩; have HB4 := Lib.hid (below_then HB3.out HB3.out.size hb4); clear hb4) | (go_at_call 12; refine (awake_any _).mono ?_; rintro e Wz ⟨rfl, hbz⟩; have HZ := Lib.hid hbz; clear hbz))
  go_ret
  exact ⟨rfl, below_then HB4.out HB4.out.size HZ.out⟩
set_option maxRecDepth 100000 in
theorem reads_long (s : ByteArray) (w : World) (hs : (3000 : Int) < (s.size : Int)) :
    Calls Tryd.prog 4 #[.string s] w fun e w' => e = .returned (.bool true) ∧ Below w.heap.size w w' := by
  have q1 : decide ((3000 : Int) < (s.size : Int)) = true := by simpa using hs
  go_enter Tryd.func4, Tryd.ntmps4
  go_wp2_with (go_at_call 12; refine (awake_any _).mono ?_; rintro e Wz ⟨rfl, hbz⟩; have HZ := Lib.hid hbz; clear hbz)
  go_ret
  exact ⟨rfl, HZ.out⟩
/-- The law, whatever the text. -/
theorem reads_law (s : ByteArray) (w : World) : Calls Tryd.prog 4 #[.string s] w fun e w' => e = .returned (.bool true) ∧ Below w.heap.size w w' := by
  by_cases hl : (3000 : Int) < (s.size : Int)
  · exact reads_long s w hl
  · have hsp := neg_split s
    have hsz : (restS s).size ≤ 3000 := by
      have h := congrArg List.length hsp
      rw [List.length_append, ← size_list, ← size_list] at h
      omega
    have hcut : ∀ W, Calls Tryd.prog 47 #[.string s, .string ⟨#[45]⟩] W fun e w' => e = .returned (.tuple #[.string (restS s), .bool (negS s)]) ∧ w' = W := fun W => Tryd.strings_CutPrefix s ⟨#[45]⟩ W
    have hs48 : bt (restS s) 0 = 48 → 0 < (restS s).size → (s.data.toList = [48] ↔ ¬ (negS s = true ∨ 1 < (restS s).size)) := fun h48 hp => by
      rw [hsp]
      cases hn : negS s
      · simp only [Bool.false_eq_true, if_false, List.nil_append, false_or]
        constructor
        · intro h; have := congrArg List.length h; rw [← size_list] at this; simp at this; omega
        · intro h
          have h1 : (restS s).size = 1 := by omega
          have h2 := rest_sgD (restS s)
          rw [← h2, h1]
          have e : sgD (restS s) 1 = [bt (restS s) ((0 : Nat) : Int)] := by simp [sgD, List.range_succ]
          have e0 : bt (restS s) ((0 : Nat) : Int) = bt (restS s) 0 := rfl
          rw [e, e0, h48]; rfl
      · simp
    have hsd : if negS s then ∃ h : 0 < s.size, ((s[0]'h).toNat : Int) = 45 ∧ s.extract 1 s.size = restS s else restS s = s ∧ (s.size = 0 ∨ ∃ h : 0 < s.size, ((s[0]'h).toNat : Int) ≠ 45) := by
      cases hn : negS s
      · simp only [Bool.false_eq_true, if_false]
        rw [hn] at hsp
        exact ⟨(ba_ext (by simpa using hsp)).symm, neg_first s hn⟩
      · simp only [if_true]
        exact neg_true s hn
    have hp := fun W => Parse_any s (restS s) (negS s) W hsz hcut hs48
    have hq := fun W => refParse_any s (restS s) (negS s) W hsz hsd
    by_cases hbad : BadD (restS s) (negS s)
    · exact reads_no s w 4 (by omega) hl (fun W => (hp W).mono fun e w' h => post_bad h hbad) (fun W => (hq W).mono fun e w' h => post_bad h hbad)
    · have hdig : DigB (restS s) (restS s).size := Classical.byContradiction fun e => hbad (.inr (.inr e))
      by_cases hbig : tooBig ≤ valD (restS s) (restS s).size
      · exact reads_no s w 3 (by omega) hl (fun W => (hp W).mono fun e w' h => post_big h hbad hbig) (fun W => (hq W).mono fun e w' h => post_big h hbad hbig)
      · have h0 := valD_nonneg hdig
        refine reads_yes s _ w hl (ba_ext ?_) (fun W => (hp W).mono fun e w' h => post_good h hbad h0 (by omega)) (fun W => (hq W).mono fun e w' h => post_good h hbad h0 (by omega))
        rw [hsp]
        exact good_text hbad
end Go.Proofs.YtiofeehcnegejaaDoor
