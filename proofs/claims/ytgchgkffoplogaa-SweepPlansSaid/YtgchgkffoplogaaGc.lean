/- laid: the table and the document's slots, laid and partly freed. -/
import Derived.Test.YtgchgkffoplogaaGb
namespace Go.Proofs.Ytgchgkffoplogaa
open Go.RowKit Go.Proofs.YtgchgkffoplogaaW.PrintWords
set_option linter.unusedVariables false
set_option linter.unusedSimpArgs false

theorem laid_new (w : World) : Laid w ((w.alloc (.cells #[.slice none 0 0, .slice none 0 0, .slice none 0 0] 89)).alloc (.cells #[.slice none 0 0, .slice none 0 0] 38))
    (fun k => if k < w.heap.size then 0 else if k = w.heap.size then 1 else 2) w.heap.size (w.heap.size + 1) [] [] [] [] [] := by
  obtain ⟨own, hown⟩ : ∃ own : Nat → Nat, own = fun k => if k < w.heap.size then 0 else if k = w.heap.size then 1 else 2 := ⟨_, rfl⟩
  rw [← hown]
  obtain ⟨W1, hW1⟩ : ∃ W1, W1 = w.alloc (.cells #[.slice none 0 0, .slice none 0 0, .slice none 0 0] 89) := ⟨_, rfl⟩
  rw [← hW1]
  have s1 : W1.heap.size = w.heap.size + 1 := by rw [hW1]; simp
  have b1 : Below w.heap.size w W1 := by rw [hW1]; exact below_alloc (Below.refl _ _) _
  have t1 : V.Tab W1 w.heap.size (fun k => w.heap.size ≤ k) [] [] := by rw [hW1]; exact V.tab_new
  have b2 := below_alloc (Below.refl W1.heap.size W1) (.cells #[.slice none 0 0, .slice none 0 0] 38)
  refine ⟨(t1.mono (ok' := fun k => own k = 1) (fun k e hlt => ?_)).below b2, fun i m xs e => by simp at e, rfl, ?_, fun k hk => by rw [hown]; exact if_pos hk, below_then b1 b1.size b2⟩
  · obtain rfl : k = w.heap.size := by omega
    show own w.heap.size = 1
    rw [hown]; simp
  · have h := ref_new W1 (fun k => own k = 2) (fun k => k < w.heap.size) (show own W1.heap.size = 2 by rw [hown, s1]; simp)
    rw [s1] at h
    exact ⟨_, _, _, h⟩

theorem freeTX_len (p : List Bool × List (List Int)) (i : Int) : (freeTX p i).1.length = p.1.length ∧ (freeTX p i).2.length = p.2.length := by
  unfold freeTX
  split <;> simp
theorem foldl_take_succ {β : Type} (f : β → Int → β) (b : β) (l : List Int) (k : Nat) (hk : k < l.length) : (l.take (k + 1)).foldl f b = f ((l.take k).foldl f b) (rd l k) := by
  rw [List.take_add_one, List.foldl_append]
  have : l[k]? = some (rd l (k : Int)) := by rw [List.getElem?_eq_getElem hk]; simp [rd, List.getD, List.getElem?_eq_getElem hk]
  rw [this]; rfl

/-- What laid answers. -/
def LaidPost (w : World) (X : List (List Int)) (fr : List Int) (e : Ending) (W' : World) : Prop :=
  ∃ own B C L, e = .returned (.tuple #[.pointer (some ⟨B, 0, none⟩), .pointer (some ⟨C, 0, none⟩), .bool true]) ∧ Laid w W' own B C L (laidTX X fr).1 (laidTX X fr).2 (laidTX X fr).1 (laidTX X fr).2 ∧ (laidTX X fr).1.length = X.length

set_option maxRecDepth 100000 in
set_option maxHeartbeats 1600000 in
theorem laid_any {w : World} {A : Option Addr} {X : List (List Int)} (hX : ArgRows w A X) (hl : X.length ≤ 200) (hs : ∀ i : Nat, (X.getD i []).length ≤ 60) (c : Nat) (Bf : Option Addr) (cf : Nat) (fr : List Int) (hr : ReadsInt w .i64 Bf fr.length fr) :
    Calls Try.prog 26 #[.slice A X.length c, .slice Bf fr.length cf] w fun e W' => LaidPost w X fr e W' := by
  have hrn := hr.2.1
  have hnew := laid_new w
  have Hnew := Lib.hid hnew; have HX := Lib.hid hX; have Hr := Lib.hid hr; have Hs := Lib.hid hs
  clear hnew hX hr hs
  go_enter Try.func26, Try.ntmps26
  go_wp2_with (go_at_call 49; refine (V.new_any _).mono ?_; rintro e w1 ⟨rfl, rfl⟩)
  go_loopw [9] (fun iv wr => ∃ (j : Nat) (own : Nat → Nat) (L : List V.El), j ≤ X.length ∧ iv = .int .i64 j ∧ Hid (Laid w wr own w.heap.size (w.heap.size + 1) L (List.replicate j true) (X.take j) (List.replicate j true) (X.take j))) (fun iv _ => X.length - (intOf iv).toNat)
  case atStart => exact ⟨0, _, [], Nat.zero_le _, rfl, Lib.hid (by simpa using Hnew.out)⟩
  case round =>
    obtain ⟨j, own, L, hj, rfl, H⟩ := hrel
    clear Hnew
    have hll : L.length = j := by have := H.out.lenX; rw [List.length_take] at this; omega
    by_cases hlt : j < X.length
    · obtain ⟨ad, Ai, ci, rfl, hc, hel⟩ := HX.out.at_ j hlt
      have h60 := Hs.out j
      have hnx : X.take (j + 1) = X.take j ++ [X.getD j []] := by
        rw [List.take_add_one, List.getElem?_eq_getElem hlt, List.getD_eq_getElem?_getD, List.getElem?_eq_getElem hlt]; rfl
      have Hnx := Lib.hid hnx
      obtain ⟨xs, hxs⟩ : ∃ xs, xs = X.getD j [] := ⟨_, rfl⟩
      rw [← hxs] at hc hel h60 Hnx
      clear hxs hnx
      have hcw := pw_cell_below H.out.bel hc
      obtain ⟨_, _, e0, _, hre, _⟩ := id hel
      injection e0 with e1 _ e3
      subst e1; subst e3
      have hreW := hre.below H.out.bel
      have p0 : (0 : Int) ≤ (j : Int) := by omega
      have p1 : (j : Int) < (X.length : Int) := by omega
      have Hc := Lib.hid hc; have Hel := Lib.hid hel; have HreW := Lib.hid hreW; have Hll := Lib.hid hll
      clear hel hre hreW hc hll
      go_wp2_with (first | (at_builtin; refine print_append_row (w0 := wr) wr.heap.size rfl (.tmp 24) (.tmp 28) 22 3 .i64 8 rfl Try.underlying22 info3 (by decide) (.slice none 0 0) [] xs Ai xs.length ci rfl rfl (own_nil _ _ _ _) HreW.out (Below.refl _ _) (Nat.le_refl _) (by simp; omega) ?_; intro v1 w1 hown hb1 hg1 hat1; have hd1 := H.out.below 3 hb1; rw [List.nil_append] at hown; obtain ⟨m, rfl, hem⟩ := elem_own (okE := fun k => tagged own wr.heap.size 3 k = 3 ∧ k < w1.heap.size) hown (fun k e1 e2 => ⟨tagged_ge e1, e2⟩); have hsa := hd1.sadd (by rw [Hll.out]; omega) m xs hem; rw [lowest_full_rep, addT_full, addL_full, addX_full] at hsa; have Hsa := Lib.hid hsa; clear hd1 hown hem hsa hg1 hat1 hb1) | (go_at_call 50; refine Hsa.out.mono ?_; rintro e w2 ⟨rfl, h2⟩; have hc2 := pw_cell_below h2.bel Hc.out; have hel2 := Hel.out.move (w' := w2) (okE' := fun k => k < w.heap.size) (fun k e1 _ => h2.bel.block k e1) (fun _ e1 => e1); have hra := h2.radd (by rw [List.length_take]; omega) _ xs hel2; rw [lowest_full_rep, addT_full, addX_full, ← Hnx.out] at hra; have Hra := Lib.hid hra; clear h2 hel2 hra) | (go_at_call 42; refine Hra.out.mono ?_; rintro e w3 ⟨rfl, h3⟩; have H3 := Lib.hid h3; clear h3))
      go_roundw
      case rel => exact ⟨j + 1, _, _, by omega, by go_num, H3⟩
      case measure => simp [intOf]; omega
    · have hjl : j = X.length := by omega
      have HJ := Lib.hid hjl
      have hz : ¬ (j : Int) < (X.length : Int) := by omega
      have hh := H.out
      rw [hjl, List.take_of_length_le (Nat.le_refl _)] at hh
      have HH := Lib.hid hh
      clear hjl hh H
      go_wp2
      go_loopw [11] (fun iv wr2 => ∃ (k : Nat) (own2 : Nat → Nat) (L2 : List V.El) (T2 : List Bool) (X2 : List (List Int)), k ≤ fr.length ∧ k ≤ 200 ∧ iv = .int .i64 k ∧ T2.length = X.length ∧ X2.length = X.length ∧ Hid (Laid w wr2 own2 w.heap.size (w.heap.size + 1) L2 T2 X2 T2 X2) ∧ Hid ((T2, X2) = (fr.take k).foldl freeTX (List.replicate X.length true, X))) (fun iv _ => fr.length - (intOf iv).toNat)
      case atStart => exact ⟨0, own, L, List.replicate X.length true, X, Nat.zero_le _, Nat.zero_le _, rfl, by simp, rfl, HH, Lib.hid (by simp)⟩
      case round =>
        obtain ⟨k, own2, L2, T2, X2, hk, hk2, rfl, hT2, hX2, HL, HE⟩ := hrel
        clear HH
        by_cases hkl : k < fr.length ∧ k < 200
        · obtain ⟨hkf, hk200⟩ := hkl
          obtain ⟨bd, rfl, hcell⟩ := (Hr.out.below HL.out.bel).at_ (k : Int) (by omega) (by omega)
          have hcell0 := (Hr.out.at_ (k : Int) (by omega) (by omega))
          obtain ⟨bd', e', hcw⟩ := hcell0
          injection e' with e'
          subst e'
          rw [Int.toNat_natCast] at hcell hcw
          have p0 : (0 : Int) ≤ (k : Int) := by omega
          have p1 : (k : Int) < (fr.length : Int) := by omega
          have p2 : (k : Int) < 200 := by omega
          have hnext := foldl_take_succ freeTX (List.replicate X.length true, X) fr k hkf
          rw [← HE.out] at hnext
          have Hnext := Lib.hid hnext
          obtain ⟨x, hx⟩ : ∃ x, x = rd fr (k : Int) := ⟨_, rfl⟩
          rw [← hx] at hcell hcw Hnext
          have HT2 := Lib.hid hT2; have HX2 := Lib.hid hX2
          have hlx := HL.out.lenX
          have hsf := HL.out.sfree (by omega) x
          have Hsf := Lib.hid hsf
          have Hcw := Lib.hid hcw
          clear hx hnext hlx hsf hcw
          go_wp2_with (first | (go_at_call 51; refine Hsf.out.mono ?_; rintro e w2 ⟨rfl, h2⟩; have hcell2 := pw_cell_below h2.bel Hcw.out; have hrf := h2.rfree (by rw [HX2.out]; omega) x; have Hrf := Lib.hid hrf; clear h2 hrf) | (go_at_call 46; refine Hrf.out.mono ?_; rintro e w3 ⟨rfl, h3⟩; have H3 := Lib.hid h3; clear h3))
          go_roundw
          case rel =>
            refine ⟨k + 1, _, _, (if isT T2 x then T2.set x.toNat false else T2), (if isT T2 x then X2.set x.toNat [] else X2), by omega, by omega, by go_num, ?_, ?_, H3, Lib.hid ?_⟩
            · have := HT2.out; split <;> simp [this]
            · have := HX2.out; split <;> simp [this]
            · rw [Hnext.out]
              unfold freeTX
              cases isT T2 x <;> rfl
          case measure => simp [intOf]; omega
        · have hfin : laidTX X fr = (T2, X2) := by
            unfold laidTX
            rw [HE.out]
            congr 1
            by_cases h1 : k < fr.length
            · have : k = 200 := by omega
              rw [this]
            · rw [List.take_of_length_le (by omega), List.take_of_length_le (by omega)]
          have HF := Lib.hid hfin
          have HT2 := Lib.hid hT2
          clear hfin hT2 hX2
          by_cases h1 : k < fr.length
          · have p1 : (k : Int) < (fr.length : Int) := by omega
            have p2 : ¬ (k : Int) < 200 := by omega
            go_wp2
            go_ret3
            exact ⟨own2, _, _, L2, rfl, by rw [HF.out]; exact HL.out, by rw [HF.out]; exact HT2.out⟩
          · have p1 : ¬ (k : Int) < (fr.length : Int) := by omega
            go_wp2
            go_ret3
            exact ⟨own2, _, _, L2, rfl, by rw [HF.out]; exact HL.out, by rw [HF.out]; exact HT2.out⟩
end Go.Proofs.Ytgchgkffoplogaa
