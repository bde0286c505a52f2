/- The walk of the law SweepNothing. -/
import Derived.Test.YtgchgkffoplogaaKb
namespace Go.Proofs.Ytgchgkffoplogaa
open Go.RowKit Go.Proofs.YtgchgkffoplogaaW.PrintWords
set_option linter.unusedVariables false
set_option linter.unusedSimpArgs false

theorem ArgRows.below {w w' : World} {A : Option Addr} {X : List (List Int)} (h : ArgRows w A X) (hb : Below w.heap.size w w') : ArgRows w' A X := by
  refine ⟨h.len, fun hp => ?_⟩
  obtain ⟨ad, e, h2⟩ := h.get hp
  refine ⟨ad, e, fun i hi => ?_⟩
  obtain ⟨Ai, ci, h3, h4⟩ := h2 i hi
  exact ⟨Ai, ci, pw_cell_below hb h3, h4.move (fun k e hlt => hb.block k hlt) (fun k e => Nat.lt_of_lt_of_le e hb.size)⟩

theorem marks_empty (T : List Bool) (Y : List (List Int)) (rl : List Int) (h : ∀ j : Nat, j < T.length → Y.getD j [] = []) : marks T Y rl = marks T [] rl := by
  unfold marks
  have e : markB T [] rl = markB T Y rl := by
    refine markB_eq (markB_len T Y rl) (fun i hi => ?_)
    rw [markB_get T Y rl i hi]
    constructor
    · intro hr
      generalize (i : Int) = k at hr
      induction hr with
      | root h1 h2 => exact .root h1 h2
      | step h1 h2 h3 ih =>
        obtain ⟨_, h4, _⟩ := isT_lt h1.taken
        rw [h _ (by obtain ⟨n, rfl, hn⟩ := isT_ofNat h1.taken; simpa using hn)] at h2
        cases h2
    · intro hr
      generalize (i : Int) = k at hr
      induction hr with
      | root h1 h2 => exact .root h1 h2
      | step h1 h2 h3 ih => simp at h2
  rw [e]

/-- At the loop's head: the first are emptied. -/
structure NtAt (w wr : World) (n1 : Nat) (ownj : Nat → Nat) (B C : Nat) (L : List V.El) (T : List Bool) (X Y : List (List Int)) (rl : List Int) (vm : Value) (i : Nat) : Prop where
  laid : Laid w wr ownj B C L T X T Y
  len : Y.length = T.length
  nil : ∀ j : Nat, j < i → Y.getD j [] = []
  m : wr.ownsRow n1 3 1 vm (marks T [] rl).length (nums .i64 (marks T [] rl))
  mt : ∀ k, vm.ownBlock = some k → ownj k = 4
theorem NtAt.step {w wr : World} {n1 : Nat} {ownj : Nat → Nat} {B C : Nat} {L : List V.El} {T : List Bool} {X Y : List (List Int)} {rl : List Int} {vm : Value} {i : Nat} (h : NtAt w wr n1 ownj B C L T X Y rl vm i) (hi : i < T.length) :
    ∃ g c, wr.cell? ⟨C, 0, none⟩ = some (.slice (some ⟨g, 0, none⟩) T.length c) ∧ (∃ v, wr.cell? ⟨g, i, none⟩ = some v) ∧ wr.frozen? ⟨g, i, none⟩ = false ∧ NtAt w (wr.setCell ⟨g, i, none⟩ (.slice none 0 0)) n1 (tagged ownj wr.heap.size 2) B C L T X (Y.set i []) rl vm (i + 1) := by
  obtain ⟨vL, vT, M, hr⟩ := h.laid.ref
  have hML : M.length = T.length := hr.len.symm
  obtain ⟨g, c, hvL, hv, hf, _⟩ := ref_elem hr (i : Int) (by omega) (by omega)
  subst hvL
  rw [Int.toNat_natCast] at hv hf
  obtain ⟨hp, hk⟩ := ref_put hr (fun _ e => e) h.laid.dis i (by omega) (.slice none 0 0) [] (Elem.nil _ _)
  refine ⟨g, c, by rw [← hML]; exact blk_cell hr.blk 0, ⟨_, hv⟩, hf, ?_, by rw [List.length_set]; exact h.len, ?_, ?_, ?_⟩
  · exact h.laid.onRef ⟨_, _, _, hp.mono (fun k e => .inl e) (fun _ e => e)⟩ hk
  · intro j hj
    rw [List.getD_eq_getElem?_getD, List.getElem?_set]
    split
    · split <;> rfl
    · have := h.nil j (by omega)
      rwa [List.getD_eq_getElem?_getD] at this
  · exact own_move h.m (fun k e => hk.block k (own_lt h.m k e) (fun e' => by rw [h.mt k e] at e'; omega))
  · exact fun k e => (tagged_lt (own_lt h.m k e)).trans (h.mt k e)

set_option maxRecDepth 100000 in
set_option maxHeartbeats 4000000 in
theorem sweepNothing_law {w : World} {A : Option Addr} {X : List (List Int)} (hX : ArgRows w A X) (c : Nat) (Br : Option Addr) (cr : Nat) (rl : List Int) (hr : ReadsInt w .i64 Br rl.length rl) :
    Calls Try.prog 10 #[.slice A X.length c, .slice Br rl.length cr] w fun e w' => e = .returned (.bool true) ∧ Below w.heap.size w w' := by
  have hlarge := large_any (B := Br) hX c rl.length cr hr.2.1
  cases hlb : largeB X rl.length
  · rw [hlb] at hlarge
    obtain ⟨hX2, hr2, h60⟩ := small_of hlb
    have hlaid := fun w' (hb : Below w.heap.size w w') => laid_any (hX.below hb) hX2 h60 c none 0 [] (ReadsInt.nil w' .i64)
    obtain ⟨T, hT⟩ : ∃ T, T = List.replicate X.length true := ⟨_, rfl⟩
    have hTX : laidTX X [] = (T, X) := by rw [hT]; rfl
    have hTl : T.length = X.length := by rw [hT]; simp
    unfold LaidPost at hlaid
    rw [hTX] at hlaid
    simp only at hlaid
    have Hlaid := Lib.hid hlaid; have Hlarge := Lib.hid hlarge; have Hr := Lib.hid hr; have HTl := Lib.hid hTl
    clear hlaid hlarge hr hX hlb h60 hTX hT hTl
    go_enter Try.func10, Try.ntmps10
    go_upto_region 9 with (first | (go_at_call 24; refine Hlarge.out.mono ?_; rintro e w0 ⟨rfl, rfl⟩) | (go_at_call 27; refine (mark_nil _ _ rl Hr.out).mono ?_; rintro e w1 ⟨rfl, hb1⟩; have HB1 := Lib.hid hb1; clear hb1) | (go_at_call 32; refine (sweep_nil _ _ rl (Hr.out.below HB1.out)).mono ?_; rintro e w2 ⟨⟨A2, c2, rfl⟩, hb2⟩; have HB2 := Lib.hid (below_then HB1.out HB1.out.size hb2); clear hb2) | (go_at_call 26; refine (Hlaid.out _ HB2.out).mono ?_; rintro e W1 ⟨own, B, C, L, rfl, hL, _⟩; have HL := Lib.hid hL; clear hL))
    have hl4 : L.length ≤ 100000 := by have := HL.out.lenX; omega
    have hm := mark_any HL.out.tab hl4 HL.out.el HL.out.lenX Br cr rl ((Hr.out.below HB2.out).below HL.out.bel) false
    simp only [Bool.false_eq_true, if_false] at hm
    have Hm := Lib.hid hm
    clear hm Hlaid
    go_wp2_with (go_at_call 27; refine Hm.out.mono ?_; rintro e W2 ⟨v2, rfl, hown2, hb2⟩; obtain ⟨A3, c3, rfl⟩ := own_slice hown2; have Hown2 := Lib.hid hown2; have HBm := Lib.hid hb2; clear hown2 hb2)
    have hn0 : NtAt w2 W2 W1.heap.size (tagged own W1.heap.size 4) B C L T X X rl (.slice A3 (marks T [] rl).length c3) 0 :=
      ⟨HL.out.below 4 HBm.out, HTl.out.symm, fun j hj => by omega, Hown2.out, fun k e => tagged_ge (own_base Hown2.out k e)⟩
    have Hn0 := Lib.hid hn0
    obtain ⟨n, hn⟩ : ∃ n, n = T.length := ⟨_, rfl⟩
    have hn2 : n ≤ 200 := by rw [hn, HTl.out]; exact hX2
    have Hn := Lib.hid hn
    obtain ⟨ml, hml⟩ : ∃ ml, ml = (marks T [] rl).length := ⟨_, rfl⟩
    rw [← hml] at Hn0 ⊢
    have Hml := Lib.hid hml
    clear hn0 hn hml Hm Hown2 HBm
    go_loopw [10] (fun iv wr => ∃ (i : Nat) (ownj : Nat → Nat) (Y : List (List Int)), i ≤ n ∧ iv = .int .i64 i ∧ Hid (NtAt w2 wr W1.heap.size ownj B C L T X Y rl (.slice A3 ml c3) i)) (fun iv _ => n - (intOf iv).toNat)
    case atStart => exact ⟨0, _, X, Nat.zero_le _, rfl, Hn0⟩
    case round =>
      obtain ⟨i, ownj, Y, hi, rfl, HN⟩ := hrel
      clear Hn0
      by_cases hlt : i < n
      · obtain ⟨g, c4, hcC, ⟨v, hcv⟩, hfv, hnx⟩ := HN.out.step (by rw [← Hn.out]; exact hlt)
        rw [← Hn.out] at hcC
        have Hnx := Lib.hid hnx
        have p0 : (0 : Int) ≤ (i : Int) := by omega
        have p1 : (i : Int) < (n : Int) := by omega
        clear hnx
        go_wp2
        go_roundw
        case rel => exact ⟨i + 1, _, _, by omega, by go_num, Hnx⟩
        case measure => simp [intOf]; omega
      · have hz : ¬ (i : Int) < (n : Int) := by omega
        have hin : i = n := by omega
        subst hin
        obtain ⟨vL, vT, M, hrf⟩ := HN.out.laid.ref
        obtain ⟨Ac, cc, hvL⟩ := own_slice hrf.rl
        have hcC : wr.cell? ⟨C, 0, none⟩ = some (.slice Ac i cc) := by
          have h := blk_cell hrf.blk 0
          rw [hvL] at h
          rw [Hn.out, hrf.len]; exact h
        have hy4 : Y.length ≤ 100000 := by rw [HN.out.len, ← Hn.out]; omega
        have hrm := HN.out.laid.rmark hy4 Br cr rl ((Hr.out.below HB2.out).below HN.out.laid.bel)
        rw [marks_empty T Y rl (fun j hj => HN.out.nil j (by rw [Hn.out]; exact hj))] at hrm
        have hown := HN.out.m
        rw [← Hml.out] at hown
        obtain ⟨A5, c5, hv5, hr5⟩ := own_reads hown
        injection hv5 with e1 _ e3
        subst e1; subst e3
        rw [Hml.out] at hr5 ⊢
        have Hrm := Lib.hid hrm; have Hr5 := Lib.hid hr5
        clear hrm hr5 hrf hvL hown
        go_wp2_with (first | (go_at_call 25; refine (awake25_any _).mono ?_; rintro e W9 ⟨rfl, hb9⟩; have HB9 := Lib.hid (below_then HB7.out HB7.out.size hb9); clear hb9) | (go_at_call 29; refine (same_any _ _ _ _ _ _ (Hr5.out.below HB6.out) Hr6.out).mono ?_; rintro e W7 ⟨rfl, q7, hW7⟩; have hb7 : Below wr.heap.size wr W7 := (by rw [hW7]; exact pw_below_drewN HB6.out q7); have HB7 := Lib.hid (below_then HN.out.laid.bel HN.out.laid.bel.size hb7); clear hW7 hb7) | (go_at_call 30; refine Hrm.out.mono ?_; rintro e W6 ⟨A6, c6, rfl, hr6, hb6⟩; have HB6 := Lib.hid hb6; have Hr6 := Lib.hid hr6; clear hr6 hb6))
        go_ret
        exact ⟨rfl, below_then HB2.out HB2.out.size HB9.out⟩
  · rw [hlb] at hlarge
    have Hlarge := Lib.hid hlarge
    clear hlarge hX hr hlb
    go_enter Try.func10, Try.ntmps10
    go_wp2_with (first | (go_at_call 24; refine Hlarge.out.mono ?_; rintro e w0 ⟨rfl, rfl⟩) | (go_at_call 25; refine (awake25_any _).mono ?_; rintro e w1 ⟨rfl, hb⟩; have HB := Lib.hid hb; clear hb))
    go_ret
    exact ⟨rfl, HB.out⟩
end Go.Proofs.Ytgchgkffoplogaa
