/- The walk of the document's Sweep. -/
import Derived.Test.YtgchgkffoplogaaHc
namespace Go.Proofs.Ytgchgkffoplogaa
open Go.RowKit Go.Proofs.YtgchgkffoplogaaW.PrintWords
set_option linter.unusedVariables false
set_option linter.unusedSimpArgs false

/-- What the document's Sweep answers and leaves. -/
def RefSweepPost (w W : World) (B C : Nat) (L : List V.El) (T : List Bool) (X : List (List Int)) (U : List Bool) (Y : List (List Int)) (rl : List Int) (e : Ending) (W' : World) : Prop :=
  ∃ v own', e = .returned v ∧ W'.ownsRow W.heap.size 3 1 v (sweepL U Y rl).length (nums .i64 (sweepL U Y rl)) ∧ Laid w W' own' B C L T X (freesTX (U, Y) (sweepL U Y rl)).1 (freesTX (U, Y) (sweepL U Y rl)).2
/-- At the loop's head. -/
structure RSw (w W wr : World) (n1 : Nat) (ownj : Nat → Nat) (B C : Nat) (L : List V.El) (T : List Bool) (X : List (List Int)) (U : List Bool) (Y : List (List Int)) (rl : List Int) (vm vo : Value) (i : Nat) : Prop where
  laid : Laid w wr ownj B C L T X (freesTX (U, Y) (takesTo (lessB U (markB U Y rl)) i)).1 (freesTX (U, Y) (takesTo (lessB U (markB U Y rl)) i)).2
  m : wr.ownsRow W.heap.size 3 1 vm (marks U Y rl).length (nums .i64 (marks U Y rl))
  mt : ∀ k, vm.ownBlock = some k → ownj k = 4 ∧ k < n1
  o : wr.ownsRow n1 3 1 vo (takesTo (lessB U (markB U Y rl)) i).length (nums .i64 (takesTo (lessB U (markB U Y rl)) i))
  ot : ∀ k, vo.ownBlock = some k → ownj k = 4
  sz : n1 ≤ wr.heap.size
theorem RSw.out_ne {w W wr : World} {n1 : Nat} {ownj : Nat → Nat} {B C : Nat} {L : List V.El} {T : List Bool} {X : List (List Int)} {U : List Bool} {Y : List (List Int)} {rl : List Int} {vm vo : Value} {i : Nat} (h : RSw w W wr n1 ownj B C L T X U Y rl vm vo i) : vm.ownBlock = none ∨ vm.ownBlock ≠ vo.ownBlock := by
  cases e : vm.ownBlock with
  | none => exact .inl rfl
  | some k =>
    refine .inr (fun e' => ?_)
    have h1 := (h.mt k e).2
    have h2 := own_base h.o k e'.symm
    omega

section
variable {w W wr w6 w7 : World} {n1 : Nat} {ownj : Nat → Nat} {B C : Nat} {L : List V.El} {T : List Bool} {X : List (List Int)} {U : List Bool} {Y : List (List Int)} {rl : List Int} {vm vo v7 : Value} {i : Nat}
/-- Behind a Free that freed none. -/
theorem RSw.skip (h : RSw w W wr n1 ownj B C L T X U Y rl vm vo i) (hL : Laid w w6 (tagged ownj wr.heap.size 2) B C L T X (freesTX (U, Y) (takesTo (lessB U (markB U Y rl)) i)).1 (freesTX (U, Y) (takesTo (lessB U (markB U Y rl)) i)).2) (hk : Kept (fun k => ownj k = 2) wr w6)
    (he : takesTo (lessB U (markB U Y rl)) (i + 1) = takesTo (lessB U (markB U Y rl)) i) : RSw w W w6 n1 (tagged ownj wr.heap.size 2) B C L T X U Y rl vm vo (i + 1) := by
  refine ⟨by rw [he]; exact hL, own_move h.m (fun k e => hk.block k (own_lt h.m k e) (fun e' => by rw [(h.mt k e).1] at e'; omega)), fun k e => ⟨(tagged_lt (own_lt h.m k e)).trans (h.mt k e).1, (h.mt k e).2⟩, ?_, fun k e => (tagged_lt (own_lt h.o k e)).trans (h.ot k e), Nat.le_trans h.sz hk.size⟩
  rw [he]
  exact own_move h.o (fun k e => hk.block k (own_lt h.o k e) (fun e' => by rw [h.ot k e] at e'; omega))
/-- A marked slot. -/
theorem RSw.next (h : RSw w W wr n1 ownj B C L T X U Y rl vm vo i) (he : takesTo (lessB U (markB U Y rl)) (i + 1) = takesTo (lessB U (markB U Y rl)) i) : RSw w W wr n1 ownj B C L T X U Y rl vm vo (i + 1) :=
  ⟨by rw [he]; exact h.laid, h.m, h.mt, by rw [he]; exact h.o, h.ot, h.sz⟩
/-- Behind a Free that freed. -/
theorem RSw.rows (h : RSw w W wr n1 ownj B C L T X U Y rl vm vo i) (hk : Kept (fun k => ownj k = 2) wr w6) : w6.ownsRow n1 3 1 vo (takesTo (lessB U (markB U Y rl)) i).length (nums .i64 (takesTo (lessB U (markB U Y rl)) i)) ∧ n1 ≤ w6.heap.size :=
  ⟨own_move h.o (fun k e => hk.block k (own_lt h.o k e) (fun e' => by rw [h.ot k e] at e'; omega)), Nat.le_trans h.sz hk.size⟩
theorem RSw.freed (h : RSw w W wr n1 ownj B C L T X U Y rl vm vo i) (he : takesTo (lessB U (markB U Y rl)) (i + 1) = takesTo (lessB U (markB U Y rl)) i ++ [(i : Int)])
    (hL : Laid w w6 (tagged ownj wr.heap.size 2) B C L T X (freeTX (freesTX (U, Y) (takesTo (lessB U (markB U Y rl)) i)) i).1 (freeTX (freesTX (U, Y) (takesTo (lessB U (markB U Y rl)) i)) i).2) (hk : Kept (fun k => ownj k = 2) wr w6)
    (ho : w7.ownsRow n1 3 1 v7 (takesTo (lessB U (markB U Y rl)) i ++ [(i : Int)]).length (nums .i64 (takesTo (lessB U (markB U Y rl)) i ++ [(i : Int)]))) (hg : w6.grownBy w7 vo.ownBlock) (hat : v7.ownBlock = vo.ownBlock ∨ ∃ b, v7.ownBlock = some b ∧ w6.heap.size ≤ b) :
    RSw w W w7 n1 (tagged (tagged ownj wr.heap.size 2) w6.heap.size 4) B C L T X U Y rl vm v7 (i + 1) := by
  have hot : ∀ k, vo.ownBlock = some k → k < wr.heap.size ∧ tagged ownj wr.heap.size 2 k = 4 := fun k e => ⟨own_lt h.o k e, (tagged_lt (own_lt h.o k e)).trans (h.ot k e)⟩
  have hm6 := own_move h.m (w1 := w6) (fun k e => hk.block k (own_lt h.m k e) (fun e' => by rw [(h.mt k e).1] at e'; omega))
  have hk4 : Kept (fun k => tagged ownj wr.heap.size 2 k = 4) w6 w7 := (Kept.refl _ w6).grown hg (fun k e => .inl (hot k e).2)
  have hfr : freesTX (U, Y) (takesTo (lessB U (markB U Y rl)) i ++ [(i : Int)]) = freeTX (freesTX (U, Y) (takesTo (lessB U (markB U Y rl)) i)) i := by unfold freesTX; rw [List.foldl_append]; rfl
  refine ⟨by rw [he, hfr]; exact hL.aside hk4, own_other hm6 hg h.out_ne, fun k e => ⟨?_, (h.mt k e).2⟩, by rw [he]; exact ho, fun k e => ?_, Nat.le_trans h.sz (Nat.le_trans hk.size hk4.size)⟩
  · have h1 := own_lt h.m k e
    have h2 := own_lt hm6 k e
    rw [tagged_lt h2, tagged_lt h1]; exact (h.mt k e).1
  · rcases hat with e1 | ⟨b, e1, hb⟩
    · rw [e1] at e
      have h1 := (hot k e).1
      rw [tagged_lt (Nat.lt_of_lt_of_le h1 hk.size)]; exact (hot k e).2
    · rw [e1] at e; injection e with e
      exact tagged_ge (by omega)
end

set_option maxRecDepth 100000 in
set_option maxHeartbeats 3200000 in
theorem refSweep_any {w W : World} {own : Nat → Nat} {B C : Nat} {L : List V.El} {T : List Bool} {X : List (List Int)} {U : List Bool} {Y : List (List Int)} (h : Laid w W own B C L T X U Y) (hl : Y.length ≤ 100000)
    (A : Option Addr) (cA : Nat) (rl : List Int) (hr : ReadsInt W .i64 A rl.length rl) :
    Calls Try.prog 33 #[.pointer (some ⟨C, 0, none⟩), .slice A rl.length cA] W fun e W' => RefSweepPost w W B C L T X U Y rl e W' := by
  obtain ⟨vL, vT, M, hrf⟩ := h.ref
  have hMl : M.length ≤ 100000 := by rw [← hrf.lenX]; exact hl
  have hUY : U.length = Y.length := by rw [hrf.len, hrf.lenX]
  have hmark := refMark_any hrf hMl A cA rl hr
  obtain ⟨n, hn⟩ : ∃ n, n = U.length := ⟨_, rfl⟩
  have hcell : ∀ (wr : World) (ownj : Nat → Nat) (U' : List Bool) (Y' : List (List Int)), Laid w wr ownj B C L T X U' Y' → U'.length = n → ∃ A0 c0, wr.cell? ⟨C, 0, none⟩ = some (.slice A0 n c0) := fun wr ownj U' Y' hL hU' => by
    obtain ⟨vL', vT', M', hrf'⟩ := hL.ref
    obtain ⟨A0, c0, rfl⟩ := own_slice hrf'.rl
    have := blk_cell hrf'.blk 0
    exact ⟨A0, c0, by rw [← hU', hrf'.len]; exact this⟩
  have Hmark := Lib.hid hmark; have Hcell := Lib.hid hcell; have H := Lib.hid h; have Hn := Lib.hid hn; have HUY := Lib.hid hUY
  have hn1 : n ≤ 100000 := by omega
  clear hmark hcell h hn hUY hr hrf
  go_enter Try.func33, Try.ntmps33
  go_wp2_with (go_at_call 30; refine Hmark.out.mono ?_; rintro e w1 ⟨vm, rfl, hown, hb1⟩; obtain ⟨Am, cm, rfl⟩ := own_slice hown; have Hown := Lib.hid hown; have HB1 := Lib.hid hb1; clear hown hb1)
  obtain ⟨ml, hml⟩ : ∃ ml, ml = (marks U Y rl).length := ⟨_, rfl⟩
  rw [← hml]
  have hmle : ml ≤ n := by rw [hml, Hn.out]; exact takesTo_le _ _
  have hr0 : RSw w W w1 w1.heap.size (tagged own W.heap.size 4) B C L T X U Y rl (.slice Am ml cm) (.slice none 0 0) 0 :=
    ⟨H.out.below 4 HB1.out, by rw [hml]; exact Hown.out, fun k e => ⟨tagged_ge (own_base Hown.out k (by rw [← hml]; exact e)), own_lt Hown.out k (by rw [← hml]; exact e)⟩, own_nil _ _ _ _, fun k e => by simp [Value.ownBlock] at e, Nat.le_refl _⟩
  have Hr0 := Lib.hid hr0; have Hml := Lib.hid hml
  clear hr0 hml Hown
  go_loopw [6, 7, 8] (fun ov kv iv wr => ∃ (i : Nat) (ownj : Nat → Nat), i ≤ n ∧ iv = .int .i64 i ∧ kv = .int .i64 ((takesTo (markB U Y rl) i).length : Int) ∧ Hid (RSw w W wr w1.heap.size ownj B C L T X U Y rl (.slice Am ml cm) ov i)) (fun _ _ iv _ => n - (intOf iv).toNat)
  case atStart => exact ⟨0, _, Nat.zero_le _, rfl, rfl, Hr0⟩
  case round =>
    obtain ⟨i, ownj, hi, rfl, rfl, HR⟩ := hrel
    clear Hr0 Hmark
    have hUl : (freesTX (U, Y) (takesTo (lessB U (markB U Y rl)) i)).1.length = n := by rw [(freesTX_len _ _).1, Hn.out]
    have hYl : (freesTX (U, Y) (takesTo (lessB U (markB U Y rl)) i)).2.length ≤ 100000 := by rw [(freesTX_len _ _).2]; exact hl
    obtain ⟨A0, c0, hcC⟩ := Hcell.out _ _ _ _ HR.out.laid hUl
    obtain ⟨kk, hkk⟩ : ∃ kk, kk = (takesTo (markB U Y rl) i).length := ⟨_, rfl⟩
    rw [← hkk]
    by_cases hin : i < n
    · have hiU : i < U.length := by rw [← Hn.out]; exact hin
      obtain ⟨hm1, hm2⟩ := marks_at (markB U Y rl) U.length i hiU
      rw [← hkk] at hm1 hm2
      have hmarks : takesTo (markB U Y rl) U.length = marks U Y rl := rfl
      rw [hmarks, ← Hml.out] at hm1 hm2
      have hless := lessB_get U (markB U Y rl) i hiU
      have eL : takesTo (lessB U (markB U Y rl)) (i + 1) = takesTo (lessB U (markB U Y rl)) i ++ if (lessB U (markB U Y rl)).getD i false then [(i : Int)] else [] := rfl
      have eM : takesTo (markB U Y rl) (i + 1) = takesTo (markB U Y rl) i ++ if (markB U Y rl).getD i false then [(i : Int)] else [] := rfl
      rw [hless] at eL
      have p0 : (0 : Int) ≤ (i : Int) := by omega
      have p1 : (i : Int) < (n : Int) := by omega
      have hkle : kk ≤ i := by rw [hkk]; exact takesTo_le _ _
      have Hkk := Lib.hid hkk
      clear hkk
      cases hM : (markB U Y rl).getD i false
      · have hfree := HR.out.laid.rfreeK hYl (i : Int)
        have hiT : isT (freesTX (U, Y) (takesTo (lessB U (markB U Y rl)) i)).1 (i : Int) = U.getD i false := by
          have := (freesTX_get (takesTo (lessB U (markB U Y rl)) i) (U, Y) i).1
          simp only [takes_not_mem, decide_false, Bool.not_false, Bool.and_true] at this
          rw [← this]; simp [isT, rdOf]
        rw [hM] at eL eM
        simp only [Bool.not_false, Bool.and_true, Bool.false_eq_true, if_false, List.append_nil] at eL eM
        rw [hiT] at hfree
        have Hm2 := Lib.hid (hm2 hM)
        have EM := Lib.hid eM
        clear hm1 hm2 hless eM hiT hmarks
        cases hU : U.getD i false
        · rw [hU] at hfree eL
          simp only [Bool.false_eq_true, if_false, List.append_nil] at hfree eL
          have Hfree := Lib.hid hfree; have EL := Lib.hid eL
          clear hfree eL
          by_cases hkm : kk < ml
          · obtain ⟨gm, cm', hvm, _, _⟩ := HR.out.m.form (by rw [← Hml.out]; omega)
            injection hvm with e1 e2 e3
            clear e2
            subst e1; subst e3
            have hmr := HR.out.m
            rw [← Hml.out] at hmr
            obtain ⟨hcell, _⟩ := own_at hmr (kk : Int) (by omega) (by omega)
            rw [Int.toNat_natCast] at hcell
            have hne : (rd (marks U Y rl) (kk : Int) == (i : Int)) = false := beq_eq_false_iff_ne.2 (Hm2.out hkm)
            generalize rd (marks U Y rl) (kk : Int) = x at *
            have p2 : (0 : Int) ≤ (kk : Int) := by omega
            have p3 : (kk : Int) < (ml : Int) := by omega
            clear hmr
            go_wp2_with (go_at_call 46; refine Hfree.out.mono ?_; rintro e w6 ⟨rfl, hl6, hk6⟩; have HR6 := Lib.hid (HR.out.skip hl6 hk6 EL.out); clear hl6 hk6)
            go_roundw
            case rel => exact ⟨i + 1, _, by omega, by go_num, by rw [EM.out, ← Hkk.out], HR6⟩
            case measure => simp [intOf]; omega
          · have p3 : ¬ (kk : Int) < (ml : Int) := by omega
            go_wp2_with (go_at_call 46; refine Hfree.out.mono ?_; rintro e w6 ⟨rfl, hl6, hk6⟩; have HR6 := Lib.hid (HR.out.skip hl6 hk6 EL.out); clear hl6 hk6)
            go_roundw
            case rel => exact ⟨i + 1, _, by omega, by go_num, by rw [EM.out, ← Hkk.out], HR6⟩
            case measure => simp [intOf]; omega
        · rw [hU] at hfree eL
          simp only [if_true] at hfree eL
          have hfr : ∀ (w6 : World) (ow : Nat → Nat), Laid w w6 ow B C L T X ((freesTX (U, Y) (takesTo (lessB U (markB U Y rl)) i)).1.set (i : Int).toNat false) ((freesTX (U, Y) (takesTo (lessB U (markB U Y rl)) i)).2.set (i : Int).toNat []) →
              Laid w w6 ow B C L T X (freeTX (freesTX (U, Y) (takesTo (lessB U (markB U Y rl)) i)) i).1 (freeTX (freesTX (U, Y) (takesTo (lessB U (markB U Y rl)) i)) i).2 := fun w6 ow hL => by
            have hiT : isT (freesTX (U, Y) (takesTo (lessB U (markB U Y rl)) i)).1 (i : Int) = true := by
              have := (freesTX_get (takesTo (lessB U (markB U Y rl)) i) (U, Y) i).1
              simp only [takes_not_mem, decide_false, Bool.not_false, Bool.and_true] at this
              rw [hU] at this
              simpa [isT, rdOf] using this
            unfold freeTX
            rw [if_pos hiT]; exact hL
          have Hfree := Lib.hid hfree; have EL := Lib.hid eL; have Hfr := Lib.hid hfr
          have hole := takesTo_le (lessB U (markB U Y rl)) i
          clear hfree eL hfr
          obtain ⟨i3, hi3, z31, z32, z33⟩ := info_parts info3
          by_cases hkm : kk < ml
          · obtain ⟨gm, cm', hvm, _, _⟩ := HR.out.m.form (by rw [← Hml.out]; omega)
            injection hvm with e1 e2 e3
            clear e2
            subst e1; subst e3
            have hmr := HR.out.m
            rw [← Hml.out] at hmr
            obtain ⟨hcell, _⟩ := own_at hmr (kk : Int) (by omega) (by omega)
            rw [Int.toNat_natCast] at hcell
            have hne : (rd (marks U Y rl) (kk : Int) == (i : Int)) = false := beq_eq_false_iff_ne.2 (Hm2.out hkm)
            generalize rd (marks U Y rl) (kk : Int) = x at *
            have p2 : (0 : Int) ≤ (kk : Int) := by omega
            have p3 : (kk : Int) < (ml : Int) := by omega
            clear hmr
            go_wp2_with (first | (go_at_call 46; refine Hfree.out.mono ?_; rintro e w6 ⟨rfl, hl6, hk6⟩; have hro := HR.out.rows hk6; have Hro := Lib.hid hro; have Hl6 := Lib.hid (Hfr.out _ _ hl6); have Hk6 := Lib.hid hk6; clear hl6 hk6 hro) | (at_builtin; refine print_append_num (w0 := w6) w1.heap.size rfl (.tmp 38) (.tmp 40) 22 3 .i64 8 rfl Try.underlying22 info3 (by decide) _ _ _ rfl rfl Hro.out.1 (Below.refl _ _) Hro.out.2 (by omega) ?_; intro v7 w7 hown hb hg hat; have HR7 := Lib.hid (HR.out.freed EL.out Hl6.out Hk6.out hown hg hat); clear hown hb hg hat))
            go_roundw
            case rel => exact ⟨i + 1, _, by omega, by go_num, by rw [EM.out, ← Hkk.out], HR7⟩
            case measure => simp [intOf]; omega
          · have p3 : ¬ (kk : Int) < (ml : Int) := by omega
            go_wp2_with (first | (go_at_call 46; refine Hfree.out.mono ?_; rintro e w6 ⟨rfl, hl6, hk6⟩; have hro := HR.out.rows hk6; have Hro := Lib.hid hro; have Hl6 := Lib.hid (Hfr.out _ _ hl6); have Hk6 := Lib.hid hk6; clear hl6 hk6 hro) | (at_builtin; refine print_append_num (w0 := w6) w1.heap.size rfl (.tmp 38) (.tmp 40) 22 3 .i64 8 rfl Try.underlying22 info3 (by decide) _ _ _ rfl rfl Hro.out.1 (Below.refl _ _) Hro.out.2 (by omega) ?_; intro v7 w7 hown hb hg hat; have HR7 := Lib.hid (HR.out.freed EL.out Hl6.out Hk6.out hown hg hat); clear hown hb hg hat))
            go_roundw
            case rel => exact ⟨i + 1, _, by omega, by go_num, by rw [EM.out, ← Hkk.out], HR7⟩
            case measure => simp [intOf]; omega
      · obtain ⟨hkm, hrd⟩ := hm1 hM
        rw [hM] at eL eM
        simp only [Bool.not_true, Bool.and_false, Bool.false_eq_true, if_false, List.append_nil, if_true] at eL eM
        obtain ⟨gm, cm', hvm, _, _⟩ := HR.out.m.form (by rw [← Hml.out]; omega)
        injection hvm with e1 e2 e3
        clear e2
        subst e1; subst e3
        have hmr := HR.out.m
        rw [← Hml.out] at hmr
        obtain ⟨hcell, _⟩ := own_at hmr (kk : Int) (by omega) (by omega)
        rw [Int.toNat_natCast, hrd] at hcell
        have p2 : (0 : Int) ≤ (kk : Int) := by omega
        have p3 : (kk : Int) < (ml : Int) := by omega
        have HR6 := Lib.hid (HR.out.next eL)
        have hnl : ((takesTo (markB U Y rl) (i + 1)).length : Int) = (kk : Int) + 1 := by rw [eM, List.length_append, ← Hkk.out]; simp
        have Hnl := Lib.hid hnl
        clear hmr hm1 hm2 hless eL eM hmarks hrd hM hnl
        go_wp2
        go_roundw
        case rel => exact ⟨i + 1, _, by omega, by go_num, by rw [Hnl.out], HR6⟩
        case measure => simp [intOf]; omega
    · have hiU : i = U.length := by rw [← Hn.out]; omega
      have hfin := HR.out
      rw [hiU] at hfin
      have Hfin := Lib.hid hfin
      have hz : ¬ (i : Int) < (n : Int) := by omega
      clear hfin hiU
      go_wp2
      go_ret
      exact ⟨_, ownj, rfl, own_weaken Hfin.out.o HB1.out.size, Hfin.out.laid⟩
end Go.Proofs.Ytgchgkffoplogaa
