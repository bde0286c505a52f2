/- The walk of the law SweepCloses. -/
import Derived.Test.YtgchgkffoplogaaKg
namespace Go.Proofs.Ytgchgkffoplogaa
open Go.RowKit Go.Proofs.YtgchgkffoplogaaW.PrintWords
set_option linter.unusedVariables false
set_option linter.unusedSimpArgs false

/-- All that the loops only read. -/
structure ClFix (W2 : World) (C : Nat) (A : Option Addr) (X : List (List Int)) (T : List Bool) (Y : List (List Int)) (Br : Option Addr) (rl : List Int) (Am : Option Addr) (m : List Int) : Prop where
  is : ∀ W, Below W2.heap.size W2 W → ∀ i : Int, Calls Try.prog 35 #[.pointer (some ⟨C, 0, none⟩), .int .i64 i] W fun e w' => e = .returned (.bool (isT T i)) ∧ W = w'
  rows : ArgRows W2 A X
  roots : ReadsInt W2 .i64 Br rl.length rl
  mr : ReadsInt W2 .i64 Am m.length m
  e : m = marks T Y rl
  lenT : T.length = X.length
  same : ∀ i : Nat, T.getD i false = true → Y.getD i [] = X.getD i []
namespace ClFix
variable {W2 wr : World} {C : Nat} {A : Option Addr} {X : List (List Int)} {T : List Bool} {Y : List (List Int)} {Br : Option Addr} {rl : List Int} {Am : Option Addr} {m : List Int}
theorem at_ (h : ClFix W2 C A X T Y Br rl Am m) (hb : Below W2.heap.size W2 wr) (i : Nat) (hi : i < m.length) : ∃ (ad : Addr) (x : Nat), Am = some ad ∧ wr.cell? (ad.add i) = some (.int .i64 x) ∧ rd m (i : Int) = (x : Int) ∧ x < X.length ∧ Reach T Y rl (x : Int) := by
  obtain ⟨ad, e, hc⟩ := (h.mr.below hb).at_ (i : Int) (by omega) (by omega)
  rw [Int.toNat_natCast] at hc
  obtain ⟨x, hx, hn, hr⟩ := marks_at_ T Y rl (i := i) (by rw [← h.e]; exact hi)
  rw [← h.e] at hx
  rw [hx] at hc
  exact ⟨ad, x, e, hc, hx, by rw [← h.lenT]; exact hn, hr⟩
theorem m_at (h : ClFix W2 C A X T Y Br rl Am m) (i : Nat) (hi : i < m.length) {x : Nat} (hx : rd m (i : Int) = (x : Int)) {W : World} (hb : Below W2.heap.size W2 W) : ∃ ad, Am = some ad ∧ W.cell? (ad.add i) = some (.int .i64 x) := by
  obtain ⟨ad, y, e, hc, hy, _⟩ := h.at_ hb i hi
  rw [hx] at hy
  rw [← hy] at hc
  exact ⟨ad, e, hc⟩
theorem root (h : ClFix W2 C A X T Y Br rl Am m) (hb : Below W2.heap.size W2 wr) (i : Nat) (hi : i < rl.length) : ∃ ad, Br = some ad ∧ wr.cell? (ad.add i) = some (.int .i64 (rd rl (i : Int))) := by
  obtain ⟨ad, e, hc⟩ := (h.roots.below hb).at_ (i : Int) (by omega) (by omega)
  rw [Int.toNat_natCast] at hc
  exact ⟨ad, e, hc⟩
theorem row (h : ClFix W2 C A X T Y Br rl Am m) (hb : Below W2.heap.size W2 wr) (x : Nat) (hx : x < X.length) (hr : Reach T Y rl (x : Int)) : ∃ ad Ai ci, A = some ad ∧ wr.cell? (ad.add x) = some (.slice Ai (Y.getD x []).length ci) ∧ ReadsInt wr .i64 Ai (Y.getD x []).length (Y.getD x []) := by
  have e : Y.getD x [] = X.getD x [] := h.same x (by simpa [isT, rdOf] using hr.taken)
  rw [e]
  obtain ⟨ad, Ai, ci, e1, hc, hel⟩ := (h.rows.below hb).at_ x hx
  obtain ⟨Ae, ce, he, _, hre, _⟩ := hel
  injection he with e2 _ e3
  subst e2
  exact ⟨ad, Ai, ci, e1, hc, hre⟩
end ClFix

set_option maxRecDepth 100000 in
set_option maxHeartbeats 16000000 in
theorem sweepCloses_law {w : World} {A : Option Addr} {X : List (List Int)} (hX : ArgRows w A X) (c : Nat) (Bf : Option Addr) (cf : Nat) (fr : List Int) (hf : ReadsInt w .i64 Bf fr.length fr) (Br : Option Addr) (cr : Nat) (rl : List Int) (hr : ReadsInt w .i64 Br rl.length rl) :
    Calls Try.prog 9 #[.slice A X.length c, .slice Bf fr.length cf, .slice Br rl.length cr] w fun e w' => e = .returned (.bool true) ∧ Below w.heap.size w w' := by
  have hlarge := large_any (B := Br) hX c rl.length cr hr.2.1
  cases hlb : largeB X rl.length
  · rw [hlb] at hlarge
    obtain ⟨hX2, hr2, h60⟩ := small_of hlb
    have hlaid := laid_any hX hX2 h60 c Bf cf fr hf
    have hlens := laidTX_len X fr
    have hsame := laid_same X fr
    obtain ⟨T, Y, hTY⟩ : ∃ T Y, laidTX X fr = (T, Y) := ⟨_, _, rfl⟩
    unfold LaidPost at hlaid
    rw [hTY] at hlaid hlens hsame
    simp only at hlaid hlens hsame
    have hmake := print_make_of (P := Try.prog) 26 4 (.bool false) 1 Try.underlying26 info4 rfl (by decide) X.length (by omega)
    have HX := Lib.hid hX
    have Hlaid := Lib.hid hlaid; have Hlarge := Lib.hid hlarge; have Hr := Lib.hid hr; have Hlens := Lib.hid hlens; have Hsame := Lib.hid hsame
    clear hlaid hlarge hr hX hf hlb h60 hTY hlens hsame
    go_enter Try.func9, Try.ntmps9
    go_upto_region 6 with (first | (go_at_call 24; refine Hlarge.out.mono ?_; rintro e w0 ⟨rfl, rfl⟩) | (go_at_call 26; refine Hlaid.out.mono ?_; rintro e W1 ⟨own, B, C, L, rfl, hL, _⟩; have HL := Lib.hid hL; clear hL))
    have hl4 : L.length ≤ 100000 := by have := HL.out.lenX; have := Hlens.out.2; omega
    have hy4 : Y.length ≤ 100000 := by have := Hlens.out.2; omega
    obtain ⟨m, hm⟩ : ∃ m, m = marks T Y rl := ⟨_, rfl⟩
    have hmk := HL.out.smark hl4 Br cr rl (Hr.out.below HL.out.bel)
    rw [← hm] at hmk
    have hml : m.length ≤ 200 := by have := takesTo_le (markB T Y rl) T.length; have := Hlens.out.1; rw [hm]; unfold marks; omega
    have Hmk := Lib.hid hmk; have Hm := Lib.hid hm
    clear hmk hm
    go_upto_region 9 with (go_at_call 27; refine Hmk.out.mono ?_; rintro e W2 ⟨A2, c2, rfl, hr2', hb2⟩; have Hr2 := Lib.hid hr2'; have HB2 := Lib.hid hb2; clear hr2' hb2)
    have hL2 := HL.out.below 4 HB2.out
    have hfix : ClFix W2 C A X T Y Br rl A2 m := by
      refine ⟨fun W hb i => ?_, HX.out.below (below_then HL.out.bel HL.out.bel.size HB2.out), Hr.out.below (below_then HL.out.bel HL.out.bel.size HB2.out), Hr2.out, Hm.out, Hlens.out.1, Hsame.out⟩
      obtain ⟨vL, vT, M, hrf⟩ := (hL2.below 4 hb).ref
      exact is_any hrf (by rw [← hrf.lenX]; exact hy4) i
    have htwo := two_start W2 X.length (by omega)
    have Hfix := Lib.hid hfix; have Htwo := Lib.hid htwo
    have HB2w := Lib.hid (below_then HL.out.bel HL.out.bel.size HB2.out)
    clear hL2 hfix htwo hmake HB2 Hr2 Hmk HL Hr HX
    obtain ⟨n, hn⟩ : ∃ n, n = X.length := ⟨_, rfl⟩
    rw [← hn] at Htwo hX2 ⊢
    have hTn : T.length = n := by rw [hn]; exact Hlens.out.1
    have Hn := Lib.hid hn; have HTn := Lib.hid hTn
    obtain ⟨gi, hgi⟩ : ∃ gi, gi = W2.heap.size := ⟨_, rfl⟩
    obtain ⟨gl, hgl⟩ : ∃ gl, gl = W2.heap.size + 1 := ⟨_, rfl⟩
    have htwo := Htwo.out
    rw [← hgl, ← hgi] at htwo
    rw [← hgl, ← hgi]
    generalize (W2.alloc (.cells (madeCells #[.bool false] n) 4)).alloc (.cells (madeCells #[.bool false] n) 4) = W3 at htwo ⊢
    have H3 := Lib.hid htwo
    clear htwo Htwo hn hTn hgi hgl
    obtain ⟨ml, hml2⟩ : ∃ ml, ml = m.length := ⟨_, rfl⟩
    rw [← hml2] at hml ⊢
    have Hml := Lib.hid hml2
    clear hml2
    have hin0 : InOk T Y rl 0 (List.replicate n false) := by rw [← HTn.out]; exact InOk.start T Y rl
    have Hin0 := Lib.hid hin0
    clear hin0
    go_wp2
    go_loopw [13] (fun iv wr => ∃ (i : Nat) (P : List Bool), i ≤ ml ∧ iv = .int .i64 i ∧ Hid (TwoAt W2 wr gi gl n P (List.replicate n false)) ∧ Hid (InOk T Y rl i P)) (fun iv _ => ml - (intOf iv).toNat)
    case atStart => exact ⟨0, _, Nat.zero_le _, rfl, H3, Hin0⟩
    case round =>
      obtain ⟨i, P, hi, rfl, HT, HI⟩ := hrel
      clear H3 Hin0
      by_cases hlt : i < ml
      · obtain ⟨ad, x, rfl, hcm, hx, hxn, hxr⟩ := Hfix.out.at_ HT.out.bel i (by rw [← Hml.out]; exact hlt)
        rw [← Hn.out] at hxn
        have hlt2 : i < (marks T Y rl).length := by rw [← Hm.out, ← Hml.out]; exact hlt
        have hx2 : rd (marks T Y rl) (i : Int) = (x : Int) := by rw [← Hm.out]; exact hx
        have hnot := HI.out.not_yet hlt2 hx2
        obtain ⟨hci, hfi⟩ := HT.out.atI x hxn
        rw [hnot] at hci
        have hst := HI.out.step hlt2 hx2 (by rw [HTn.out]; exact hxn)
        have his : ∀ q : Nat, Calls Try.prog 35 #[.pointer (some ⟨C, 0, none⟩), .int .i64 x] (wr.drewN q) fun e w' => e = .returned (.bool true) ∧ w' = wr.drewN q := fun q => by
          have h := Hfix.out.is (wr.drewN q) (pw_below_drewN HT.out.bel q) (x : Int)
          rw [hxr.taken] at h
          exact h.mono fun e w' ⟨h1, h2⟩ => ⟨h1, h2.symm⟩
        have hnx := fun q => (HT.out.drew q).setI x
        have Hst := Lib.hid hst; have His := Lib.hid his; have Hnx := Lib.hid hnx
        have p0 : (0 : Int) ≤ (x : Int) := by omega
        have p1 : (x : Int) < (n : Int) := by omega
        have p2 : (i : Int) < (ml : Int) := by omega
        have p3 : (0 : Int) ≤ (i : Int) := by omega
        have q1 : decide ((x : Int) < 0) = false := by simp
        have q2 : decide (n ≤ x) = false := by simp; omega
        by_cases h0 : i = 0
        · have q3 : decide (0 < i) = false := by simp; omega
          clear h0 hst his hnx hx hx2 hxr hnot hlt2
          go_upto_region 12 with (fail)
          go_quiet (first | (go_at_call 35; refine Calls.quiet_of_same (His.out _)))
          go_wp2
          go_roundw
          case rel => exact ⟨i + 1, _, by omega, by go_num, Lib.hid (Hnx.out nq), Hst⟩
          case measure => simp [intOf]; omega
        · obtain ⟨i', hi'⟩ : ∃ i', i = i' + 1 := ⟨i - 1, by omega⟩
          obtain ⟨ad2, z, e2, hcz, hz, _, _⟩ := Hfix.out.at_ HT.out.bel i' (by rw [← Hml.out]; omega)
          injection e2 with e2
          subst e2
          have hzx : z < x := by
            have h := marks_order T Y rl (i := i') (j := i) (by omega) hlt2
            rw [hx2, ← Hm.out, hz] at h; omega
          have q4 : decide (x ≤ z) = false := by simp; omega
          have q3 : decide (0 < i) = true := by simp; omega
          have p6 : (i : Int) - 1 = (i' : Int) := by omega
          have p7 : (0 : Int) ≤ (i' : Int) := by omega
          have p8 : (i' : Int) < (ml : Int) := by omega
          have Hi' := Lib.hid hi'
          clear hst his hnx hx hx2 hxr hnot hlt2 hz hi' h0
          go_upto_region 12 with (fail)
          go_quiet (first | (go_at_call 35; refine Calls.quiet_of_same (His.out _)))
          go_wp2
          go_roundw
          case rel => exact ⟨i + 1, _, by omega, by go_num, Lib.hid (Hnx.out nq), Hst⟩
          case measure => simp [intOf]; omega
      · have hz : ¬ (i : Int) < (ml : Int) := by omega
        have hal : InOk T Y rl (marks T Y rl).length P := by
          have h := HI.out
          rwa [show i = (marks T Y rl).length by rw [← Hm.out, ← Hml.out]; omega] at h
        have hin : ∀ x : Nat, Reach T Y rl (x : Int) → fR P x = true := fun x hx => hal.all hx
        have hro : RootOk T Y rl 0 (List.replicate n false) := ⟨by rw [← HTn.out]; exact LedOk.start T Y rl, fun _ h => by omega⟩
        have Hin := Lib.hid hin; have Hro := Lib.hid hro
        clear hal hin hro HI
        go_wp2
        go_loopw [14] (fun iv wr' => ∃ (i : Nat) (D : List Bool), i ≤ rl.length ∧ iv = .int .i64 i ∧ Hid (TwoAt W2 wr' gi gl n P D) ∧ Hid (RootOk T Y rl i D)) (fun iv _ => rl.length - (intOf iv).toNat)
        case atStart => exact ⟨0, _, Nat.zero_le _, rfl, HT, Hro⟩
        case round =>
          obtain ⟨i2, D, hi2, rfl, HT2, HR⟩ := hrel
          clear HT Hro hz hi
          by_cases hlt : i2 < rl.length
          · obtain ⟨ad, rfl, hcr⟩ := Hfix.out.root HT2.out.bel i2 hlt
            have his := Hfix.out.is _ HT2.out.bel (rd rl (i2 : Int))
            have p2 : (i2 : Int) < (rl.length : Int) := by omega
            have p3 : (0 : Int) ≤ (i2 : Int) := by omega
            cases ht : isT T (rd rl (i2 : Int))
            · have hs := HR.out.skip ht
              rw [ht] at his
              have Hs := Lib.hid hs; have His := Lib.hid his
              clear hs his ht
              generalize rd rl (i2 : Int) = r at *
              go_wp2_with (go_at_call 35; refine His.out.mono ?_; rintro e w5 ⟨rfl, rfl⟩)
              go_roundw
              case rel => exact ⟨i2 + 1, D, by omega, by go_num, HT2, Hs⟩
              case measure => simp [intOf]; omega
            · obtain ⟨x, hx, hxT⟩ := isT_ofNat ht
              have hrx : Reach T Y rl (x : Int) := .root (by rw [← hx]; exact rd_mem rl i2 hlt) (by rw [← hx]; exact ht)
              have hxn : x < n := by rw [← HTn.out]; exact hxT
              have hs := HR.out.put hx hrx hxT
              obtain ⟨hci, hfi⟩ := HT2.out.atI x hxn
              rw [Hin.out x hrx] at hci
              obtain ⟨hcd, hfd⟩ := HT2.out.atD x hxn
              have hnx := HT2.out.setD x
              rw [ht] at his
              rw [hx] at his hcr
              have p0 : (0 : Int) ≤ (x : Int) := by omega
              have p1 : (x : Int) < (n : Int) := by omega
              have Hs := Lib.hid hs; have His := Lib.hid his; have Hnx := Lib.hid hnx
              clear hs his hnx ht hx hrx hxT
              go_wp2_with (go_at_call 35; refine His.out.mono ?_; rintro e w5 ⟨rfl, rfl⟩)
              go_roundw
              case rel => exact ⟨i2 + 1, _, by omega, by go_num, Hnx, Hs⟩
              case measure => simp [intOf]; omega
          · have hz : ¬ (i2 : Int) < (rl.length : Int) := by omega
            have ht0 : TurnOk T Y rl 0 D := by
              have h := HR.out
              rw [show i2 = rl.length by omega] at h
              exact TurnOk.start h
            have Ht0 := Lib.hid ht0
            clear ht0 HR
            go_wp2
            go_loopw [15] (fun iv wr' => ∃ (t : Nat) (D : List Bool), t ≤ ml ∧ iv = .int .i64 t ∧ Hid (TwoAt W2 wr' gi gl n P D) ∧ Hid (TurnOk T Y rl t D)) (fun iv _ => ml - (intOf iv).toNat)
            case atStart => exact ⟨0, D, Nat.zero_le _, rfl, HT2, Ht0⟩
            case round =>
              obtain ⟨t, Q, hi3, rfl, HT3, HR3⟩ := hrel
              clear HT2 Ht0 hz hi2
              by_cases hlt : t < ml
              · have p2 : (t : Int) < (ml : Int) := by omega
                go_wp2
                go_loopw [16] (fun iv wr' => ∃ (i : Nat) (D : List Bool), i ≤ ml ∧ iv = .int .i64 i ∧ Hid (TwoAt W2 wr' gi gl n P D) ∧ Hid (RoundOk T Y rl Q i D)) (fun iv _ => ml - (intOf iv).toNat)
                case atStart => exact ⟨0, Q, Nat.zero_le _, rfl, HT3, Lib.hid (RoundOk.start HR3.out.led)⟩
                case round =>
                  obtain ⟨i4, D4, hi4, rfl, HT4, HR4⟩ := hrel
                  clear HT3
                  by_cases hlt4 : i4 < ml
                  · obtain ⟨ad, x, rfl, hcm, hx, hxn, hxr⟩ := Hfix.out.at_ HT4.out.bel i4 (by rw [← Hml.out]; exact hlt4)
                    have Hfx := Lib.hid (fun W (hb : Below W2.heap.size W2 W) => Hfix.out.m_at i4 (by rw [← Hml.out]; exact hlt4) hx hb)
                    have hx2 : rd (marks T Y rl) (i4 : Int) = (x : Int) := by rw [← Hm.out]; exact hx
                    have Hx2 := Lib.hid hx2; have Hxn := Lib.hid hxn; have Hxr := Lib.hid hxr
                    have p4 : (i4 : Int) < (ml : Int) := by omega
                    have p5 : (0 : Int) ≤ (i4 : Int) := by omega
                    clear hx hx2 hxn hxr
                    obtain ⟨ys, hys⟩ : ∃ ys, ys = Y.getD x [] := ⟨_, rfl⟩
                    have Hys := Lib.hid hys
                    clear hys hcm
                    go_wp2
                    go_loopw [17] (fun iv wr' => ∃ (k : Nat) (D : List Bool), k ≤ ys.length ∧ iv = .int .i64 k ∧ Hid (TwoAt W2 wr' gi gl n P D) ∧ Hid (InnerOk T Y rl Q i4 x k D)) (fun iv _ => ys.length - (intOf iv).toNat)
                    case atStart => exact ⟨0, D4, Nat.zero_le _, rfl, HT4, Lib.hid (InnerOk.start HR4.out x)⟩
                    case round =>
                      obtain ⟨k, D5, hk5, rfl, HT5, HR5⟩ := hrel
                      clear HT4 HR4
                      obtain ⟨ad', e', hcm⟩ := Hfx.out _ HT5.out.bel
                      injection e' with e'
                      subst e'
                      obtain ⟨hcd, hfd⟩ := HT5.out.atD x (by rw [Hn.out]; exact Hxn.out)
                      have p6 : (0 : Int) ≤ (x : Int) := by omega
                      have p7 : (x : Int) < (n : Int) := by have := Hxn.out; have := Hn.out; omega
                      cases hb : fR D5 x
                      · rw [hb] at hcd
                        have hlv := HR5.out.leave Hx2.out (.inl hb)
                        have Hlv := Lib.hid hlv
                        clear hlv hb hk5
                        go_wp2
                        go_roundw
                        case rel => exact ⟨i4 + 1, D5, by omega, by go_num, HT5, Hlv⟩
                        case measure => simp [intOf]; omega
                      · rw [hb] at hcd
                        obtain ⟨adA, Ai, ci, rfl, hcrow, hre⟩ := Hfix.out.row HT5.out.bel x Hxn.out Hxr.out
                        rw [← Hys.out] at hcrow hre
                        by_cases hkl : k < ys.length
                        · obtain ⟨bd, rfl, hcy⟩ := hre.at_ (k : Int) (by omega) (by omega)
                          rw [Int.toNat_natCast] at hcy
                          have p8 : (0 : Int) ≤ (k : Int) := by omega
                          have p9 : (k : Int) < (ys.length : Int) := by omega
                          have hyl := hre.2.1
                          obtain ⟨y, hy⟩ : ∃ y, y = rd ys (k : Int) := ⟨_, rfl⟩
                          rw [← hy] at hcy
                          have his := Hfix.out.is _ HT5.out.bel y
                          have hy2 : rd (Y.getD x []) (k : Int) = y := by rw [← Hys.out, hy]
                          clear hre
                          cases hty : isT T y
                          · have hs := HR5.out.skip hb (by rw [hy2]; exact hty)
                            rw [hty] at his
                            have Hs := Lib.hid hs; have His := Lib.hid his
                            clear hs his hty hy hy2 hb
                            go_wp2_with (go_at_call 35; refine His.out.mono ?_; rintro e w5 ⟨rfl, rfl⟩)
                            go_roundw
                            case rel => exact ⟨k + 1, D5, by omega, by go_num, HT5, Hs⟩
                            case measure => simp [intOf]; omega
                          · obtain ⟨z, hz, hzT⟩ := isT_ofNat hty
                            subst hz
                            have hrz : Reach T Y rl (z : Int) := .step Hxr.out (by rw [Int.toNat_natCast, ← Hys.out, hy]; exact rd_mem ys k hkl) hty
                            have hzn : z < n := by rw [← HTn.out]; exact hzT
                            have hs := HR5.out.put hb hy2 hrz hzT
                            obtain ⟨hci, hfi⟩ := HT5.out.atI z hzn
                            rw [Hin.out z hrz] at hci
                            obtain ⟨hcz, hfz⟩ := HT5.out.atD z hzn
                            have hnx := HT5.out.setD z
                            rw [hty] at his
                            have q0 : (0 : Int) ≤ (z : Int) := by omega
                            have q1 : (z : Int) < (n : Int) := by omega
                            have Hs := Lib.hid hs; have His := Lib.hid his; have Hnx := Lib.hid hnx
                            clear hs his hnx hty hy hy2 hrz hzT hb
                            go_wp2_with (go_at_call 35; refine His.out.mono ?_; rintro e w5 ⟨rfl, rfl⟩)
                            go_roundw
                            case rel => exact ⟨k + 1, _, by omega, by go_num, Hnx, Hs⟩
                            case measure => simp [intOf]; omega
                        · have hlv := HR5.out.leave Hx2.out (.inr (by rw [← Hys.out]; omega))
                          have Hlv := Lib.hid hlv
                          have p9 : ¬ (k : Int) < (ys.length : Int) := by omega
                          clear hlv hb hre
                          go_wp2
                          go_roundw
                          case rel => exact ⟨i4 + 1, D5, by omega, by go_num, HT5, Hlv⟩
                          case measure => simp [intOf]; omega
                  · have p4 : ¬ (i4 : Int) < (ml : Int) := by omega
                    have htn : TurnOk T Y rl (t + 1) D4 := by
                      have h := HR4.out
                      rw [show i4 = (marks T Y rl).length by rw [← Hm.out, ← Hml.out]; omega] at h
                      exact RoundOk.turn HR3.out h
                    have Htn := Lib.hid htn
                    clear htn HR4
                    go_wp2
                    go_roundw
                    case rel => exact ⟨t + 1, D4, by omega, by go_num, HT4, Htn⟩
                    case measure => simp [intOf]; omega
              · have p2 : ¬ (t : Int) < (ml : Int) := by omega
                have hfull : FullOk T Y rl Q := by
                  have h := HR3.out
                  rw [show t = (marks T Y rl).length by rw [← Hm.out, ← Hml.out]; omega] at h
                  exact h.full
                have Hfull := Lib.hid hfull
                clear hfull HR3
                obtain ⟨W8, hW8⟩ : ∃ W8, W8 = wr := ⟨_, rfl⟩
                rw [← hW8] at HT3 ⊢
                clear hW8
                go_wp2
                go_loopw [19] (fun iv wr' => ∃ i : Nat, i ≤ ml ∧ iv = .int .i64 i ∧ wr' = W8) (fun iv _ => ml - (intOf iv).toNat)
                case atStart => exact ⟨0, Nat.zero_le _, rfl, rfl⟩
                case round =>
                  obtain ⟨i9, hi9, rfl, hw9⟩ := hrel
                  obtain rfl := hw9.symm
                  by_cases hlt9 : i9 < ml
                  · obtain ⟨ad, x, rfl, hcm, hx, hxn, hxr⟩ := Hfix.out.at_ HT3.out.bel i9 (by rw [← Hml.out]; exact hlt9)
                    obtain ⟨hcd, hfd⟩ := HT3.out.atD x (by rw [Hn.out]; exact hxn)
                    rw [Hfull.out x hxr] at hcd
                    have q0 : (0 : Int) ≤ (x : Int) := by omega
                    have q1 : (x : Int) < (n : Int) := by have := Hn.out; omega
                    have q2 : (0 : Int) ≤ (i9 : Int) := by omega
                    have q3 : (i9 : Int) < (ml : Int) := by omega
                    clear hx hxn hxr
                    go_wp2
                    go_roundw
                    case rel => exact ⟨i9 + 1, by omega, by go_num, trivial⟩
                    case measure => simp [intOf]; omega
                  · have q3 : ¬ (i9 : Int) < (ml : Int) := by omega
                    go_wp2_with (go_at_call 25; refine (awake25_any _).mono ?_; rintro e w10 ⟨rfl, hb10⟩; have HB10 := Lib.hid (below_then (below_then HB2w.out HB2w.out.size HT3.out.bel) (below_then HB2w.out HB2w.out.size HT3.out.bel).size hb10); clear hb10)
                    go_ret
                    exact ⟨rfl, HB10.out⟩
  · rw [hlb] at hlarge
    have Hlarge := Lib.hid hlarge
    clear hlarge hX hf hr hlb
    go_enter Try.func9, Try.ntmps9
    go_wp2_with (first | (go_at_call 24; refine Hlarge.out.mono ?_; rintro e w0 ⟨rfl, rfl⟩) | (go_at_call 25; refine (awake25_any _).mono ?_; rintro e w1 ⟨rfl, hb⟩; have HB := Lib.hid hb; clear hb))
    go_ret
    exact ⟨rfl, HB.out⟩
end Go.Proofs.Ytgchgkffoplogaa
