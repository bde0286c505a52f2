/- The walk of the law SweepFrees. -/
import Derived.Test.YtgchgkffoplogaaKe
namespace Go.Proofs.Ytgchgkffoplogaa
open Go.RowKit Go.Proofs.YtgchgkffoplogaaW.PrintWords
set_option linter.unusedVariables false
set_option linter.unusedSimpArgs false

namespace Laid
variable {w W W' : World} {own : Nat → Nat} {B C : Nat} {L : List V.El} {T : List Bool} {X : List (List Int)} {U : List Bool} {Y : List (List Int)}
/-- Sweep, then the document's: what both answer, and what is left. -/
def SwPost (w W : World) (B C : Nat) (T : List Bool) (X : List (List Int)) (U : List Bool) (Y : List (List Int)) (rl : List Int) (e : Ending) (W' : World) : Prop :=
  ∃ A c own' L', e = .returned (.slice A (sweepL T X rl).length c) ∧ W'.ownsRow W.heap.size 3 1 (.slice A (sweepL T X rl).length c) (sweepL T X rl).length (nums .i64 (sweepL T X rl)) ∧ Laid w W' own' B C L' (freesTX (T, X) (sweepL T X rl)).1 (freesTX (T, X) (sweepL T X rl)).2 U Y ∧ (∀ k, (Value.slice A (sweepL T X rl).length c).ownBlock = some k → own' k = 4)
theorem swp (h : Laid w W own B C L T X U Y) (hl : L.length ≤ 100000) (A : Option Addr) (cA : Nat) (rl : List Int) (hr : ReadsInt W .i64 A rl.length rl) :
    Calls Try.prog 32 #[.pointer (some ⟨B, 0, none⟩), .slice A rl.length cA, .func (.func 28) #[] #[]] W fun e W' => SwPost w W B C T X U Y rl e W' := by
  refine (sweep_any h hl A cA rl hr).mono ?_
  rintro e W' ⟨v, own', L', rfl, hown, hL, ht⟩
  obtain ⟨A', c', rfl⟩ := own_slice hown
  exact ⟨A', c', own', L', rfl, hown, hL, ht⟩
/-- The document's Sweep; a row of the tag 4 stays. -/
def RSwPost (w W : World) (B C : Nat) (L : List V.El) (T : List Bool) (X : List (List Int)) (U : List Bool) (Y : List (List Int)) (rl xs : List Int) (A : Option Addr) (e : Ending) (W' : World) : Prop :=
  ∃ A' c' own', e = .returned (.slice A' (sweepL U Y rl).length c') ∧ ReadsInt W' .i64 A' (sweepL U Y rl).length (sweepL U Y rl) ∧ Laid w W' own' B C L T X (freesTX (U, Y) (sweepL U Y rl)).1 (freesTX (U, Y) (sweepL U Y rl)).2 ∧ ReadsInt W' .i64 A xs.length xs
theorem rswp (h : Laid w W own B C L T X U Y) (hl : Y.length ≤ 100000) (A : Option Addr) (cA : Nat) (rl : List Int) (hr : ReadsInt W .i64 A rl.length rl) {base c1 : Nat} {xs : List Int} {A1 : Option Addr} (h1 : W.ownsRow base 3 1 (.slice A1 xs.length c1) xs.length (nums .i64 xs)) (h2 : ∀ k, (Value.slice A1 xs.length c1).ownBlock = some k → own k = 4) :
    Calls Try.prog 33 #[.pointer (some ⟨C, 0, none⟩), .slice A rl.length cA] W fun e W' => RSwPost w W B C L T X U Y rl xs A1 e W' := by
  refine (refSweepK_any h hl A cA rl hr).mono ?_
  rintro e W' ⟨v, own', rfl, hown, hL, hk⟩
  obtain ⟨A', c', rfl, hr'⟩ := own_reads hown
  have hm := own_move h1 (fun k e => hk k (own_lt h1 k e) (by rw [h2 k e]; omega))
  exact ⟨A', c', own', rfl, hr', hL, own_reads' hm⟩
end Laid
/-- The roots and one more. -/
theorem more_of {W W3 : World} {rl : List Int} {m : Int} {A3 : Option Addr} {c3 : Nat} (h3 : W3.ownsRow W.heap.size 3 1 (.slice A3 (rl ++ [m]).length c3) (rl ++ [m]).length (nums .i64 (rl ++ [m]))) : ReadsInt W3 .i64 A3 (rl ++ [m]).length (rl ++ [m]) := own_reads' h3

/-- What the two sweeps and what stands behind them answer. -/
theorem sw_facts (w : World) (B C : Nat) (T : List Bool) (Y : List (List Int)) (rl : List Int) (Br : Option Addr) (cr : Nat) (hT : T.length ≤ 200) (hY : Y.length ≤ 200) : ∃ (T1 : List Bool) (Y1 : List (List Int)) (sl : List Int), sl.length ≤ 200 ∧
    (∀ W own L, Laid w W own B C L T Y T Y → ReadsInt W .i64 Br rl.length rl → Calls Try.prog 32 #[.pointer (some ⟨B, 0, none⟩), .slice Br rl.length cr, .func (.func 28) #[] #[]] W fun e W' =>
      ∃ A c own' L', e = .returned (.slice A sl.length c) ∧ W'.ownsRow W.heap.size 3 1 (.slice A sl.length c) sl.length (nums .i64 sl) ∧ Laid w W' own' B C L' T1 Y1 T Y ∧ ∀ k, (Value.slice A sl.length c).ownBlock = some k → own' k = 4) ∧
    (∀ W own L base A1 c1, Laid w W own B C L T1 Y1 T Y → ReadsInt W .i64 Br rl.length rl → W.ownsRow base 3 1 (.slice A1 sl.length c1) sl.length (nums .i64 sl) → (∀ k, (Value.slice A1 sl.length c1).ownBlock = some k → own k = 4) → Calls Try.prog 33 #[.pointer (some ⟨C, 0, none⟩), .slice Br rl.length cr] W fun e W' =>
      ∃ A' c' own', e = .returned (.slice A' sl.length c') ∧ ReadsInt W' .i64 A' sl.length sl ∧ Laid w W' own' B C L T1 Y1 T1 Y1 ∧ ReadsInt W' .i64 A1 sl.length sl) ∧
    (∀ W own L, Laid w W own B C L T1 Y1 T1 Y1 → Calls Try.prog 31 #[.pointer (some ⟨B, 0, none⟩), .pointer (some ⟨C, 0, none⟩)] W fun e W' => e = .returned (.bool true) ∧ Below W.heap.size W W') ∧
    (∀ W own L, Laid w W own B C L T1 Y1 T1 Y1 → Calls Try.prog 34 #[.pointer (some ⟨B, 0, none⟩)] W fun e W' => e = .returned (.int .i64 (marks T Y rl).length) ∧ Below W.heap.size W W') ∧
    (∀ W own L, Laid w W own B C L T1 Y1 T1 Y1 → ReadsInt W .i64 Br rl.length rl → Calls Try.prog 32 #[.pointer (some ⟨B, 0, none⟩), .slice Br rl.length cr, .func (.func 28) #[] #[]] W fun e W' =>
      ∃ A c own' L', e = .returned (.slice A 0 c) ∧ Laid w W' own' B C L' T1 Y1 T1 Y1) := by
  have h1 := freesTX_len (sweepL T Y rl) (T, Y)
  have h2 := swept_twice T Y rl
  have h3 := swept_cnt T Y rl
  obtain ⟨T1, hT1⟩ : ∃ T1, T1 = (freesTX (T, Y) (sweepL T Y rl)).1 := ⟨_, rfl⟩
  obtain ⟨Y1, hY1⟩ : ∃ Y1, Y1 = (freesTX (T, Y) (sweepL T Y rl)).2 := ⟨_, rfl⟩
  have hs : (sweepL T Y rl).length ≤ 200 := by have := takesTo_le (lessB T (markB T Y rl)) T.length; unfold sweepL; omega
  rw [← hT1, ← hY1] at h1 h2
  rw [← hT1] at h3
  simp only at h1
  refine ⟨T1, Y1, sweepL T Y rl, hs, ?_, ?_, ?_, ?_, ?_⟩
  · intro W own L hL hr
    refine (hL.swp (by have := hL.lenX; omega) Br cr rl hr).mono ?_
    rintro e W' ⟨A, c, own', L', he, hown, hL', ht⟩
    rw [← hT1, ← hY1] at hL'
    exact ⟨A, c, own', L', he, hown, hL', ht⟩
  · intro W own L base A1 c1 hL hr h4 h5
    refine (hL.rswp (by omega) Br cr rl hr h4 h5).mono ?_
    rintro e W' ⟨A, c, own', he, hr', hL', ht⟩
    rw [← hT1, ← hY1] at hL'
    exact ⟨A, c, own', he, hr', hL', ht⟩
  · intro W own L hL
    exact taken_any hL (by have := hL.lenX; omega)
  · intro W own L hL
    refine (V.tlen_any hL.tab (by have := hL.lenX; omega)).mono ?_
    rintro e W' ⟨rfl, q, rfl⟩
    rw [h3]
    exact ⟨rfl, pw_below_drewN (Below.refl _ _) q⟩
  · intro W own L hL hr
    refine (hL.swp (by have := hL.lenX; omega) Br cr rl hr).mono ?_
    rintro e W' ⟨A, c, own', L', he, hown, hL', ht⟩
    rw [h2] at he hL'
    exact ⟨A, c, own', L', he, hL'⟩

set_option maxRecDepth 100000 in
set_option maxHeartbeats 8000000 in
theorem sweepFrees_law {w : World} {A : Option Addr} {X : List (List Int)} (hX : ArgRows w A X) (c : Nat) (Bf : Option Addr) (cf : Nat) (fr : List Int) (hf : ReadsInt w .i64 Bf fr.length fr) (Br : Option Addr) (cr : Nat) (rl : List Int) (hr : ReadsInt w .i64 Br rl.length rl) (more : Int) :
    Calls Try.prog 8 #[.slice A X.length c, .slice Bf fr.length cf, .slice Br rl.length cr, .int .i64 more] w fun e w' => e = .returned (.bool true) ∧ Below w.heap.size w w' := by
  have hlarge := large_any (B := Br) hX c rl.length cr hr.2.1
  cases hlb : largeB X rl.length
  · rw [hlb] at hlarge
    obtain ⟨hX2, hr2, h60⟩ := small_of hlb
    have hlaid := laid_any hX hX2 h60 c Bf cf fr hf
    have hlens := laidTX_len X fr
    obtain ⟨T, Y, hTY⟩ : ∃ T Y, laidTX X fr = (T, Y) := ⟨_, _, rfl⟩
    unfold LaidPost at hlaid
    rw [hTY] at hlaid hlens
    simp only at hlaid hlens
    have Hlaid := Lib.hid hlaid; have Hlarge := Lib.hid hlarge; have Hr := Lib.hid hr; have Hlens := Lib.hid hlens
    clear hlaid hlarge hr hX hf hlb h60 hTY hlens
    obtain ⟨i3, hi3, z31, z32, z33⟩ := info_parts info3
    go_enter Try.func8, Try.ntmps8
    go_upto_region 6 with (first | (go_at_call 24; refine Hlarge.out.mono ?_; rintro e w0 ⟨rfl, rfl⟩) | (go_at_call 26; refine Hlaid.out.mono ?_; rintro e W1 ⟨own, B, C, L, rfl, hL, _⟩; have HL := Lib.hid hL; clear hL))
    have hl4 : L.length ≤ 100000 := by have := HL.out.lenX; have := Hlens.out.2; omega
    have hy4 : Y.length ≤ 100000 := by have := Hlens.out.2; omega
    have hr1 := Hr.out.below HL.out.bel
    have Hr1 := Lib.hid hr1
    have hTl : T.length ≤ 200 := by have := Hlens.out.1; omega
    have hm1 : (marks T Y rl).length ≤ T.length := takesTo_le _ _
    have hm2 : (marks T Y (rl ++ [more])).length ≤ T.length := takesTo_le _ _
    obtain ⟨T1, Y1, sl, hsl, fsw, frsw, ftak, flen, fsw2⟩ := sw_facts w B C T Y rl Br cr hTl (by have := Hlens.out.2; omega)
    obtain ⟨few, hfew⟩ : ∃ few, few = marks T Y rl := ⟨_, rfl⟩
    obtain ⟨many, hmany⟩ : ∃ many, many = marks T Y (rl ++ [more]) := ⟨_, rfl⟩
    have hsub : List.Sublist few many := by rw [hfew, hmany]; exact marks_sub T Y rl more
    have hmk := HL.out.smark hl4 Br cr rl Hr1.out
    rw [← hfew] at hmk hm1 flen
    have Fsw := Lib.hid fsw; have Frsw := Lib.hid frsw; have Ftak := Lib.hid ftak; have Flen := Lib.hid flen; have Fsw2 := Lib.hid fsw2
    have Hr0 := Lib.hid Hr.out
    clear fsw frsw ftak flen fsw2 Hr
    rw [← hmany] at hm2
    have Hmk := Lib.hid hmk; have Hsub := Lib.hid hsub; have Hfew := Lib.hid hfew; have Hmany := Lib.hid hmany
    clear hr1 hmk hsub hfew hmany
    go_wp2_with (first | (go_at_call 27; have hmk := (HL.out.below 4 (below_then HB2.out HB2.out.size HB4.out)).smark hl4 A4 c4 (rl ++ [more]) (own_reads' Hown4.out); rw [← Hmany.out] at hmk; simp only [List.length_append, List.length_singleton] at hmk; refine hmk.mono ?_; rintro e W5 ⟨A5, c5, rfl, hr5, hb5⟩; have Hr5 := Lib.hid hr5; have HB5 := Lib.hid (below_then HB4.out HB4.out.size hb5); clear hmk hr5 hb5) | (go_at_call 27; refine Hmk.out.mono ?_; rintro e W2 ⟨A2, c2, rfl, hr2', hb2⟩; have Hr2 := Lib.hid hr2'; have HB2 := Lib.hid hb2; clear hr2' hb2) | (at_builtin; refine print_append_num (w0 := W2) W2.heap.size rfl (.tmp 37) (.tmp 39) 22 3 .i64 8 rfl Try.underlying22 info3 (by decide) _ _ _ rfl rfl Hown3.out HB3.out HB3.out.size (by omega) ?_; intro v4 W4 hown4 hb4 hg4 hat4; obtain ⟨A4, c4, rfl⟩ := own_slice hown4; have Hown4 := Lib.hid hown4; have HB4 := Lib.hid hb4; clear hown4 hb4 hg4 hat4) | (at_builtin; refine print_append_row (w0 := W2) W2.heap.size rfl (.tmp 34) (.tmp 35) 22 3 .i64 8 rfl Try.underlying22 info3 (by decide) (.slice none 0 0) [] rl Br rl.length cr rfl rfl (own_nil _ _ _ _) (Hr1.out.below HB2.out) (Below.refl _ _) (Nat.le_refl _) (by simp; omega) ?_; intro v3 W3 hown3 hb3 hg3 hat3; rw [List.nil_append] at hown3; obtain ⟨A3, c3, rfl⟩ := own_slice hown3; have Hown3 := Lib.hid hown3; have HB3 := Lib.hid hb3; clear hown3 hb3 hg3 hat3))
    have hL5 := (HL.out.below 4 HB2.out).below 4 HB5.out
    have hbase : Below W1.heap.size W1 W5 := below_then HB2.out HB2.out.size HB5.out
    have hro5 := Hr1.out.below hbase
    have hfe5 := Hr2.out.below HB5.out
    generalize tagged (tagged own W1.heap.size 4) W2.heap.size 4 = own5 at hL5
    have HL5 := Lib.hid hL5; have Hro5 := Lib.hid hro5; have Hfe5 := Lib.hid hfe5
    clear hL5 hbase hro5 hfe5 HL Hr1 Hr2 HB2 HB3 HB4 HB5 Hown3 Hown4 Hmk
    go_loopw [15, 16] (fun kv iv wr => ∃ (k i q : Nat), k ≤ few.length ∧ i ≤ many.length ∧ kv = .int .i64 k ∧ iv = .int .i64 i ∧ wr = W5.drewN q ∧ Hid (List.Sublist (few.drop k) (many.drop i))) (fun _ iv _ => many.length - (intOf iv).toNat)
    case atStart => exact ⟨0, 0, 0, Nat.zero_le _, Nat.zero_le _, rfl, rfl, rfl, Lib.hid (by simpa using Hsub.out)⟩
    case round =>
      obtain ⟨k, i, q, hk, hi, rfl, rfl, rfl, HS⟩ := hrel
      by_cases hlt : i < many.length
      · by_cases hkl : k < few.length
        · have hround := match_round HS.out hkl hlt
          obtain ⟨ad, rfl, hc1⟩ := Hfe5.out.at_ (k : Int) (by omega) (by omega)
          obtain ⟨bd, rfl, hc2⟩ := Hr5.out.at_ (i : Int) (by omega) (by omega)
          rw [Int.toNat_natCast] at hc1 hc2
          obtain ⟨x, hx⟩ : ∃ x, x = rd few (k : Int) := ⟨_, rfl⟩
          obtain ⟨y, hy⟩ : ∃ y, y = rd many (i : Int) := ⟨_, rfl⟩
          rw [← hx] at hc1
          rw [← hy] at hc2
          rw [← hx, ← hy] at hround
          have Hround := Lib.hid hround
          have p0 : (0 : Int) ≤ (i : Int) := by omega
          have p1 : (i : Int) < (many.length : Int) := by omega
          have p2 : (0 : Int) ≤ (k : Int) := by omega
          have p3 : (k : Int) < (few.length : Int) := by omega
          clear hx hy hround
          go_upto_region 15 with (fail)
          go_quiet (fail)
          by_cases hxy : y = x
          · have hb : (y == x) = true := beq_iff_eq.2 hxy
            have hr := Hround.out
            rw [if_pos hxy] at hr
            have Hr := Lib.hid hr
            clear hr
            go_wp2
            go_roundw
            case rel => exact ⟨k + 1, i + 1, _, by omega, by omega, by go_num, by go_num, rfl, Hr⟩
            case measure => simp [intOf]; omega
          · have hb : (y == x) = false := beq_eq_false_iff_ne.2 hxy
            have hr := Hround.out
            rw [if_neg hxy] at hr
            have Hr := Lib.hid hr
            clear hr
            go_wp2
            go_roundw
            case rel => exact ⟨k, i + 1, _, by omega, by omega, by go_num, by go_num, rfl, Hr⟩
            case measure => simp [intOf]; omega
        · have p0 : (i : Int) < (many.length : Int) := by omega
          obtain rfl : k = few.length := by omega
          have p1 : ¬ (few.length : Int) < (few.length : Int) := by omega
          have hLq := HL5.out.below 4 (pw_below_drewN (Below.refl W5.heap.size W5) q)
          have HLq := Lib.hid hLq
          clear hLq HS
          go_wp2_with (first | (go_at_call 25; refine (awake25_any _).mono ?_; rintro e W13 ⟨rfl, hb13⟩; have HB13 := Lib.hid (below_then HL12.out.bel HL12.out.bel.size hb13); clear hb13) | (go_at_call 31; refine (Ftak.out _ _ _ HL11.out).mono ?_; rintro e W12 ⟨rfl, hb12⟩; have HL12 := Lib.hid (HL11.out.below 4 hb12); clear hb12) | (go_at_call 32; refine (Fsw2.out _ _ _ HL10.out (Hr0.out.below HL10.out.bel)).mono ?_; rintro e W11 ⟨A11, c11, own11, L11, rfl, hL11⟩; have HL11 := Lib.hid hL11; clear hL11) | (go_at_call 34; refine (Flen.out _ _ _ HL9.out).mono ?_; rintro e W10 ⟨rfl, hb10⟩; have HL10 := Lib.hid (HL9.out.below 4 hb10); clear hb10) | (go_at_call 31; refine (Ftak.out _ _ _ HL8.out).mono ?_; rintro e W9 ⟨rfl, hb9⟩; have HL9 := Lib.hid (HL8.out.below 4 hb9); clear hb9) | (go_at_call 29; refine (same_any _ _ _ _ _ _ Hr67.out Hr7.out).mono ?_; rintro e W8 ⟨rfl, q8, hW8⟩; have hb8 : Below W7.heap.size W7 W8 := (by rw [hW8]; exact pw_below_drewN (Below.refl _ _) q8); have HL8 := Lib.hid (HL7.out.below 4 hb8); clear hW8 hb8) | (go_at_call 33; refine (Frsw.out _ _ _ _ _ _ HL6.out (Hr0.out.below HL6.out.bel) Hown6.out Ht6.out).mono ?_; rintro e W7 ⟨A7, c7, own7, rfl, hr7, hL7, hr67⟩; have HL7 := Lib.hid hL7; have Hr7 := Lib.hid hr7; have Hr67 := Lib.hid hr67; clear hL7 hr7 hr67) | (go_at_call 32; refine (Fsw.out _ _ _ HLq.out (Hr0.out.below HLq.out.bel)).mono ?_; rintro e W6 ⟨A6, c6, own6, L6, rfl, hown6, hL6, ht6⟩; have HL6 := Lib.hid hL6; have Hown6 := Lib.hid hown6; have Ht6 := Lib.hid ht6; clear hL6 hown6 ht6))
          go_ret
          exact ⟨rfl, HB13.out⟩
      · have p0 : ¬ (i : Int) < (many.length : Int) := by omega
        obtain rfl : k = few.length := match_end HS.out hk (by omega)
        have hLq := HL5.out.below 4 (pw_below_drewN (Below.refl W5.heap.size W5) q)
        have HLq := Lib.hid hLq
        clear hLq HS
        go_wp2_with (first | (go_at_call 25; refine (awake25_any _).mono ?_; rintro e W13 ⟨rfl, hb13⟩; have HB13 := Lib.hid (below_then HL12.out.bel HL12.out.bel.size hb13); clear hb13) | (go_at_call 31; refine (Ftak.out _ _ _ HL11.out).mono ?_; rintro e W12 ⟨rfl, hb12⟩; have HL12 := Lib.hid (HL11.out.below 4 hb12); clear hb12) | (go_at_call 32; refine (Fsw2.out _ _ _ HL10.out (Hr0.out.below HL10.out.bel)).mono ?_; rintro e W11 ⟨A11, c11, own11, L11, rfl, hL11⟩; have HL11 := Lib.hid hL11; clear hL11) | (go_at_call 34; refine (Flen.out _ _ _ HL9.out).mono ?_; rintro e W10 ⟨rfl, hb10⟩; have HL10 := Lib.hid (HL9.out.below 4 hb10); clear hb10) | (go_at_call 31; refine (Ftak.out _ _ _ HL8.out).mono ?_; rintro e W9 ⟨rfl, hb9⟩; have HL9 := Lib.hid (HL8.out.below 4 hb9); clear hb9) | (go_at_call 29; refine (same_any _ _ _ _ _ _ Hr67.out Hr7.out).mono ?_; rintro e W8 ⟨rfl, q8, hW8⟩; have hb8 : Below W7.heap.size W7 W8 := (by rw [hW8]; exact pw_below_drewN (Below.refl _ _) q8); have HL8 := Lib.hid (HL7.out.below 4 hb8); clear hW8 hb8) | (go_at_call 33; refine (Frsw.out _ _ _ _ _ _ HL6.out (Hr0.out.below HL6.out.bel) Hown6.out Ht6.out).mono ?_; rintro e W7 ⟨A7, c7, own7, rfl, hr7, hL7, hr67⟩; have HL7 := Lib.hid hL7; have Hr7 := Lib.hid hr7; have Hr67 := Lib.hid hr67; clear hL7 hr7 hr67) | (go_at_call 32; refine (Fsw.out _ _ _ HLq.out (Hr0.out.below HLq.out.bel)).mono ?_; rintro e W6 ⟨A6, c6, own6, L6, rfl, hown6, hL6, ht6⟩; have HL6 := Lib.hid hL6; have Hown6 := Lib.hid hown6; have Ht6 := Lib.hid ht6; clear hL6 hown6 ht6))
        go_ret
        exact ⟨rfl, HB13.out⟩
  · rw [hlb] at hlarge
    have Hlarge := Lib.hid hlarge
    clear hlarge hX hf hr hlb
    go_enter Try.func8, Try.ntmps8
    go_wp2_with (first | (go_at_call 24; refine Hlarge.out.mono ?_; rintro e w0 ⟨rfl, rfl⟩) | (go_at_call 25; refine (awake25_any _).mono ?_; rintro e w1 ⟨rfl, hb⟩; have HB := Lib.hid hb; clear hb))
    go_ret
    exact ⟨rfl, HB.out⟩
end Go.Proofs.Ytgchgkffoplogaa
