/- The walk of the law SweepMarks. -/
import Derived.Test.YtgchgkffoplogaaHe
namespace Go.Proofs.Ytgchgkffoplogaa
open Go.RowKit Go.Proofs.YtgchgkffoplogaaW.PrintWords
set_option linter.unusedVariables false
set_option linter.unusedSimpArgs false

/-- A row of the call's own, answered. -/
def RowPost (W : World) (xs : List Int) (e : Ending) (W' : World) : Prop := ∃ A c, e = .returned (.slice A xs.length c) ∧ ReadsInt W' .i64 A xs.length xs ∧ Below W.heap.size W W'
namespace Laid
variable {w W W' : World} {own : Nat → Nat} {B C : Nat} {L : List V.El} {T : List Bool} {X : List (List Int)} {U : List Bool} {Y : List (List Int)}
theorem smark (h : Laid w W own B C L T X U Y) (hl : L.length ≤ 100000) (A : Option Addr) (cA : Nat) (rl : List Int) (hr : ReadsInt W .i64 A rl.length rl) :
    Calls Try.prog 27 #[.pointer (some ⟨B, 0, none⟩), .slice A rl.length cA, .func (.func 28) #[] #[]] W fun e W' => RowPost W (marks T X rl) e W' := by
  have hm := mark_any h.tab hl h.el h.lenX A cA rl hr true
  simp only [if_true] at hm
  refine hm.mono ?_
  rintro e W' ⟨v, rfl, hown, hb⟩
  obtain ⟨A', c', rfl, hr'⟩ := own_reads hown
  exact ⟨A', c', rfl, hr', hb⟩
theorem smark0 (h : Laid w W own B C L T X U Y) (hl : L.length ≤ 100000) (A : Option Addr) (cA : Nat) (rl : List Int) (hr : ReadsInt W .i64 A rl.length rl) :
    Calls Try.prog 27 #[.pointer (some ⟨B, 0, none⟩), .slice A rl.length cA, Value.nilFunc] W fun e W' => RowPost W (marks T [] rl) e W' := by
  have hm := mark_any h.tab hl h.el h.lenX A cA rl hr false
  simp only [Bool.false_eq_true, if_false] at hm
  refine hm.mono ?_
  rintro e W' ⟨v, rfl, hown, hb⟩
  obtain ⟨A', c', rfl, hr'⟩ := own_reads hown
  exact ⟨A', c', rfl, hr', hb⟩
theorem rmark (h : Laid w W own B C L T X U Y) (hl : Y.length ≤ 100000) (A : Option Addr) (cA : Nat) (rl : List Int) (hr : ReadsInt W .i64 A rl.length rl) :
    Calls Try.prog 30 #[.pointer (some ⟨C, 0, none⟩), .slice A rl.length cA] W fun e W' => RowPost W (marks U Y rl) e W' := by
  obtain ⟨vL, vT, M, hrf⟩ := h.ref
  refine (refMark_any hrf (by rw [← hrf.lenX]; exact hl) A cA rl hr).mono ?_
  rintro e W' ⟨v, rfl, hown, hb⟩
  obtain ⟨A', c', rfl, hr'⟩ := own_reads hown
  exact ⟨A', c', rfl, hr', hb⟩
end Laid
theorem laidTX_len (X : List (List Int)) (fr : List Int) : (laidTX X fr).1.length = X.length ∧ (laidTX X fr).2.length = X.length := by
  have h := freesTX_len (fr.take 200) (List.replicate X.length true, X)
  unfold freesTX at h
  unfold laidTX
  exact ⟨by rw [h.1]; simp, h.2⟩

/-- Behind the slots, the roots and their copy with one number behind it. -/
structure MkAt (w W : World) (own : Nat → Nat) (B C : Nat) (L : List V.El) (T : List Bool) (X : List (List Int)) (Br : Option Addr) (rl : List Int) (g : Nat) : Prop where
  laid : Laid w W own B C L T X T X
  roots : ReadsInt W .i64 Br rl.length rl
  x : ReadsInt W .i64 (some ⟨g, 0, none⟩) rl.length rl
  e : W.cell? ⟨g, rl.length, none⟩ = some (.int .i64 77)
theorem MkAt.below {w W W' : World} {own : Nat → Nat} {B C : Nat} {L : List V.El} {T : List Bool} {X : List (List Int)} {Br : Option Addr} {rl : List Int} {g : Nat} (h : MkAt w W own B C L T X Br rl g) (hb : Below W.heap.size W W') : MkAt w W' (tagged own W.heap.size 4) B C L T X Br rl g :=
  ⟨h.laid.below 4 hb, h.roots.below hb, h.x.below hb, pw_cell_below hb h.e⟩
theorem mkAt_of {w W W3 : World} {own : Nat → Nat} {B C : Nat} {L : List V.El} {T : List Bool} {X : List (List Int)} {Br : Option Addr} {rl : List Int} {A3 : Option Addr} {c3 : Nat} (hL : Laid w W own B C L T X T X) (hr : ReadsInt W .i64 Br rl.length rl)
    (h3 : W3.ownsRow W.heap.size 3 1 (.slice A3 (rl ++ [77]).length c3) (rl ++ [77]).length (nums .i64 (rl ++ [77]))) (hb : Below W.heap.size W W3) : ∃ g, A3 = some ⟨g, 0, none⟩ ∧ (rl ++ [77]).length ≤ c3 ∧ MkAt w W3 (tagged own W.heap.size 4) B C L T X Br rl g := by
  obtain ⟨g, c, hv, _, _⟩ := h3.form (by simp)
  injection hv with e1 e2 e3
  subst e1
  refine ⟨g, rfl, own_le h3, hL.below 4 hb, hr.below hb, ?_, ?_⟩
  · have h4 := own_take (m := rl.length) h3 (by simp)
    have e : (nums .i64 (rl ++ [77])).take (rl.length * 1) = nums .i64 rl := by simp [nums]
    rw [e] at h4
    exact own_reads' h4
  · obtain ⟨hc, _⟩ := own_at h3 (rl.length : Int) (by omega) (by simp; omega)
    rw [Int.toNat_natCast] at hc
    have e : rd (rl ++ [77]) (rl.length : Int) = 77 := by simp [rd, rdOf]
    rw [e] at hc
    exact hc

set_option maxRecDepth 100000 in
set_option maxHeartbeats 4000000 in
theorem marks_law {w : World} {A : Option Addr} {X : List (List Int)} (hX : ArgRows w A X) (c : Nat) (Bf : Option Addr) (cf : Nat) (fr : List Int) (hf : ReadsInt w .i64 Bf fr.length fr) (Br : Option Addr) (cr : Nat) (rl : List Int) (hr : ReadsInt w .i64 Br rl.length rl) :
    Calls Try.prog 7 #[.slice A X.length c, .slice Bf fr.length cf, .slice Br rl.length cr] w fun e w' => e = .returned (.bool true) ∧ Below w.heap.size w w' := by
  have hlarge := large_any (B := Br) hX c rl.length cr hr.2.1
  cases hlb : largeB X rl.length
  · rw [hlb] at hlarge
    obtain ⟨hX2, hr2, h60⟩ := small_of hlb
    have hlaid := laid_any hX hX2 h60 c Bf cf fr hf
    have hlens := laidTX_len X fr
    obtain ⟨T, Y, hTY⟩ : ∃ T Y, laidTX X fr = (T, Y) := ⟨_, _, rfl⟩
    unfold LaidPost at hlaid
    rw [hTY] at hlaid hlens
    simp only at hlaid hlens
    have Hlaid := Lib.hid hlaid; have Hlarge := Lib.hid hlarge; have Hr := Lib.hid hr; have Hlens := Lib.hid hlens
    clear hlaid hlarge hr hX hf hlb h60 hTY hlens
    obtain ⟨i3, hi3, z31, z32, z33⟩ := info_parts info3
    go_enter Try.func7, Try.ntmps7
    go_upto_region 6 with (first | (go_at_call 24; refine Hlarge.out.mono ?_; rintro e w0 ⟨rfl, rfl⟩) | (go_at_call 26; refine Hlaid.out.mono ?_; rintro e W1 ⟨own, B, C, L, rfl, hL, _⟩; have HL := Lib.hid hL; clear hL))
    have hl4 : L.length ≤ 100000 := by have := HL.out.lenX; have := Hlens.out.2; omega
    have hy4 : Y.length ≤ 100000 := by have := Hlens.out.2; omega
    have hr1 := Hr.out.below HL.out.bel
    have Hr1 := Lib.hid hr1
    clear hr1
    go_upto_region 9 with (first | (at_builtin; refine print_append_num (w0 := W1) W1.heap.size rfl (.tmp 28) (.tmp 29) 22 3 .i64 8 rfl Try.underlying22 info3 (by decide) _ _ _ rfl rfl Hown2.out HB2.out HB2.out.size (by omega) ?_; intro v3 W3 hown3 hb3 hg3 hat3; have Hown3 := Lib.hid hown3; have HB3 := Lib.hid hb3; clear hown3 hb3 hg3 hat3) | (at_builtin; refine print_append_row (w0 := W1) W1.heap.size rfl (.tmp 25) (.tmp 26) 22 3 .i64 8 rfl Try.underlying22 info3 (by decide) (.slice none 0 0) [] rl Br rl.length cr rfl rfl (own_nil _ _ _ _) Hr1.out (Below.refl _ _) (Nat.le_refl _) (by simp; omega) ?_; intro v2 W2 hown2 hb2 hg2 hat2; rw [List.nil_append] at hown2; obtain ⟨A2, c2, rfl⟩ := own_slice hown2; have Hown2 := Lib.hid hown2; have HB2 := Lib.hid hb2; clear hown2 hb2 hg2 hat2))
    have hown3 := Hown3.out
    obtain ⟨A3, c3, rfl⟩ := own_slice hown3
    obtain ⟨g, rfl, hc3, hm3⟩ := mkAt_of HL.out Hr1.out hown3 HB3.out
    have hcut := cut_to (P := Try.prog) 22 3 .i64 Try.underlying22 hi3 (some ⟨g, 0, none⟩) (rl.length + 1) c3 (rl.length : Int) (by omega) (by omega) (by simpa using hc3)
    have HM3 := Lib.hid hm3
    clear hm3 hown3 Hown3 HB3 Hown2 HB2 Hr1
    go_upto_region 10 with (go_at_call 27; refine (HM3.out.laid.smark hl4 _ _ rl HM3.out.x).mono ?_; rintro e W4 ⟨A4, c4, rfl, hr4, hb4⟩; have HM4 := Lib.hid (HM3.out.below hb4); have Hr4 := Lib.hid hr4; clear hr4 hb4)
    go_wp2_with (first | (go_at_call 25; refine (awake25_any _).mono ?_; rintro e W9 ⟨rfl, hb9⟩; have HB9 := Lib.hid (below_then HM8.out.laid.bel HM8.out.laid.bel.size hb9); clear hb9) | (go_at_call 29; refine (same_any _ _ _ _ rl _ HM7.out.x HM7.out.roots).mono ?_; rintro e W8 ⟨rfl, q8, hW8⟩; have hb8 : Below W7.heap.size W7 W8 := (by rw [hW8]; exact pw_below_drewN (Below.refl _ _) q8); have HM8 := Lib.hid (HM7.out.below hb8); have ce8 := HM8.out.e; clear hW8 hb8) | (go_at_call 31; refine (taken_any HM6.out.laid hl4).mono ?_; rintro e W7 ⟨rfl, hb7⟩; have HM7 := Lib.hid (HM6.out.below hb7); clear hb7) | (go_at_call 29; refine (same_any _ _ _ _ _ _ Hr45.out Hr5.out).mono ?_; rintro e W6 ⟨rfl, q6, hW6⟩; have hb6 : Below W5.heap.size W5 W6 := (by rw [hW6]; exact pw_below_drewN (Below.refl _ _) q6); have HM6 := Lib.hid (HM5.out.below hb6); clear hW6 hb6) | (go_at_call 30; refine (HM4.out.laid.rmark hy4 _ _ rl HM4.out.roots).mono ?_; rintro e W5 ⟨A5, c5, rfl, hr5, hb5⟩; have HM5 := Lib.hid (HM4.out.below hb5); have Hr45 := Lib.hid (Hr4.out.below hb5); have Hr5 := Lib.hid hr5; clear hr5 hb5))
    go_ret
    exact ⟨rfl, HB9.out⟩
  · rw [hlb] at hlarge
    have Hlarge := Lib.hid hlarge
    clear hlarge hX hf hr hlb
    go_enter Try.func7, Try.ntmps7
    go_wp2_with (first | (go_at_call 24; refine Hlarge.out.mono ?_; rintro e w0 ⟨rfl, rfl⟩) | (go_at_call 25; refine (awake25_any _).mono ?_; rintro e w1 ⟨rfl, hb⟩; have HB := Lib.hid hb; clear hb))
    go_ret
    exact ⟨rfl, HB.out⟩
end Go.Proofs.Ytgchgkffoplogaa
