/- Tables beside rows; awake. -/
import Derived.Test.YtgchgkffoplogaaSi
namespace Go.Proofs.Ytgchgkffoplogaa
open Go.RowKit Go.Proofs.YtgchgkffoplogaaW.PrintWords
set_option linter.unusedVariables false
set_option linter.unusedSimpArgs false

namespace Tab
variable {w w' : World} {B : Nat} {ok ok' : Nat → Prop} {L : List Int} {T : List Bool}
theorem mono (h : Tab w B ok L T) (hk : ∀ k, ok k → k < w.heap.size → ok' k) : Tab w B ok' L T := by
  obtain ⟨vl, vt, vf, F, h⟩ := h
  exact ⟨vl, vt, vf, F, h.bound.mono (fun k e => hk k e.1 e.2)⟩
theorem kept (h : Tab w B ok L T) (hk : Kept ok' w w') (hd : ∀ k, k < w.heap.size → ok k → ¬ ok' k) : Tab w' B ok L T := by
  obtain ⟨vl, vt, vf, F, h⟩ := h
  exact ⟨vl, vt, vf, F, h.kept hk hd⟩
theorem below (h : Tab w B ok L T) (hb : Below w.heap.size w w') : Tab w' B ok L T := by
  obtain ⟨vl, vt, vf, F, h⟩ := h
  exact ⟨vl, vt, vf, F, h.below hb⟩
theorem grown (h : Tab w B ok L T) {row : Option Nat} (hg : w.grownBy w' row) (hd : ∀ k, ok k → row ≠ some k) : Tab w' B ok L T := by
  obtain ⟨vl, vt, vf, F, h⟩ := h
  exact ⟨vl, vt, vf, F, (h.bound.move (fun k hk => hg.block k hk.2 (fun e => hd k hk.1 e.symm))).mono (fun k hk => hk.1)⟩
theorem len (h : Tab w B ok L T) : T.length = L.length := by
  obtain ⟨vl, vt, vf, F, h⟩ := h; exact h.len
theorem ptr (h : Tab w B ok L T) : ok B ∧ B < w.heap.size := by
  obtain ⟨vl, vt, vf, F, h⟩ := h; exact ⟨h.okB, blk_lt h.blk⟩
end Tab

theorem tlen_any {w : World} {B : Nat} {ok : Nat → Prop} {L : List Int} {T : List Bool} (h : Tab w B ok L T) (hl : L.length ≤ 100000) :
    Calls Try.prog 16 #[.pointer (some ⟨B, 0, none⟩)] w fun e w' => e = .returned (.int .i64 (cnt T)) ∧ Drawn0 w w' := by
  obtain ⟨vl, vt, vf, F, h⟩ := h; exact len_any h (by omega)
theorem thigh_any {w : World} {B : Nat} {ok : Nat → Prop} {L : List Int} {T : List Bool} (h : Tab w B ok L T) :
    Calls Try.prog 15 #[.pointer (some ⟨B, 0, none⟩)] w fun e w' => e = .returned (.int .i64 T.length) ∧ w = w' := by
  have := h.len
  obtain ⟨vl, vt, vf, F, h⟩ := h
  rw [this]; exact high_any h

/-- One step of a table that began at w0. -/
theorem step_tab {w0 W w' : World} {B : Nat} {L : List Int} {T : List Bool} (hB : Below w0.heap.size w0 W) (h : Tab w' B (fun k => w0.heap.size ≤ k ∨ W.heap.size ≤ k) L T) (hk : Kept (fun k => w0.heap.size ≤ k) W w') :
    Tab w' B (fun k => w0.heap.size ≤ k) L T ∧ Below w0.heap.size w0 w' :=
  ⟨h.mono (fun k e _ => by have := hB.size; omega), hB.trans (hk.below hB.size (fun k e _ => e))⟩

set_option maxRecDepth 100000 in
theorem awake12_any (w : World) : Calls Try.prog 12 #[] w fun e w' => e = .returned (.bool true) ∧ Below w.heap.size w w' := by
  have l0 : lowest [] = 0 := rfl
  have l1 : lowest [true] = 1 := rfl
  have l2 : lowest [false, true] = 0 := rfl
  have t1 : isT [true, true] 0 = true := rfl
  have c1 : cnt [true, true] = 2 := rfl
  go_enter Try.func12, Try.ntmps12
  go_wp2_with (first | (go_at_call 13; refine (new_any _).mono ?_; rintro e w1 ⟨rfl, rfl⟩; have H1 := Lib.hid (tab_new (w := w)); have B1 := Lib.hid (below_alloc (Below.refl w.heap.size w) (.cells #[.slice none 0 0, .slice none 0 0, .slice none 0 0] 34))) | (go_at_call 14; refine (add_any H1.out (by decide) _).mono ?_; rintro e w2 ⟨rfl, h, k⟩; have s := step_tab B1.out h k; have H2 : Hid (Tab w2 _ _ [7] [true]) := Lib.hid s.1; have B2 := Lib.hid s.2; clear h k s) | (go_at_call 14; refine (add_any H2.out (by decide) _).mono ?_; rintro e w3 ⟨rfl, h, k⟩; have s := step_tab B2.out h k; have H3 : Hid (Tab w3 _ _ [7, 8] [true, true]) := Lib.hid s.1; have B3 := Lib.hid s.2; clear h k s) | (go_at_call 17; refine (free_any H3.out (by decide) _).mono ?_; rintro e w4 ⟨rfl, h, k⟩; have s := step_tab B3.out h k; have H4 : Hid (Tab w4 _ _ [0, 8] [false, true]) := Lib.hid s.1; have B4 := Lib.hid s.2; clear h k s) | (go_at_call 14; refine (add_any H4.out (by decide) _).mono ?_; rintro e w5 ⟨rfl, h, k⟩; have s := step_tab B4.out h k; have H5 : Hid (Tab w5 _ _ [9, 8] [true, true]) := Lib.hid s.1; have B5 := Lib.hid s.2; clear h k s) | (go_at_call 16; refine (tlen_any H5.out (by decide)).mono ?_; rintro e w6 ⟨rfl, q, rfl⟩; have H6 := Lib.hid (H5.out.kept (ok' := fun _ => False) ((Kept.refl _ _).drewN q) (fun _ _ _ e => e))) | (go_at_call 15; refine (thigh_any H6.out).mono ?_; rintro e w7 ⟨rfl, rfl⟩))
  go_ret
  exact ⟨rfl, pw_below_drewN B5.out _⟩
end Go.Proofs.Ytgchgkffoplogaa
