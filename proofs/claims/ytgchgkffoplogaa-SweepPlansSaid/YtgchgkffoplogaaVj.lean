/- Tables of slices beside rows. -/
import Derived.Test.YtgchgkffoplogaaVi
namespace Go.Proofs.Ytgchgkffoplogaa.V
open Go.RowKit Go.Proofs.YtgchgkffoplogaaW.PrintWords Go.Proofs.Ytgchgkffoplogaa
set_option linter.unusedVariables false
set_option linter.unusedSimpArgs false

namespace Tab
variable {w w' : World} {B : Nat} {ok ok' : Nat → Prop} {L : List El} {T : List Bool}
theorem mono (h : Tab w B ok L T) (hk : ∀ k, ok k → k < w.heap.size → ok' k) : Tab w B ok' L T := by
  obtain ⟨vl, vt, vf, F, h⟩ := h
  exact ⟨vl, vt, vf, F, h.bound.mono (fun k e => hk k e.1 e.2)⟩
theorem kept (h : Tab w B ok L T) (hk : Kept ok' w w') (hd : ∀ k, k < w.heap.size → ok k → ¬ ok' k) : Tab w' B ok L T := by
  obtain ⟨vl, vt, vf, F, h⟩ := h
  exact ⟨vl, vt, vf, F, h.kept hk hd⟩
theorem below (h : Tab w B ok L T) (hb : Below w.heap.size w w') : Tab w' B ok L T := by
  obtain ⟨vl, vt, vf, F, h⟩ := h
  exact ⟨vl, vt, vf, F, h.below hb⟩
theorem grown (h : Tab w B ok L T) {row : Option Nat} (hg : w.grownBy w' row) (hd : ∀ k, ok k → row ≠ some k) : Tab w' B ok L T := by
  obtain ⟨vl, vt, vf, F, h⟩ := h
  exact ⟨vl, vt, vf, F, (h.bound.move (fun k hk => hg.block k hk.2 (fun e => hd k hk.1 e.symm))).mono (fun k hk => hk.1)⟩
theorem len (h : Tab w B ok L T) : T.length = L.length := by
  obtain ⟨vl, vt, vf, F, h⟩ := h; exact h.len
theorem ptr (h : Tab w B ok L T) : ok B ∧ B < w.heap.size := by
  obtain ⟨vl, vt, vf, F, h⟩ := h; exact ⟨h.okB, blk_lt h.blk⟩
end Tab

theorem tlen_any {w : World} {B : Nat} {ok : Nat → Prop} {L : List El} {T : List Bool} (h : Tab w B ok L T) (hl : L.length ≤ 100000) :
    Calls Try.prog 34 #[.pointer (some ⟨B, 0, none⟩)] w fun e w' => e = .returned (.int .i64 (cnt T)) ∧ Drawn0 w w' := by
  obtain ⟨vl, vt, vf, F, h⟩ := h; exact len_any h (by omega)
theorem thigh_any {w : World} {B : Nat} {ok : Nat → Prop} {L : List El} {T : List Bool} (h : Tab w B ok L T) :
    Calls Try.prog 52 #[.pointer (some ⟨B, 0, none⟩)] w fun e w' => e = .returned (.int .i64 T.length) ∧ w = w' := by
  have := h.len
  obtain ⟨vl, vt, vf, F, h⟩ := h
  rw [this]; exact high_any h

end Go.Proofs.Ytgchgkffoplogaa.V
