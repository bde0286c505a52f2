/- The walks of a table of slices: High, Len, has, Get. -/
import Derived.Test.YtgchgkffoplogaaNa
namespace Go.Proofs.Ytgchgkffoplogaa.V
open Go.RowKit Go.Proofs.YtgchgkffoplogaaW.PrintWords Go.Proofs.Ytgchgkffoplogaa
set_option linter.unusedVariables false
set_option linter.unusedSimpArgs false

/-- A slice as an element. -/
abbrev El := Option Addr × Nat × Nat
abbrev encE (m : El) : Value := .slice m.1 m.2.1 m.2.2
def zE : El := (none, 0, 0)
theorem encE_z : encE zE = .slice none 0 0 := rfl
abbrev TabE := SlotsAt (α := El) encE 22 89

theorem high_any {w : World} {B : Nat} {ok : Nat → Prop} {vl vt vf : Value} {L : List El} {T : List Bool} {F : List Int} (h : TabE w B ok vl vt vf L T F) :
    Calls Try.prog 52 #[.pointer (some ⟨B, 0, none⟩)] w fun e w' => e = .returned (.int .i64 L.length) ∧ w = w' := by
  have hc : w.cell? ⟨B, 0, none⟩ = some vl := blk_cell h.blk 0
  obtain ⟨A, c, rfl⟩ := own_slice h.rl
  go_enter Try.func52, Try.ntmps52
  go_wp2
  go_ret
  exact ⟨rfl, rfl⟩

theorem len_any {w : World} {B : Nat} {ok : Nat → Prop} {vl vt vf : Value} {L : List El} {T : List Bool} {F : List Int} (h : TabE w B ok vl vt vf L T F) (hl : L.length ≤ 1000000) :
    Calls Try.prog 34 #[.pointer (some ⟨B, 0, none⟩)] w fun e w' => e = .returned (.int .i64 (cnt T)) ∧ Drawn0 w w' := by
  have hc : w.cell? ⟨B, 0, none⟩ = some vl := blk_cell h.blk 0
  have hc2 : w.cell? ⟨B, 2, none⟩ = some vf := blk_cell h.blk 2
  obtain ⟨A, c, rfl⟩ := own_slice h.rl
  obtain ⟨A2, c2, rfl⟩ := own_slice h.rf
  have hlen := h.fr.len
  have hn : (L.length : Int) - (F.length : Int) = (cnt T : Int) := by have := h.len; omega
  have hF : F.length ≤ L.length := by have := h.len; omega
  go_enter Try.func34, Try.ntmps34
  go_wp2
  go_quiet (fail)
  go_wp2
  go_ret
  exact ⟨rfl, ⟨_, rfl⟩⟩

theorem has_any {w : World} {B : Nat} {ok : Nat → Prop} {vl vt vf : Value} {L : List El} {T : List Bool} {F : List Int} (h : TabE w B ok vl vt vf L T F) (hl : L.length ≤ 1000000) (i : Int) :
    Calls Try.prog 60 #[.pointer (some ⟨B, 0, none⟩), .int .i64 i] w fun e w' => e = .returned (.bool (isT T i)) ∧ w = w' := by
  have hc : w.cell? ⟨B, 0, none⟩ = some vl := blk_cell h.blk 0
  have hc1 : w.cell? ⟨B, 1, none⟩ = some vt := blk_cell h.blk 1
  obtain ⟨A, c, rfl⟩ := own_slice h.rl
  by_cases h0 : 0 ≤ i
  · by_cases h1 : i < L.length
    · obtain ⟨g, c1, rfl, _, _⟩ := h.rt.form (by omega)
      obtain ⟨hv, _⟩ := own_at_of (d := false) h.rt i h0 h1
      have he : isT T i = rdOf false T i := by simp [isT, h0]
      rw [he]
      go_enter Try.func60, Try.ntmps60
      go_wp2
      go_ret
      exact ⟨rfl, rfl⟩
    · have he : isT T i = false := by
        have : T.length ≤ i.toNat := by have := h.len; omega
        simp [isT, rdOf, List.getD, List.getElem?_eq_none this]
      rw [he]
      go_enter Try.func60, Try.ntmps60
      go_wp2
      go_ret
      exact ⟨rfl, rfl⟩
  · have he : isT T i = false := by simp [isT, h0]
    rw [he]
    go_enter Try.func60, Try.ntmps60
    go_wp2
    go_ret
    exact ⟨rfl, rfl⟩

theorem get_any {w : World} {B : Nat} {ok : Nat → Prop} {vl vt vf : Value} {L : List El} {T : List Bool} {F : List Int} (h : TabE w B ok vl vt vf L T F) (hl : L.length ≤ 1000000) (i : Int) :
    Calls Try.prog 54 #[.pointer (some ⟨B, 0, none⟩), .int .i64 i] w fun e w' => e = .returned (.tuple #[encE (if isT T i then rdOf zE L i else zE), .bool (isT T i)]) ∧ Below w.heap.size w w' := by
  have hhas := has_any h hl i
  have hc : w.cell? ⟨B, 0, none⟩ = some vl := blk_cell h.blk 0
  by_cases ht : isT T i = true
  · obtain ⟨h0, h1, _⟩ := isT_lt ht
    have hlen := h.len
    have h1' : i < (L.length : Int) := by omega
    obtain ⟨g, c1, rfl, _, _⟩ := h.rl.form (by omega)
    obtain ⟨hv, _⟩ := own_at_of (d := zE) h.rl i h0 h1'
    rw [ht] at hhas
    simp only [ht, if_true]
    go_enter Try.func54, Try.ntmps54
    go_wp2_with (go_at_call 60; refine hhas.mono ?_; rintro e w1 ⟨rfl, rfl⟩)
    go_ret2
    exact ⟨rfl, Below.refl _ _⟩
  · have ht' : isT T i = false := by simpa using ht
    rw [ht'] at hhas
    simp only [ht', if_false]
    go_enter Try.func54, Try.ntmps54
    go_wp2_with (go_at_call 60; refine hhas.mono ?_; rintro e w1 ⟨rfl, rfl⟩)
    go_ret2
    exact ⟨rfl, below_alloc (Below.refl _ _) _⟩

end Go.Proofs.Ytgchgkffoplogaa.V
