/- The walks of a table's methods: High, Len, has, Get, Set. -/
import Derived.Test.YtgchgkffoplogaaSe
namespace Go.Proofs.Ytgchgkffoplogaa
open Go.RowKit Go.Proofs.YtgchgkffoplogaaW.PrintWords
set_option linter.unusedVariables false
set_option linter.unusedSimpArgs false

/-- Is a slot taken? -/
def isT (T : List Bool) (i : Int) : Bool := decide (0 ≤ i) && rdOf false T i
abbrev TabI := SlotsAt (α := Int) (Value.int .i64) 3 34

theorem high_any {w : World} {B : Nat} {ok : Nat → Prop} {vl vt vf : Value} {L : List Int} {T : List Bool} {F : List Int} (h : TabI w B ok vl vt vf L T F) :
    Calls Try.prog 15 #[.pointer (some ⟨B, 0, none⟩)] w fun e w' => e = .returned (.int .i64 L.length) ∧ w = w' := by
  have hc : w.cell? ⟨B, 0, none⟩ = some vl := blk_cell h.blk 0
  obtain ⟨A, c, rfl⟩ := own_slice h.rl
  go_enter Try.func15, Try.ntmps15
  go_wp2
  go_ret
  exact ⟨rfl, rfl⟩

theorem len_any {w : World} {B : Nat} {ok : Nat → Prop} {vl vt vf : Value} {L : List Int} {T : List Bool} {F : List Int} (h : TabI w B ok vl vt vf L T F) (hl : L.length ≤ 1000000) :
    Calls Try.prog 16 #[.pointer (some ⟨B, 0, none⟩)] w fun e w' => e = .returned (.int .i64 (cnt T)) ∧ Drawn0 w w' := by
  have hc : w.cell? ⟨B, 0, none⟩ = some vl := blk_cell h.blk 0
  have hc2 : w.cell? ⟨B, 2, none⟩ = some vf := blk_cell h.blk 2
  obtain ⟨A, c, rfl⟩ := own_slice h.rl
  obtain ⟨A2, c2, rfl⟩ := own_slice h.rf
  have hlen := h.fr.len
  have hn : (L.length : Int) - (F.length : Int) = (cnt T : Int) := by have := h.len; omega
  have hF : F.length ≤ L.length := by have := h.len; omega
  go_enter Try.func16, Try.ntmps16
  go_wp2
  go_quiet (fail)
  go_wp2
  go_ret
  exact ⟨rfl, ⟨_, rfl⟩⟩

theorem has_any {w : World} {B : Nat} {ok : Nat → Prop} {vl vt vf : Value} {L : List Int} {T : List Bool} {F : List Int} (h : TabI w B ok vl vt vf L T F) (hl : L.length ≤ 1000000) (i : Int) :
    Calls Try.prog 40 #[.pointer (some ⟨B, 0, none⟩), .int .i64 i] w fun e w' => e = .returned (.bool (isT T i)) ∧ w = w' := by
  have hc : w.cell? ⟨B, 0, none⟩ = some vl := blk_cell h.blk 0
  have hc1 : w.cell? ⟨B, 1, none⟩ = some vt := blk_cell h.blk 1
  obtain ⟨A, c, rfl⟩ := own_slice h.rl
  by_cases h0 : 0 ≤ i
  · by_cases h1 : i < L.length
    · obtain ⟨g, c1, rfl, _, _⟩ := h.rt.form (by omega)
      obtain ⟨hv, _⟩ := own_at_of (d := false) h.rt i h0 h1
      have he : isT T i = rdOf false T i := by simp [isT, h0]
      rw [he]
      go_enter Try.func40, Try.ntmps40
      go_wp2
      go_ret
      exact ⟨rfl, rfl⟩
    · have he : isT T i = false := by
        have : T.length ≤ i.toNat := by have := h.len; omega
        simp [isT, rdOf, List.getD, List.getElem?_eq_none this]
      rw [he]
      go_enter Try.func40, Try.ntmps40
      go_wp2
      go_ret
      exact ⟨rfl, rfl⟩
  · have he : isT T i = false := by simp [isT, h0]
    rw [he]
    go_enter Try.func40, Try.ntmps40
    go_wp2
    go_ret
    exact ⟨rfl, rfl⟩

theorem isT_lt {T : List Bool} {i : Int} (h : isT T i = true) : 0 ≤ i ∧ i < T.length ∧ T[i.toNat]? = some true := by
  unfold isT at h
  simp only [Bool.and_eq_true, decide_eq_true_eq] at h
  obtain ⟨h0, h1⟩ := h
  unfold rdOf at h1
  by_cases hl : i.toNat < T.length
  · refine ⟨h0, by omega, ?_⟩
    rw [List.getElem?_eq_getElem hl]
    simpa [List.getD, List.getElem?_eq_getElem hl] using h1
  · simp [List.getD, List.getElem?_eq_none (by omega : T.length ≤ i.toNat)] at h1

theorem get_any {w : World} {B : Nat} {ok : Nat → Prop} {vl vt vf : Value} {L : List Int} {T : List Bool} {F : List Int} (h : TabI w B ok vl vt vf L T F) (hl : L.length ≤ 1000000) (i : Int) :
    Calls Try.prog 22 #[.pointer (some ⟨B, 0, none⟩), .int .i64 i] w fun e w' => e = .returned (.tuple #[.int .i64 (if isT T i then rdOf 0 L i else 0), .bool (isT T i)]) ∧ Below w.heap.size w w' := by
  have hhas := has_any h hl i
  have hc : w.cell? ⟨B, 0, none⟩ = some vl := blk_cell h.blk 0
  by_cases ht : isT T i = true
  · obtain ⟨h0, h1, _⟩ := isT_lt ht
    have hlen := h.len
    have h1' : i < (L.length : Int) := by omega
    obtain ⟨g, c1, rfl, _, _⟩ := h.rl.form (by omega)
    obtain ⟨hv, _⟩ := own_at_of (d := 0) h.rl i h0 h1'
    rw [ht] at hhas
    simp only [ht, if_true]
    go_enter Try.func22, Try.ntmps22
    go_wp2_with (go_at_call 40; refine hhas.mono ?_; rintro e w1 ⟨rfl, rfl⟩)
    go_ret2
    exact ⟨rfl, Below.refl _ _⟩
  · have ht' : isT T i = false := by simpa using ht
    rw [ht'] at hhas
    simp only [ht', if_false]
    go_enter Try.func22, Try.ntmps22
    go_wp2_with (go_at_call 40; refine hhas.mono ?_; rintro e w1 ⟨rfl, rfl⟩)
    go_ret2
    exact ⟨rfl, below_alloc (Below.refl _ _) _⟩

theorem set_any {w : World} {B : Nat} {ok : Nat → Prop} {vl vt vf : Value} {L : List Int} {T : List Bool} {F : List Int} (h : TabI w B ok vl vt vf L T F) (hl : L.length ≤ 1000000) (i x : Int) :
    Calls Try.prog 23 #[.pointer (some ⟨B, 0, none⟩), .int .i64 i, .int .i64 x] w fun e w' => e = .returned (.bool (isT T i)) ∧ TabI w' B ok vl vt vf (if isT T i then L.set i.toNat x else L) T F ∧ Kept ok w w' := by
  have hhas := has_any h hl i
  have hc : w.cell? ⟨B, 0, none⟩ = some vl := blk_cell h.blk 0
  by_cases ht : isT T i = true
  · obtain ⟨h0, h1, _⟩ := isT_lt ht
    have hlen := h.len
    have h1' : i < (L.length : Int) := by omega
    obtain ⟨g, c1, rfl, _, _⟩ := h.rl.form (by omega)
    obtain ⟨hv, hf⟩ := own_at_of (d := 0) h.rl i h0 h1'
    have hs := own_store_of h.rl i x
    have H := Lib.hid h; have Hs := Lib.hid hs
    clear h hs
    rw [ht] at hhas
    simp only [ht, if_true]
    go_enter Try.func23, Try.ntmps23
    go_wp2_with (go_at_call 40; refine hhas.mono ?_; rintro e w1 ⟨rfl, rfl⟩)
    go_ret
    have hB : B ≠ g := fun e => own_ne H.out.rl H.out.blk (by decide) (by rw [e]; rfl)
    have hT : some g ≠ vt.ownBlock := fun e => (own_type_ne H.out.rt H.out.rl (by decide)).elim (fun k => by rw [k] at e; simp at e) (fun k => k e.symm)
    have hF : some g ≠ vf.ownBlock := fun e => H.out.ne g rfl e.symm
    exact ⟨rfl, ⟨blk_far H.out.blk hB _, by simpa using Hs.out.1, by simpa using own_setCell H.out.rt hT _, own_setCell H.out.rf hF _, H.out.ne, H.out.fr, by simpa using H.out.len, H.out.okB, H.out.okl, H.out.okt, H.out.okf⟩, (Kept.refl ok w).setCell (p := ⟨g, i.toNat, none⟩) (.inl (H.out.okl _ rfl)) _⟩
  · have ht' : isT T i = false := by simpa using ht
    rw [ht'] at hhas
    simp only [ht', if_false]
    have H := Lib.hid h; clear h
    go_enter Try.func23, Try.ntmps23
    go_wp2_with (go_at_call 40; refine hhas.mono ?_; rintro e w1 ⟨rfl, rfl⟩)
    go_ret
    exact ⟨rfl, H.out, Kept.refl _ _⟩
end Go.Proofs.Ytgchgkffoplogaa
