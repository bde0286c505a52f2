/- The document's own slots: Free, Add, All. -/
import Derived.Test.YtgchgkffoplogaaRa
namespace Go.Proofs.Ytgchgkffoplogaa
open Go.RowKit Go.Proofs.YtgchgkffoplogaaW.PrintWords
set_option linter.unusedVariables false
set_option linter.unusedSimpArgs false

theorem info22 : (Try.prog.info? 22).map (fun i => (i.zero, i.size, i.bytes)) = some (some (.slice none 0 0), 1, 24) := by kernel_rfl

/-- What is left of the reference where a slot's mark was put. -/
theorem ref_mark {w : World} {C g c : Nat} {ok okE : Nat → Prop} {vL : Value} {M : List Value} {T : List Bool} {X : List (List Int)} (h : RefAt w C ok okE vL (.slice (some ⟨g, 0, none⟩) M.length c) M T X) (hd : ∀ k, ok k → ¬ okE k) (i : Nat) (b : Bool) :
    RefAt (w.setCell ⟨g, i, none⟩ (.bool b)) C ok okE vL (.slice (some ⟨g, 0, none⟩) M.length c) M (T.set i b) X ∧ Kept ok w (w.setCell ⟨g, i, none⟩ (.bool b)) := by
  have hokg : ok g := h.okt g rfl
  have hCg : C ≠ g := fun e => own_ne h.rt h.blk (by decide) (by rw [e]; rfl)
  have hL : some g ≠ vL.ownBlock := fun e => (own_type_ne h.rl h.rt (by decide)).elim (fun k => by rw [k] at e; simp at e) (fun k => k e.symm)
  have hs := own_store_of (enc := Value.bool) h.rt (i : Int) b
  simp only [Int.toNat_natCast] at hs
  refine ⟨⟨blk_far h.blk hCg _, own_setCell h.rl (p := ⟨g, i, none⟩) hL _, hs.1, by simpa using h.len, h.lenX, ?_, h.okC, h.okl, h.okt⟩, (Kept.refl ok w).setCell (p := ⟨g, i, none⟩) (.inl hokg) _⟩
  intro j m' xs' h1 h2
  exact (h.el j m' xs' h1 h2).move (fun k e _ => Below.heap_setCell _ _ _ _ (fun e2 => hd g hokg (by have e3 : k = g := e2; rw [← e3]; exact e))) (fun _ e => e)

set_option maxRecDepth 100000 in
theorem refFree_any {w : World} {C : Nat} {ok okE : Nat → Prop} {vL vT : Value} {M : List Value} {T : List Bool} {X : List (List Int)} (h : RefAt w C ok okE vL vT M T X) (hd : ∀ k, ok k → ¬ okE k) (hl : M.length ≤ 100000) (i : Int) :
    Calls Try.prog 46 #[.pointer (some ⟨C, 0, none⟩), .int .i64 i] w fun e w' => e = .returned (.bool (isT T i)) ∧ RefAt w' C ok okE vL vT (if isT T i then M.set i.toNat (.slice none 0 0) else M) (if isT T i then T.set i.toNat false else T) (if isT T i then X.set i.toNat [] else X) ∧ Kept ok w w' := by
  have his := is_any h hl i
  have hc : w.cell? ⟨C, 0, none⟩ = some vL := blk_cell h.blk 0
  by_cases ht : isT T i = true
  · obtain ⟨h0, h1, _⟩ := isT_lt ht
    have hlen := h.len
    obtain ⟨k, rfl⟩ := Int.eq_ofNat_of_zero_le h0
    obtain ⟨g, c, rfl, hv, hf, _⟩ := ref_elem h (k : Int) h0 (by omega)
    obtain ⟨gt, ct, rfl, _, _⟩ := h.rt.form (by omega)
    rw [Int.toNat_natCast] at hv hf
    have p0 : (0 : Int) ≤ (k : Int) := by omega
    have h1' : (k : Int) < (M.length : Int) := by omega
    obtain ⟨hp, hk1⟩ := ref_put h (fun _ e => e) hd k (by omega) _ [] (Elem.nil w okE)
    obtain ⟨w1, hw1⟩ : ∃ w1, w1 = w.setCell ⟨g, k, none⟩ (.slice none 0 0) := ⟨_, rfl⟩
    have hc1 : (w.setCell ⟨g, k, none⟩ (.slice none 0 0)).cell? ⟨C, 1, none⟩ = some (.slice (some ⟨gt, 0, none⟩) M.length ct) := blk_cell hp.blk 1
    obtain ⟨hu, huf⟩ := own_at_of (d := false) (n := M.length) (by simpa using hp.rt) (k : Int) p0 h1'
    rw [Int.toNat_natCast] at hu huf
    have hp' : RefAt (w.setCell ⟨g, k, none⟩ (.slice none 0 0)) C ok okE (.slice (some ⟨g, 0, none⟩) M.length c) (.slice (some ⟨gt, 0, none⟩) (M.set k (.slice none 0 0)).length ct) (M.set k (.slice none 0 0)) T (X.set k []) := by simpa using hp
    obtain ⟨hq, hk2⟩ := ref_mark hp' hd k false
    rw [ht] at his
    simp only [ht, if_true, Int.toNat_natCast]
    have Hq := Lib.hid hq; have Hk1 := Lib.hid hk1; have Hk2 := Lib.hid hk2
    clear hq hk1 hk2 hp hp' hlen hw1 w1 h
    go_enter Try.func46, Try.ntmps46
    go_wp2_with (go_at_call 35; refine his.mono ?_; rintro e w1 ⟨rfl, rfl⟩)
    go_ret
    exact ⟨rfl, by simpa using Hq.out, Hk1.out.trans (Hk2.out.mono (fun k e _ => .inl e))⟩
  · have ht' : isT T i = false := by simpa using ht
    rw [ht'] at his
    simp only [ht', if_false]
    have H := Lib.hid h
    clear h
    go_enter Try.func46, Try.ntmps46
    go_wp2_with (go_at_call 35; refine his.mono ?_; rintro e w1 ⟨rfl, rfl⟩)
    go_ret
    exact ⟨rfl, H.out, Kept.refl _ _⟩

/-! ### The numbers of the taken slots -/
def takesTo (T : List Bool) : Nat → List Int
  | 0 => []
  | i + 1 => takesTo T i ++ if T.getD i false then [(i : Int)] else []
theorem takesTo_length (T : List Bool) : ∀ i : Nat, (takesTo T i).length = cnt (T.take i)
  | 0 => by simp [takesTo, cnt]
  | i + 1 => by
    rw [takesTo, List.length_append, takesTo_length T i]
    by_cases hi : i < T.length
    · rw [List.take_add_one, List.getElem?_eq_getElem hi, Option.toList_some, cnt_append]
      simp only [List.getD, List.getElem?_eq_getElem hi, Option.getD_some]
      cases T[i] <;> rfl
    · rw [List.take_of_length_le (by omega), List.take_of_length_le (by omega)]
      simp [List.getD, List.getElem?_eq_none (by omega : T.length ≤ i)]
theorem takesTo_le (T : List Bool) (i : Nat) : (takesTo T i).length ≤ i := by
  rw [takesTo_length]
  have := cnt_le (T.take i)
  rw [List.length_take] at this; omega

set_option maxRecDepth 100000 in
set_option maxHeartbeats 800000 in
theorem refAll_any {w : World} {C : Nat} {ok okE : Nat → Prop} {vL vT : Value} {M : List Value} {T : List Bool} {X : List (List Int)} (h : RefAt w C ok okE vL vT M T X) (hl : M.length ≤ 100000) :
    Calls Try.prog 19 #[.pointer (some ⟨C, 0, none⟩)] w fun e w' => ∃ v, e = .returned v ∧ w'.ownsRow w.heap.size 3 1 v (takesTo T T.length).length (nums .i64 (takesTo T T.length)) ∧ Below w.heap.size w w' := by
  have hc : w.cell? ⟨C, 0, none⟩ = some vL := blk_cell h.blk 0
  have hc1 : w.cell? ⟨C, 1, none⟩ = some vT := blk_cell h.blk 1
  obtain ⟨A, c, rfl⟩ := own_slice h.rl
  have hlen := h.len
  have H := Lib.hid h; have Hlen := Lib.hid hlen
  have Hc := Lib.hid hc; have Hc1 := Lib.hid hc1
  clear h hlen hc hc1
  go_enter Try.func19, Try.ntmps19
  go_wp2
  go_loopw [3, 4] (fun v iv wr => ∃ i : Nat, i ≤ M.length ∧ iv = .int .i64 i ∧ Hid (wr.ownsRow w.heap.size 3 1 v (takesTo T i).length (nums .i64 (takesTo T i))) ∧ Hid (Below w.heap.size w wr)) (fun _ iv _ => M.length - (intOf iv).toNat)
  case atStart => exact ⟨0, Nat.zero_le _, rfl, Lib.hid (own_nil _ _ _ _), Lib.hid (Below.refl _ _)⟩
  case round =>
    obtain ⟨i, hi, rfl, HR, HB⟩ := hrel
    have hcr : wr.cell? ⟨C, 0, none⟩ = some (.slice A M.length c) := pw_cell_below HB.out Hc.out
    have hcr1 : wr.cell? ⟨C, 1, none⟩ = some vT := pw_cell_below HB.out Hc1.out
    by_cases hlt : i < M.length
    · obtain ⟨gt, ct, rfl, _, _⟩ := H.out.rt.form (by omega)
      obtain ⟨hu, _⟩ := own_at_of (d := false) H.out.rt (i : Int) (by omega) (by omega)
      rw [Int.toNat_natCast] at hu
      have hur := pw_cell_below HB.out hu
      clear hu
      have p0 : (0 : Int) ≤ (i : Int) := by omega
      have p1 : (i : Int) < (M.length : Int) := by omega
      have hle := takesTo_le T i
      have hs : takesTo T (i + 1) = takesTo T i ++ if T.getD i false then [(i : Int)] else [] := rfl
      have hv : rdOf false T (i : Int) = T.getD i false := by simp [rdOf]
      rw [← hv] at hs
      cases hb : rdOf false T (i : Int)
      · rw [hb] at hur hs
        rw [if_neg (by simp), List.append_nil] at hs
        have Hs := Lib.hid hs
        clear hs hb hv
        go_wp2
        go_roundw
        case rel => exact ⟨i + 1, by omega, by go_num, by rw [Hs.out]; exact HR, HB⟩
        case measure => simp [intOf]; omega
      · rw [hb] at hur hs
        rw [if_pos rfl] at hs
        have Hs := Lib.hid hs
        clear hs hb hv
        go_wp2_with (at_builtin; refine print_append_num (w0 := w) w.heap.size rfl (.tmp 21) (.tmp 23) 22 3 .i64 8 rfl Try.underlying22 info3 (by decide) _ _ _ rfl rfl HR.out HB.out HB.out.size (by omega) ?_; intro v1 w1 hown hb hg hat)
        go_roundw
        case rel => exact ⟨i + 1, by omega, by go_num, Lib.hid (by rw [Hs.out]; exact hown), Lib.hid hb⟩
        case measure => simp [intOf]; omega
    · have hiM : i = T.length := by rw [Hlen.out]; omega
      have Hi := Lib.hid hiM
      clear hiM
      go_wp2
      go_ret
      exact ⟨_, rfl, by rw [← Hi.out]; exact HR.out, HB.out⟩
end Go.Proofs.Ytgchgkffoplogaa
