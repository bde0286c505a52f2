/- Plain: what goes asks, of a pair. -/
import Derived.Test.YtgchgkffoplogaaDg
namespace Go.Proofs.Ytgchgkffoplogaa
open Go.RowKit Go.Proofs.YtgchgkffoplogaaW.PrintWords
set_option linter.unusedVariables false
set_option linter.unusedSimpArgs false

theorem takes_len (T : List Bool) : (takesTo T T.length).length = cnt T := by rw [takesTo_length, List.take_of_length_le (Nat.le_refl _)]
theorem pairs_in (X : List (List Int)) (T : List Bool) (M : List Value) (hl : T.length = M.length) : PairsIn (pairsTo (X.map (rd · 0)) T T.length) M X := by
  intro j hj
  have hm : (pairsTo (X.map (rd · 0)) T T.length).getD j (0, 0) ∈ pairsTo (X.map (rd · 0)) T T.length := by
    rw [List.getD_eq_getElem?_getD, List.getElem?_eq_getElem hj]
    exact List.getElem_mem hj
  obtain ⟨i, hi, e, _⟩ := pairsTo_mem _ T T.length _ hm
  rw [e]
  exact ⟨by simp, by simp only; omega, (rdOf_map X (i : Int)).symm⟩
theorem Step.below {W W' : World} {own own' : Nat → Nat} {t1 t2 t3 n : Nat} (h : Step W W' own own' t1 t2 t3) (hn : n ≤ W.heap.size) (h1 : ∀ k, k < n → own k ≠ t1 ∧ own k ≠ t2) : Below n W W' :=
  ⟨h.os, h.tape, h.output, h.size, fun k hk => h.block k (by omega) (h1 k hk).1 (h1 k hk).2⟩
/-- goes, of a pair and an iterator of its table. -/
theorem pair_goes {W : World} {own : Nat → Nat} {t1 t2 t3 B C base lb : Nat} {X : List (List Int)} {T : List Bool} {it v : Value} {L : List Int} (h : Pair W own t1 t2 t3 B C L T X T) (hl : X.length ≤ 100000) (hI : IterAt base W it (pairsTo (X.map (rd · 0)) T T.length) lb v) (stop : Int) :
    Calls Try.prog 21 #[it, .pointer (some ⟨C, 0, none⟩), .int .i64 stop] W fun e W' => e = .returned (.bool true) ∧ Below W.heap.size W W' := by
  obtain ⟨vL, vT, M, hr⟩ := h.ref
  exact goes_any stop hI hr (fun b e => e.2) (pairsTo_fst _ T T.length).symm (pairs_in X T M hr.len) (by rw [← hr.lenX]; exact hl)
theorem IterAt.below {base : Nat} {W W' : World} {it v : Value} {ps : List (Int × Int)} {lb : Nat} (h : IterAt base W it ps lb v) (hb : Below W.heap.size W W') : IterAt base W' it ps lb v :=
  ⟨h.fn, blk_below h.blk hb, h.row.below hb, h.hi⟩
end Go.Proofs.Ytgchgkffoplogaa
