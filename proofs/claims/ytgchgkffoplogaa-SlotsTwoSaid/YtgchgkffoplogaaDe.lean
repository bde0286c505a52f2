/- does: Get, and a step that is none. -/
import Derived.Test.YtgchgkffoplogaaDd
namespace Go.Proofs.Ytgchgkffoplogaa
open Go.RowKit Go.Proofs.YtgchgkffoplogaaW.PrintWords
set_option linter.unusedVariables false
set_option linter.unusedSimpArgs false

theorem rdOf_map (X : List (List Int)) (n : Int) : rdOf 0 (X.map (rd · 0)) n = rd (rdOf [] X n) 0 := by
  unfold rdOf
  rw [List.getD_eq_getElem?_getD, List.getD_eq_getElem?_getD, List.getElem?_map]
  cases X[n.toNat]? <;> rfl
theorem got_same (X : List (List Int)) (T : List Bool) (n : Int) : (if isT T n then rdOf 0 (X.map (rd · 0)) n else 0) = rd (if isT T n then rdOf [] X n else []) 0 := by
  cases isT T n
  · rfl
  · exact rdOf_map X n

set_option maxRecDepth 100000 in
set_option maxHeartbeats 1600000 in
theorem does_get {W : World} {own : Nat → Nat} {t1 t2 t3 B C : Nat} {X : List (List Int)} {T : List Bool} (h : Pair W own t1 t2 t3 B C (X.map (rd · 0)) T X T) (g : Tags t1 t2 t3) (hl : X.length ≤ 100000) (n v : Int) :
    Calls Try.prog 18 #[.pointer (some ⟨B, 0, none⟩), .pointer (some ⟨C, 0, none⟩), .agg #[.int .i64 2, .int .i64 n, .int .i64 v]] W fun e W' => DoesPost W own t1 t2 t3 B C X e W' := by
  have hb1 : Below W.heap.size W (W.alloc (.cells #[.int .i64 2, .int .i64 n, .int .i64 v] 41)) := below_alloc (Below.refl _ _) _
  have h1 := h.onNew 0 hb1
  have hk1 := blk_new W (.cells #[.int .i64 2, .int .i64 n, .int .i64 v] 41)
  have hg := h1.get_ (by rw [List.length_map]; exact hl) n
  rw [got_same] at hg
  have Hg := Lib.hid hg; have H1 := Lib.hid h1; have Hb1 := Lib.hid hb1; have Hk1 := Lib.hid hk1
  clear h hg h1 hb1 hk1
  go_enter Try.func18, Try.ntmps18
  go_wp2_with (first | (go_at_call 22; refine Hg.out.mono ?_; rintro e w2 ⟨rfl, hb2⟩; have hk2 := blk_below Hk1.out hb2; have c2 := blk_cell hk2 1; have H2 := Lib.hid (H1.out.onNew 0 hb2); have Hs := Lib.hid ((Step.of_below (own := own) (t1 := t1) (t2 := t2) (t3 := t3) Hb1.out (.inl rfl)).trans (Step.of_below hb2 (.inl rfl))); clear hb2 hk2) | (go_at_call 43; refine (H2.out.rget hl n).mono ?_; rintro e w3 ⟨m, rfl, hm, rfl⟩; have Hm := Lib.hid hm; clear hm) | (go_at_call 44; refine (one_any Hm.out).mono ?_; rintro e w4 ⟨rfl, rfl⟩))
  all_goals go_ret
  all_goals exact ⟨rfl, _, X, T, H2.out, Nat.le_succ _, Hs.out⟩

set_option maxRecDepth 100000 in
theorem does_none {W : World} {own : Nat → Nat} {t1 t2 t3 B C : Nat} {X : List (List Int)} {T : List Bool} (h : Pair W own t1 t2 t3 B C (X.map (rd · 0)) T X T) (k n v : Int) (k1 : k ≠ 1) (k2 : k ≠ 2) (k3 : k ≠ 3) (k4 : k ≠ 4) :
    Calls Try.prog 18 #[.pointer (some ⟨B, 0, none⟩), .pointer (some ⟨C, 0, none⟩), .agg #[.int .i64 k, .int .i64 n, .int .i64 v]] W fun e W' => DoesPost W own t1 t2 t3 B C X e W' := by
  have hb1 : Below W.heap.size W (W.alloc (.cells #[.int .i64 k, .int .i64 n, .int .i64 v] 41)) := below_alloc (Below.refl _ _) _
  have h1 := h.onNew 0 hb1
  have H1 := Lib.hid h1; have Hb1 := Lib.hid hb1
  clear h h1 hb1
  have e1 : (k == 1) = false := beq_eq_false_iff_ne.2 k1
  have e2 : (k == 2) = false := beq_eq_false_iff_ne.2 k2
  have e3 : (k == 3) = false := beq_eq_false_iff_ne.2 k3
  have e4 : (k == 4) = false := beq_eq_false_iff_ne.2 k4
  clear k1 k2 k3 k4
  go_enter Try.func18, Try.ntmps18
  go_wp2
  go_ret
  exact ⟨rfl, _, X, T, H1.out, Nat.le_succ _, Step.of_below Hb1.out (.inl rfl)⟩
end Go.Proofs.Ytgchgkffoplogaa
