/- Plans: Force. -/
import Derived.Test.YtgchgkffoplogaaPa
namespace Go.Proofs.Ytgchgkffoplogaa
open Go.RowKit Go.Maps Go.Proofs.YtgchgkffoplogaaW.PrintWords
set_option linter.unusedVariables false
set_option linter.unusedSimpArgs false

theorem tally_append (y x : Int) (l : List Int) : tally y (l ++ [x]) = tally y l + if x = y then 1 else 0 := by
  unfold tally
  rw [List.countP_append]
  by_cases e : x = y
  · simp [e]
  · simp [e]
theorem tally_le (y : Int) (l : List Int) : tally y l ≤ l.length := List.countP_le_length
theorem counts_nil : Counts (.map []) [] := fun y => rfl
theorem counts_step {D : DataW Unit} {l : List Int} (hD : IsMap D) (h : Counts D l) (x : Int) : Counts (D.put (.int .i64 x) (.lit (.int .i64 ((tally x l : Nat) + 1 : Int)))) (l ++ [x]) := by
  intro y
  rw [tally_append]
  by_cases e : x = y
  · subst e
    rw [atKey_put_same hD (show WideAt.IsKeyLit (.int .i64 x) from trivial), if_pos rfl]
    simp
  · rw [atKey_put_other (fun e' => e (by injection e' with _ e'; exact e'.symm)), h y, if_neg e]
    simp
theorem take_snoc (xs : List Int) (k : Nat) (hk : k < xs.length) : xs.take (k + 1) = xs.take k ++ [rd xs (k : Int)] := by
  rw [List.take_add_one, List.getElem?_eq_getElem hk]
  simp [rd, List.getD_eq_getElem?_getD, List.getElem?_eq_getElem hk]

set_option maxRecDepth 100000 in
set_option maxHeartbeats 800000 in
theorem force_any {w : World} (A : Option Addr) (cA : Nat) (xs : List Int) (hr : ReadsInt w .i64 A xs.length xs) (hl : xs.length ≤ 1000) (hwf : ∀ x ∈ xs, (Lit.int .i64 x).wf = true) :
    Calls Try.prog 36 #[.slice A xs.length cA] w fun e w' => e = .returned (.pointer (some ⟨w.heap.size + 1, 0, none⟩)) ∧ (∃ n D, PlanAt w' (w.heap.size + 1) w.heap.size n D ((0 : Nat) : Int) ∧ Counts D xs) ∧ Below w.heap.size w w' := by
  have hmm := @run_makeMap Try.prog
  have Hr := Lib.hid hr; have Hwf := Lib.hid hwf
  clear hr hwf
  go_enter Try.func36, Try.ntmps36
  go_wp2
  have hp0 : PlanAt ((w.alloc (.map #[] 0)).alloc (.cells #[.map (some w.heap.size), .int .i64 0] 67)) (w.heap.size + 1) w.heap.size 0 (.map []) ((0 : Nat) : Int) := by
    refine ⟨?_, map_move (World.ownsMap_made w _ _ _) ?_⟩
    · have := blk_new (w.alloc (.map #[] 0)) (.cells #[.map (some w.heap.size), .int .i64 0] 67)
      rw [World.size_alloc] at this; exact this
    · exact (below_alloc (Below.refl (w.alloc (.map #[] 0)).heap.size _) _).block _ (by simp)
  have Hp0 := Lib.hid hp0
  clear hp0
  go_loopw [11] (fun iv wr => ∃ (k n : Nat) (D : DataW Unit), k ≤ xs.length ∧ n ≤ k ∧ iv = .int .i64 k ∧ Hid (PlanAt wr (w.heap.size + 1) w.heap.size n D ((0 : Nat) : Int)) ∧ Hid (Counts D (xs.take k)) ∧ Hid (Below w.heap.size w wr)) (fun iv _ => xs.length - (intOf iv).toNat)
  case atStart => exact ⟨0, 0, .map [], Nat.zero_le _, Nat.le_refl _, rfl, Hp0, Lib.hid (by simpa using counts_nil), Lib.hid (below_alloc (below_alloc (Below.refl _ _) _) _)⟩
  case round =>
    obtain ⟨k, n, D, hk, hnk, rfl, HP, HC, HB⟩ := hrel
    clear Hp0
    by_cases hlt : k < xs.length
    · obtain ⟨ad, rfl, hcell⟩ := (Hr.out.below HB.out).at_ (k : Int) (by omega) (by omega)
      rw [Int.toNat_natCast] at hcell
      have hxw := Hwf.out _ (rd_mem xs k hlt)
      have htk := take_snoc xs k hlt
      have p0 : (0 : Int) ≤ (k : Int) := by omega
      have p1 : (k : Int) < (xs.length : Int) := by omega
      have c0 := blk_cell HP.out.blk 0
      generalize rd xs (k : Int) = x at *
      have hst := counts_step HP.out.map.isMap HC.out x
      rw [← htk] at hst
      obtain ⟨t, ht⟩ : ∃ t, t = tally x (xs.take k) := ⟨_, rfl⟩
      have hatx := HC.out x
      rw [← ht] at hst hatx
      have ht1 : t ≤ 1000 := by rw [ht]; have := tally_le x (xs.take k); rw [List.length_take] at this; omega
      have Hkey := Lib.hid (keyOf_int_mk Try.underlying3 hxw)
      have Hst := Lib.hid hst; have Hat := Lib.hid hatx
      clear hst hatx ht htk hxw
      have hrunx : ∀ W : World, W.heap[w.heap.size]? = wr.heap[w.heap.size]? → (Instr.lookup 65 (.map (some w.heap.size)) (.int .i64 x) false).run Try.prog W = .ok (.int .i64 t) W := fun W e => by
        obtain ⟨c, hrun, hat, _⟩ := (map_move HP.out.map e).lookup_int law3 Try.underlying65 Try.underlying3 (zero3m _) Hkey.out
        rw [Hat.out] at hat
        injection hat with hat
        injection hat with _ hat
        rw [hrun, ← hat]
      have hrunx' := hrunx wr rfl
      clear hrunx
      go_wp2_with (first | (at_mapUpdate; refine wpList_mapUpdate_own _ rfl _ _ _ 65 rfl 3 3 law3 Try.underlying65 _ w.heap.size n _ rfl HP.out.map (by unfold maxLen; omega) _ _ _ rfl rfl Hkey.out _ [] (plainElem_int Try.underlying3 (WalkArith.wf_i64 (by omega))) ?_; intro w1 hown1 hgrow1) | go_in)
      go_roundw
      case rel =>
        refine ⟨k + 1, n + 1, _, by omega, by omega, by go_num, Lib.hid ⟨?_, hown1⟩, Hst, Lib.hid (HB.out.grown hgrow1 HB.out.size (fun j hj => by cases hj; exact Nat.le_refl _))⟩
        exact blk_grown HP.out.blk hgrow1 (by simp)
      case measure => simp [intOf]; omega
    · have hkl : k = xs.length := by omega
      have HK := Lib.hid hkl
      have p1 : ¬ (k : Int) < (xs.length : Int) := by omega
      clear hkl
      go_wp2
      go_ret
      exact ⟨rfl, ⟨n, D, HP.out, by have h := HC.out; rwa [HK.out, List.take_of_length_le (Nat.le_refl _)] at h⟩, HB.out⟩
end Go.Proofs.Ytgchgkffoplogaa
