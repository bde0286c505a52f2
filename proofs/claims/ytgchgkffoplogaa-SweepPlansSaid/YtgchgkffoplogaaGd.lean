/- taken: the table has what the document's slots have. -/
import Derived.Test.YtgchgkffoplogaaGc
namespace Go.Proofs.Ytgchgkffoplogaa
open Go.RowKit Go.Proofs.YtgchgkffoplogaaW.PrintWords
set_option linter.unusedVariables false
set_option linter.unusedSimpArgs false

theorem takes_mem (T : List Bool) : ∀ (i : Nat) (x : Int), x ∈ takesTo T i → ∃ j : Nat, j < i ∧ x = (j : Int) ∧ T.getD j false = true
  | 0, x, h => by simp [takesTo] at h
  | i + 1, x, h => by
    rw [takesTo, List.mem_append] at h
    rcases h with h | h
    · obtain ⟨j, hj, e⟩ := takes_mem T i x h
      exact ⟨j, by omega, e⟩
    · split at h
      · rename_i hb
        exact ⟨i, by omega, List.mem_singleton.1 h, hb⟩
      · cases h
theorem isT_of {T : List Bool} {j : Nat} (h : T.getD j false = true) : isT T (j : Int) = true := by simp [isT, rdOf] at h ⊢; exact h
theorem takes_len2 (T : List Bool) : (takesTo T T.length).length = cnt T := by rw [takesTo_length, List.take_of_length_le (Nat.le_refl _)]

set_option maxRecDepth 100000 in
set_option maxHeartbeats 1600000 in
theorem taken_any {w W : World} {own : Nat → Nat} {B C : Nat} {L : List V.El} {T : List Bool} {X : List (List Int)} (h : Laid w W own B C L T X T X) (hl : L.length ≤ 100000) :
    Calls Try.prog 31 #[.pointer (some ⟨B, 0, none⟩), .pointer (some ⟨C, 0, none⟩)] W fun e W' => e = .returned (.bool true) ∧ Below W.heap.size W W' := by
  obtain ⟨vL, vT, M, hr⟩ := h.ref
  have hTL := h.tab.len
  have hMl : M.length ≤ 100000 := by rw [← hr.lenX, h.lenX]; exact hl
  have hall := refAll_any hr hMl
  have hlen := fun W' (hb : Below W.heap.size W W') => V.tlen_any (h.tab.below hb) hl
  have hget := fun W' (hb : Below W.heap.size W W') (i : Int) (ht : isT T i = true) => tget_taken (h.tab.below hb) hl i ht
  have hc : W.cell? ⟨C, 0, none⟩ = some vL := blk_cell hr.blk 0
  obtain ⟨A0, c0, rfl⟩ := own_slice hr.rl
  have hcn := takes_len2 T
  have Hall := Lib.hid hall; have Hlen := Lib.hid hlen; have Hget := Lib.hid hget; have Hr := Lib.hid hr; have Hc := Lib.hid hc; have H := Lib.hid h; have Hcn := Lib.hid hcn; have HTL := Lib.hid hTL
  clear hall hlen hget hr h hcn hTL
  go_enter Try.func31, Try.ntmps31
  go_wp2_with (first | (go_at_call 19; refine Hall.out.mono ?_; rintro e w1 ⟨v, rfl, hown, hb1⟩; rw [Hcn.out] at hown; obtain ⟨A, c, rfl⟩ := own_slice hown; have Hown := Lib.hid hown; have HB1 := Lib.hid hb1; clear hown hb1) | (go_at_call 34; refine (Hlen.out _ HB1.out).mono ?_; rintro e w2 ⟨rfl, q, rfl⟩))
  obtain ⟨n, hn⟩ : ∃ n, n = cnt T := ⟨_, rfl⟩
  have hro : (w1.drewN q).ownsRow W.heap.size 3 1 (.slice A n c) n (nums .i64 (takesTo T T.length)) := by rw [hn]; exact own_move Hown.out (fun _ _ => rfl)
  have hbo := pw_below_drewN HB1.out q
  have hnl : (takesTo T T.length).length = n := by rw [hn]; exact Hcn.out
  rw [← hn]
  have hnT : n ≤ T.length := by rw [← hnl]; exact takesTo_le _ _
  have hn1 : n ≤ 100000 := by have := HTL.out; omega
  have Hro := Lib.hid hro; have Hbo := Lib.hid hbo; have Hnl := Lib.hid hnl
  clear hn hro hbo hnl Hcn Hown HB1 hc
  generalize w1.drewN q = w3 at *
  go_loopw [6] (fun iv wr => ∃ i : Nat, i ≤ n ∧ iv = .int .i64 i ∧ Hid (wr.ownsRow W.heap.size 3 1 (.slice A n c) n (nums .i64 (takesTo T T.length))) ∧ Hid (Below W.heap.size W wr)) (fun iv _ => n - (intOf iv).toNat)
  case atStart => exact ⟨0, Nat.zero_le _, rfl, Hro, Hbo⟩
  case round =>
    obtain ⟨i, hi, rfl, HO, HB⟩ := hrel
    clear Hro Hbo
    by_cases hlt : i < n
    · obtain ⟨g, c1, hform, _, _⟩ := HO.out.form (by omega)
      injection hform with e1 _ e3
      subst e1; subst e3
      obtain ⟨hcell, _⟩ := own_at HO.out (i : Int) (by omega) (by omega)
      rw [Int.toNat_natCast] at hcell
      obtain ⟨j, hjT, hj, hTj⟩ := takes_mem T T.length _ (rd_mem (takesTo T T.length) i (by rw [Hnl.out]; exact hlt))
      rw [hj] at hcell
      have hT := isT_of hTj
      have hjL : j < L.length := by have := HTL.out; omega
      have hlX := H.out.lenX
      have hMX := Hr.out.lenX
      obtain ⟨m, hLm⟩ : ∃ m, L[j]? = some m := ⟨L[j], List.getElem?_eq_getElem hjL⟩
      obtain ⟨xs, hXx⟩ : ∃ xs, X[j]? = some xs := ⟨X[j]'(by omega), List.getElem?_eq_getElem _⟩
      obtain ⟨Ae, ce, hme, hce, hre, _⟩ := (H.out.el j m xs hLm hXx)
      have hrm : rdOf V.zE L (j : Int) = m := by simp [rdOf, List.getD_eq_getElem?_getD, hLm]
      obtain ⟨gM, cM, hvM, hcM, _, helM⟩ := ref_elem Hr.out (j : Int) (by omega) (by omega)
      injection hvM with f1 _ f3
      subst f1; subst f3
      have hxm : rdOf [] X (j : Int) = xs := by simp [rdOf, List.getD_eq_getElem?_getD, hXx]
      rw [hxm] at helM
      obtain ⟨Am, cm, hmm, _, hrM, _⟩ := helM
      rw [hmm, Int.toNat_natCast] at hcM
      have hcM2 := pw_cell_below HB.out hcM
      have hcC2 := pw_cell_below HB.out Hc.out
      have hget : Calls Try.prog 54 #[.pointer (some ⟨B, 0, none⟩), .int .i64 j] wr fun e w' => e = .returned (.tuple #[.slice Ae xs.length ce, .bool true]) ∧ wr = w' := by
        have h := Hget.out wr HB.out (j : Int) hT
        rw [hrm, hme] at h
        exact h
      have hsame : ∀ q : Nat, Calls Try.prog 29 #[.slice Ae xs.length ce, .slice Am xs.length cm] (wr.drewN q) fun e w' => e = .returned (.bool true) ∧ ∃ m, w' = (wr.drewN q).drewN m := fun q =>
        same_any Ae Am ce cm xs (wr.drewN q) (hre.below (pw_below_drewN HB.out q)) (hrM.below (pw_below_drewN HB.out q))
      have p0 : (0 : Int) ≤ (i : Int) := by omega
      have p1 : (i : Int) < (n : Int) := by omega
      have p2 : (0 : Int) ≤ (j : Int) := by omega
      have p3 : (j : Int) < (M.length : Int) := by omega
      have Hg := Lib.hid hget; have Hsame := Lib.hid hsame
      clear hget hsame hre hrM hxm hrm hLm hXx hme hmm hj hTj hT hcM hlX hMX
      go_upto_region 8 with (go_at_call 54; refine Hg.out.mono ?_; rintro e w5 ⟨rfl, rfl⟩)
      go_quiet (first | (go_at_call 29; refine Calls.quiet_of (Hsame.out _)))
      go_wp2
      go_roundw
      case rel => exact ⟨i + 1, by omega, by go_num, Lib.hid (own_move HO.out (fun _ _ => rfl)), Lib.hid (pw_below_drewN HB.out nq)⟩
      case measure => simp [intOf]; omega
    · have hz : ¬ (i : Int) < (n : Int) := by omega
      go_wp2
      go_ret
      exact ⟨rfl, HB.out⟩
end Go.Proofs.Ytgchgkffoplogaa
