/- The document's own trim (turned from the seat of law3 by port_dd.py). -/
import Derived.Test.YtiofeehcnegejaaDoorWhY
namespace Go.Proofs.YtiofeehcnegejaaDoor
open Go.RowKit Go.Proofs.YtiofeehcnegejaaDoorW.PrintWords
set_option linter.unusedVariables false
/-- What the document's trim leaves: a row of its own. -/
def Own32 (W : World) (base : Nat) (v : Value) (xs : List Int) : Prop := W.ownsRow base 62 1 v xs.length (nums .u32 xs)

set_option maxHeartbeats 400000 in
set_option maxRecDepth 100000 in
theorem refTrim_any (A : Option Addr) (n c : Nat) (xs : List Int) (w : World) (hr : ReadsInt w .u32 A n xs) (hc : n ≤ c) (hn : n * 4 ≤ 140737488355328) :
    Calls Tryd.prog 49 #[.slice A n c] w fun e w' => ∃ v, e = .returned v ∧ Own32 w' w.heap.size v (xs.take (trimLen xs)) ∧ Below w.heap.size w w' := by
  have hl : xs.length = n := hr.1
  have Hl := Lib.hid hl; clear hl
  have Hr := Lib.hid hr; clear hr
  obtain ⟨i0, hi0, _, _, _⟩ := info_parts info62
  go_enter Tryd.func49, Tryd.ntmps49
  go_wp2
  go_loopw [3] (fun v wr => ∃ m : Nat, m ≤ n ∧ v = .int .i64 m ∧ Hid (trimLen (xs.take m) = trimLen xs) ∧ ∃ q, wr = w.drewN q) (fun v _ => (intOf v).toNat)
  case atStart => exact ⟨n, Nat.le_refl _, rfl, Lib.hid (by rw [List.take_of_length_le (by rw [Hl.out]; omega)]), 0, rfl⟩
  case round =>
    obtain ⟨m, hm, rfl, HT, q, rfl⟩ := hrel
    have hstop : trimLen xs = m → True := fun _ => trivial
    by_cases h0 : m = 0
    · subst h0
      have hT : trimLen xs = 0 := by have := HT.out; simpa [trimLen_nil] using this.symm
      have HT' := Lib.hid hT; clear hT HT
      have hcut := cut_to (P := Tryd.prog) 22 62 .i64 Tryd.underlying22 hi0 A n c 0 (by omega) (by omega) hc
      have hT0 : xs.take 0 = xs.take (trimLen xs) := by rw [HT'.out]
      have HT0 := Lib.hid hT0; clear hT0
      go_wp2_with (at_builtin; refine print_append_row (w0 := w) w.heap.size rfl (.tmp 19) (.tmp 22) 22 62 .u32 4 rfl Tryd.underlying22 info62 (by decide) (.slice none 0 0) [] (xs.take 0) A 0 c rfl rfl (own_nil _ _ _ _) ((Hr.out.take_ 0 (by omega)).below (pw_below_drewN (Below.refl _ w) q)) (pw_below_drewN (Below.refl _ w) q) (Nat.le_refl _) (by simp) ?_; intro v1 w1 hown hb1 hg1 _)
      go_ret
      exact ⟨_, rfl, by rw [← HT0.out]; exact hown, hb1⟩
    · obtain ⟨m, rfl⟩ : ∃ k, m = k + 1 := ⟨m - 1, by omega⟩
      obtain ⟨ad, rfl, hcell⟩ := Hr.out.at_ (m : Int) (by omega) (by omega)
      rw [Int.toNat_natCast] at hcell
      have ht := take_succ_rd xs m (by rw [Hl.out]; omega)
      have HTk := Lib.hid ht; clear ht
      by_cases hz : rd xs m = 0
      · have hT : trimLen (xs.take m) = trimLen xs := by have := HT.out; rw [HTk.out, hz, trimLen_zero] at this; exact this
        have HT' := Lib.hid hT; clear hT HT HTk
        have hz' : (rd xs m == 0) = true := beq_iff_eq.2 hz
        clear hz h0
        go_wp2
        go_roundw
        case rel => exact ⟨m, by omega, by go_num, HT', q, rfl⟩
        case measure => simp [intOf]
      · have hT : trimLen xs = m + 1 := by have := HT.out; rw [HTk.out, trimLen_not _ _ hz, List.length_take, Nat.min_eq_left (by rw [Hl.out]; omega)] at this; exact this.symm
        have HT' := Lib.hid hT; clear hT HT HTk
        have hz' : (rd xs m == 0) = false := beq_eq_false_iff_ne.2 hz
        clear hz h0
        have hcut := cut_to (P := Tryd.prog) 22 62 .i64 Tryd.underlying22 hi0 (some ad) n c ((m : Int) + 1) (by omega) (by omega) hc
        rw [show ((m : Int) + 1).toNat = m + 1 by omega] at hcut
        have hT0 : xs.take (m + 1) = xs.take (trimLen xs) := by rw [HT'.out]
        have HT0 := Lib.hid hT0; clear hT0
        go_wp2_with (at_builtin; refine print_append_row (w0 := w) w.heap.size rfl (.tmp 19) (.tmp 22) 22 62 .u32 4 rfl Tryd.underlying22 info62 (by decide) (.slice none 0 0) [] (xs.take (m + 1)) (some ad) (m + 1) c rfl rfl (own_nil _ _ _ _) ((Hr.out.take_ (m + 1) hm).below (pw_below_drewN (Below.refl _ w) q)) (pw_below_drewN (Below.refl _ w) q) (Nat.le_refl _) (by simp; omega) ?_; intro v1 w1 hown hb1 hg1 _)
        go_ret
        exact ⟨_, rfl, by rw [← HT0.out]; exact hown, hb1⟩
end Go.Proofs.YtiofeehcnegejaaDoor
