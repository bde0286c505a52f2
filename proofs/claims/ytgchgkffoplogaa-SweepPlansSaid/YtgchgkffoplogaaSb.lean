/- The walks of container/heap over the free numbers. -/
import Derived.Test.YtgchgkffoplogaaSp
namespace Go.Proofs.Ytgchgkffoplogaa
open Go.RowKit Go.Proofs.YtgchgkffoplogaaW.PrintWords
set_option linter.unusedVariables false

/-- A struct's block whose third cell is a row of numbers; the row's block is another one. -/
structure Third (w : World) (B tS : Nat) (c0 c1 v : Value) (F : List Int) : Prop where
  blk : w.heap[B]? = some (.cells #[c0, c1, v] tS (0, 0))
  row : Row3 w v F
theorem Third.cell {w : World} {B tS : Nat} {c0 c1 v : Value} {F : List Int} (h : Third w B tS c0 c1 v F) : w.cell? ⟨B, 2, none⟩ = some v := blk_cell h.blk 2
theorem Third.free {w : World} {B tS : Nat} {c0 c1 v : Value} {F : List Int} (h : Third w B tS c0 c1 v F) : w.frozen? ⟨B, 2, none⟩ = false := blk_frozen h.blk 2
theorem Third.drewN {w : World} {B tS : Nat} {c0 c1 v : Value} {F : List Int} (h : Third w B tS c0 c1 v F) (q : Nat) : Third (w.drewN q) B tS c0 c1 v F := ⟨h.blk, h.row⟩
theorem Third.ne {w : World} {B tS : Nat} {c0 c1 v : Value} {F : List Int} (h : Third w B tS c0 c1 v F) (ht : 3 ≠ tS) : some B ≠ v.ownBlock := own_ne h.row h.blk ht
/-- What writes the row alone leaves the struct's block. -/
theorem Third.of {w w' : World} {B tS g n c : Nat} {c0 c1 : Value} {F F' : List Int} (h : Third w B tS c0 c1 (.slice (some ⟨g, 0, none⟩) n c) F) (ht : 3 ≠ tS) (hk : Kept (fun k => k = g) w w') (hr : Row3 w' (.slice (some ⟨g, 0, none⟩) n c) F') :
    Third w' B tS c0 c1 (.slice (some ⟨g, 0, none⟩) n c) F' :=
  ⟨(hk.block B (blk_lt h.blk) (fun e => h.ne ht (by rw [e]; rfl))).trans h.blk, hr⟩

set_option maxHeartbeats 800000 in
set_option maxRecDepth 100000 in
theorem up_any (B tS g n c j0 : Nat) (c0 c1 : Value) (F : List Int) (w : World) (ht : 3 ≠ tS) (h : Third w B tS c0 c1 (.slice (some ⟨g, 0, none⟩) n c) F) (hl : n = F.length) (hn : n ≤ 4611686018427387904) (hj : j0 < n) (hI : UpInv F j0) :
    Calls Try.prog 59 #[.iface 70 (.pointer (some ⟨B, 2, none⟩)), .int .i64 j0] w fun e w' => e = .returned (.tuple #[]) ∧ ∃ F', Third w' B tS c0 c1 (.slice (some ⟨g, 0, none⟩) n c) F' ∧ F'.Perm F ∧ Heap F' n ∧ Kept (fun k => k = g) w w' := by
  have HT := Lib.hid h; clear h
  have HI := Lib.hid hI; clear hI
  have Hl := Lib.hid hl; clear hl
  go_enter Try.func59, Try.ntmps59
  go_wp2
  go_loopw [1] (fun i wr => ∃ (j : Nat) (F' : List Int), j < n ∧ i = .int .i64 j ∧ Hid (Third wr B tS c0 c1 (.slice (some ⟨g, 0, none⟩) n c) F') ∧ Hid (F'.Perm F) ∧ Hid (UpInv F' j) ∧ Hid (Kept (fun k => k = g) w wr)) (fun i _ => (intOf i).toNat)
  case atStart => exact ⟨j0, F, hj, rfl, HT, Lib.hid (List.Perm.refl _), HI, Lib.hid (Kept.refl _ _)⟩
  case round =>
    obtain ⟨j, F', hjn, rfl, HT', HP, HI', HK⟩ := hrel
    have hlen : F'.length = n := HP.out.length_eq.trans Hl.out.symm
    have Hlen := Lib.hid hlen; clear hlen
    by_cases h0 : j = 0
    · subst h0
      have hH := HI'.out.last _ _ (.inl rfl)
      rw [Hlen.out] at hH
      have HH := Lib.hid hH; clear hH
      go_wp2
      go_end0
      exact ⟨rfl, F', HT'.out, HP.out, HH.out, HK.out⟩
    · have hi1 : (((j : Int) - 1) / 2) = (((j - 1) / 2 : Nat) : Int) := by omega
      have hin : (j - 1) / 2 < j := by omega
      have hless := fun W h => nless_any (.slice (some ⟨g, 0, none⟩) n c) F' W j ((j - 1) / 2) h (by rw [Hlen.out]; omega) (by rw [Hlen.out]; omega) (by rw [Hlen.out]; omega)
      have hswap := fun W h => nswap_any g n c F' W ((j - 1) / 2) j h Hlen.out.symm (by omega) hjn (by omega)
      have hst := UpInv.step F' j HI'.out (by omega) (by rw [Hlen.out]; omega)
      have hla := fun hd => UpInv.last F' j HI'.out (.inr hd)
      have hpm := swap_perm F' ((j - 1) / 2) j (by rw [Hlen.out]; omega) (by rw [Hlen.out]; omega)
      obtain ⟨i, hi⟩ : ∃ i, (j - 1) / 2 = i := ⟨_, rfl⟩
      rw [hi] at hi1 hin hless hswap hst hla hpm
      clear hi
      have hij : ((i : Int) == (j : Int)) = false := beq_eq_false_iff_ne.2 (by omega)
      have Hless := Lib.hid hless; have Hswap := Lib.hid hswap; have Hst := Lib.hid hst; have Hla := Lib.hid hla; have Hpm := Lib.hid hpm
      clear hless hswap hst hla hpm
      have e1 := m_less ⟨B, 2, none⟩ wr _ HT'.out.cell
      have e2 := fun q => m_swap ⟨B, 2, none⟩ (wr.drewN q) _ (HT'.out.drewN q).cell
      by_cases hlt : rd F' (j : Int) < rd F' (i : Int)
      · have hd : decide (rd F' (j : Int) < rd F' (i : Int)) = true := by simpa using hlt
        go_wp2_with (first | (go_at_call 79; refine (Hless.out _ HT'.out.row).mono ?_; rintro e w1 ⟨rfl, ⟨q, rfl⟩⟩; have e3 := e2 q) | (go_at_call 80; refine (Hswap.out _ (HT'.out.drewN _).row).mono ?_; rintro e w2 ⟨rfl, hr2, hk2⟩))
        go_roundw
        case rel => exact ⟨i, _, by omega, rfl, Lib.hid ((HT'.out.drewN _).of ht hk2 hr2), Lib.hid (Hpm.out.trans HP.out), Lib.hid (Hst.out hlt), Lib.hid (HK.out.trans ((Kept.drewN (Kept.refl _ _) _).trans (hk2.mono (fun k e _ => .inl (.inl e)))))⟩
        case measure => simp [intOf]; omega
      · have hd : decide (rd F' (j : Int) < rd F' (i : Int)) = false := by simpa using hlt
        have hH := Hla.out hlt
        rw [Hlen.out] at hH
        have HH := Lib.hid hH; clear hH
        go_wp2_with (go_at_call 79; refine (Hless.out _ HT'.out.row).mono ?_; rintro e w1 ⟨rfl, ⟨q, rfl⟩⟩; have e3 := e2 q)
        go_end0
        exact ⟨rfl, F', HT'.out.drewN _, HP.out, HH.out, HK.out.drewN _⟩
end Go.Proofs.Ytgchgkffoplogaa
