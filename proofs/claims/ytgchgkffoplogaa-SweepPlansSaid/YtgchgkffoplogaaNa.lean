/- The walks of a nil table's methods; the law SlotsNothing. -/
import Derived.Test.YtgchgkffoplogaaRg
namespace Go.Proofs.Ytgchgkffoplogaa
open Go.RowKit Go.Proofs.YtgchgkffoplogaaW.PrintWords
set_option linter.unusedVariables false
set_option linter.unusedSimpArgs false

theorem nadd_any (w : World) (x : Int) : Calls Try.prog 14 #[.pointer none, .int .i64 x] w fun e w' => e = .returned (.int .i64 (-1)) ∧ w = w' := by
  go_enter Try.func14, Try.ntmps14
  go_wp2
  go_ret
  exact ⟨rfl, rfl⟩
theorem nhigh_any (w : World) : Calls Try.prog 15 #[.pointer none] w fun e w' => e = .returned (.int .i64 0) ∧ w = w' := by
  go_enter Try.func15, Try.ntmps15
  go_wp2
  go_ret
  exact ⟨rfl, rfl⟩
theorem ntlen_any (w : World) : Calls Try.prog 16 #[.pointer none] w fun e w' => e = .returned (.int .i64 0) ∧ w = w' := by
  go_enter Try.func16, Try.ntmps16
  go_wp2
  go_ret
  exact ⟨rfl, rfl⟩
theorem nhas_any (w : World) (i : Int) : Calls Try.prog 40 #[.pointer none, .int .i64 i] w fun e w' => e = .returned (.bool false) ∧ w = w' := by
  go_enter Try.func40, Try.ntmps40
  go_wp2
  go_ret
  exact ⟨rfl, rfl⟩
theorem nget_any (w : World) (i : Int) : Calls Try.prog 22 #[.pointer none, .int .i64 i] w fun e w' => e = .returned (.tuple #[.int .i64 0, .bool false]) ∧ Below w.heap.size w w' := by
  go_enter Try.func22, Try.ntmps22
  go_wp2_with (go_at_call 40; refine (nhas_any _ _).mono ?_; rintro e w1 ⟨rfl, rfl⟩)
  go_ret2
  exact ⟨rfl, below_alloc (Below.refl _ _) _⟩
theorem nset_any (w : World) (i x : Int) : Calls Try.prog 23 #[.pointer none, .int .i64 i, .int .i64 x] w fun e w' => e = .returned (.bool false) ∧ w = w' := by
  go_enter Try.func23, Try.ntmps23
  go_wp2_with (go_at_call 40; refine (nhas_any _ _).mono ?_; rintro e w1 ⟨rfl, rfl⟩)
  go_ret
  exact ⟨rfl, rfl⟩
theorem nfree_any (w : World) (i : Int) : Calls Try.prog 17 #[.pointer none, .int .i64 i] w fun e w' => e = .returned (.bool false) ∧ w = w' := by
  go_enter Try.func17, Try.ntmps17
  go_wp2_with (go_at_call 40; refine (nhas_any _ _).mono ?_; rintro e w1 ⟨rfl, rfl⟩)
  go_ret
  exact ⟨rfl, rfl⟩
theorem nall_any (w : World) : Calls Try.prog 20 #[.pointer none] w fun e w' => ∃ it, e = .returned it ∧ (∃ v, IterAt w.heap.size w' it [] w.heap.size v) ∧ Below w.heap.size w w' := by
  go_enter Try.func20, Try.ntmps20
  go_wp2_with (go_at_call 15; refine (nhigh_any _).mono ?_; rintro e w1 ⟨rfl, rfl⟩)
  go_loop [7] (fun iv => iv = .int .i64 0) (fun _ => 0)
  case atStart => rfl
  case round =>
    subst hrel
    go_wp2
    go_ret
    exact ⟨_, rfl, ⟨_, rfl, blk_new w _, OwnRow.none_ _ _ _ _ _, Nat.le_refl _⟩, below_alloc (Below.refl _ _) _⟩

theorem neq_fn (b : Nat) (W : World) : (binOp .neq 44 (.func (.func 47) #[] #[.pointer (some ⟨b, 0, none⟩)]) Value.nilFunc).run Try.prog W = .ok (.bool true) W := by kernel_rfl

/-- A step's cells. -/
abbrev StepV := Int × Int × Int
def StepR (x : StepV) (cs : List Value) : Prop := cs = [.int .i64 x.1, .int .i64 x.2.1, .int .i64 x.2.2]

/-- Steps that came in: their cells. -/
theorem steps_cells {w : World} {A : Option Addr} {xs : List StepV} (h : ReadsRow StepR 3 w A xs.length xs) (hp : 0 < xs.length) :
    ∃ b o, A = some ⟨b, o, none⟩ ∧ ∀ j : Nat, j < xs.length → w.cell? ⟨b, o + j * 3, none⟩ = some (.int .i64 (xs.getD j (0, 0, 0)).1) ∧ w.cell? ⟨b, o + j * 3 + 1, none⟩ = some (.int .i64 (xs.getD j (0, 0, 0)).2.1) ∧ w.cell? ⟨b, o + j * 3 + 2, none⟩ = some (.int .i64 (xs.getD j (0, 0, 0)).2.2) := by
  have hall : ∀ j : Nat, j < xs.length → ∃ ad, A = some ad ∧ ∀ i u, [Value.int .i64 (xs.getD j (0, 0, 0)).1, .int .i64 (xs.getD j (0, 0, 0)).2.1, .int .i64 (xs.getD j (0, 0, 0)).2.2][i]? = some u → w.cell? (ad.add (j * 3 + i)) = some u := by
    intro j hj
    obtain ⟨ad, cs, hA, _, hR, hc⟩ := h.get_ (0, 0, 0) (j : Int) (by omega) (by omega)
    rw [Int.toNat_natCast] at hR hc
    unfold StepR at hR
    subst hR
    exact ⟨ad, hA, hc⟩
  obtain ⟨ad, hA, h0⟩ := hall 0 hp
  have hz := h0 0 _ rfl
  obtain ⟨b, o, sp⟩ := ad
  have hsp : sp = none := by
    simp only [Nat.zero_mul, Nat.add_zero] at hz
    unfold Addr.add at hz
    rw [if_pos rfl] at hz
    unfold World.cell? at hz
    cases sp with
    | none => rfl
    | some k => split at hz <;> simp at hz
  subst hsp
  refine ⟨b, o, hA, fun j hj => ?_⟩
  obtain ⟨ad2, hA2, h2⟩ := hall j hj
  rw [hA] at hA2
  injection hA2 with hA2
  subst hA2
  have c0 := h2 0 _ rfl; have c1 := h2 1 _ rfl; have c2 := h2 2 _ rfl
  rw [add_at] at c0 c1 c2
  exact ⟨c0, c1, c2⟩

theorem ref_new (w : World) (ok okE : Nat → Prop) (h : ok w.heap.size) : RefAt (w.alloc (.cells #[.slice none 0 0, .slice none 0 0] 38)) w.heap.size ok okE (.slice none 0 0) (.slice none 0 0) [] [] [] :=
  ⟨blk_new w _, own_nil _ _ _ _, own_nil _ _ _ _, rfl, rfl, fun i m xs h1 _ => by simp at h1, h, fun k e => by simp [Value.ownBlock] at e, fun k e => by simp [Value.ownBlock] at e⟩

set_option maxRecDepth 100000 in
set_option maxHeartbeats 1600000 in
theorem nothing_law (A : Option Addr) (cA : Nat) (xs : List StepV) (w : World) (hx : ReadsRow StepR 3 w A xs.length xs) :
    Calls Try.prog 5 #[.slice A xs.length cA] w fun e w' => e = .returned (.bool true) ∧ Below w.heap.size w w' := by
  by_cases hlx : 400 < xs.length
  · go_enter Try.func5, Try.ntmps5
    go_wp2_with (go_at_call 12; refine (awake12_any _).mono ?_; rintro e w3 ⟨rfl, hb⟩)
    go_ret
    exact ⟨rfl, hb⟩
  have Hx := Lib.hid hx; clear hx
  go_enter Try.func5, Try.ntmps5
  go_wp2
  go_loopw [4] (fun iv wr => ∃ j : Nat, j ≤ xs.length ∧ iv = .int .i64 j ∧ Hid (Below w.heap.size w wr)) (fun iv _ => xs.length - (intOf iv).toNat)
  case atStart => exact ⟨0, Nat.zero_le _, rfl, Lib.hid (Below.refl _ _)⟩
  case round =>
    obtain ⟨j, hj, rfl, HB⟩ := hrel
    by_cases hlt : j < xs.length
    · obtain ⟨b, o, rfl, hcells⟩ := steps_cells Hx.out (by omega)
      obtain ⟨c0, c1, c2⟩ := hcells j hlt
      replace c0 := pw_cell_below HB.out c0; replace c1 := pw_cell_below HB.out c1; replace c2 := pw_cell_below HB.out c2
      clear hcells
      generalize (xs.getD j (0, 0, 0)) = x at *
      have p0 : (0 : Int) ≤ (j : Int) := by omega
      have p1 : (j : Int) < (xs.length : Int) := by omega
      have hb0 := below_alloc HB.out (.cells #[.int .i64 x.1, .int .i64 x.2.1, .int .i64 x.2.2] 41)
      have hblk := blk_new wr (.cells #[.int .i64 x.1, .int .i64 x.2.1, .int .i64 x.2.2] 41)
      have Hb0 := Lib.hid hb0; have Hblk := Lib.hid hblk
      clear hb0 hblk
      go_wp2_with (first | (go_at_call 22; refine (nget_any _ _).mono ?_; rintro e w1 ⟨rfl, hb1⟩; have hk1 := blk_below Hblk.out hb1; have d1 := blk_cell hk1 1; have d2 := blk_cell hk1 2; have HB1 := Lib.hid (below_then Hb0.out Hb0.out.size hb1); clear hb1 hk1) | (go_at_call 14; refine (nadd_any _ _).mono ?_; rintro e w2 ⟨rfl, rfl⟩) | (go_at_call 23; refine (nset_any _ _ _).mono ?_; rintro e w2 ⟨rfl, rfl⟩) | (go_at_call 17; refine (nfree_any _ _).mono ?_; rintro e w2 ⟨rfl, rfl⟩) | (go_at_call 16; refine (ntlen_any _).mono ?_; rintro e w2 ⟨rfl, rfl⟩) | (go_at_call 15; refine (nhigh_any _).mono ?_; rintro e w2 ⟨rfl, rfl⟩))
      go_roundw
      case rel => exact ⟨j + 1, by omega, by go_num, HB1⟩
      case measure => simp [intOf]; omega
    · have hnf := neq_fn wr.heap.size
      go_wp2_with (first | (go_at_call 20; refine (nall_any _).mono ?_; rintro e w1 ⟨it, rfl, ⟨v, hI⟩, hb1⟩; obtain rfl := hI.fn; have HI := Lib.hid hI; have HB1 := Lib.hid (below_then HB.out HB.out.size hb1); clear hI hb1) | (go_at_call 21; refine (goes_any (ok := fun _ => True) (okE := fun _ => False) 0 ⟨HI.out.fn, blk_alloc HI.out.blk _, HI.out.row.below (below_alloc (Below.refl _ _) _), HI.out.hi⟩ (ref_new _ _ _ trivial) (fun b hb => hb.elim) rfl (fun q hq => absurd hq (Nat.not_lt_zero q)) (Nat.zero_le _)).mono ?_; rintro e w2 ⟨rfl, hb2⟩; have HB2 := Lib.hid (below_then (below_alloc HB1.out (.cells #[.slice none 0 0, .slice none 0 0] 38)) (below_alloc HB1.out (.cells #[.slice none 0 0, .slice none 0 0] 38)).size hb2); clear hb2) | (go_at_call 12; refine (awake12_any _).mono ?_; rintro e w3 ⟨rfl, hb3⟩; have HB3 := Lib.hid (below_then HB2.out HB2.out.size hb3); clear hb3))
      go_ret
      exact ⟨rfl, HB3.out⟩
end Go.Proofs.Ytgchgkffoplogaa
