/- For every row of ints the law DigestRows answers true and leaves its argument as it was. No condition. -/
import Derived.Test.YtiofeehcnegejaaRows
import Derived.WalkKit
import Derived.ProofKit
import Derived.OpenShut
import Derived.Test.YtiofeehcnegejaaDigP
import Derived.ShutString
import Derived.ChangeOld
import Derived.Below
namespace Go.Proofs.Ytiofeehcnegejaa.digestRows
open Go.ChangeShapes Go.WideShapes Go.ChangeAt Go.RowKit
open Go.Proofs.Ytiofeehcnegejaa Go.Proofs.YtiofeehcnegejaaW.PrintWords
open Go.ChangeMaps (open_string shut_string)
set_option linter.unusedVariables false

theorem own : ownKnob Try.prog.godebug = none := by kernel_rfl
theorem laidOut : laidOutB Try.prog = true := by kernel_rfl

/-- WHAT THE WALK IS TOLD OF A SLICE OF INTEGERS THAT CAME IN: it is nil; or it leads to a row of 'cap' cells, the numbers 'zs' (the first 'len' are its elements, the rest its spare room), each fitting its kind. -/
def IsRow (k : IntKind) (w : World) (a : Option Addr) (len cap : Nat) (zs : List Int) : Prop :=
  (a = none ∧ len = 0 ∧ cap = 0 ∧ zs = []) ∨
  ∃ x, a = some x ∧ len ≤ cap ∧ cap ≤ maxLen ∧ zs.length = cap ∧ (∀ i, i < zs.length → w.cell? (x.add i) = some (.int k (zs.getD i 0))) ∧ ∀ n ∈ zs, (Lit.int k n).wf = true

/-! ### The walk -/
theorem walk (a0 : Option Addr) (len0 cap0 : Nat) (z0 : List Int) (w : World) (w0 : IsRow .i64 w a0 len0 cap0 z0) :
    Calls Try.prog 7 #[.slice a0 len0 cap0] w fun e w' => e = .returned (.bool true) ∧ Below w.heap.size w w' := by
  obtain ⟨hr, hlc, hlm⟩ := row_reads w0
  clear w0
  by_cases hl : 3000 < len0
  · have Hb := Steps0.refl w
    go_enter Try.func7, Try.ntmps7
    go_wp2_with (go_at_call 8; refine (awake_any _).mono ?_; rintro e w3 ⟨rfl, hb⟩; have HB := Hb.step hb; clear Hb; have Hb := HB; clear HB hb)
    go_ret
    exact ⟨rfl, Hb.out⟩
  generalize z0.take len0 = zs at *
  have hzl : zs.length = len0 := hr.1
  subst hzl
  obtain ⟨i0, hi0, _, _, _⟩ := info_parts info3
  have ht := hashI_ne (tupEnd (foldW tupStep 2870177450012600261 zs) zs.length) 1546275796 (by decide)
  have hf := hashI_ne (frozEnd (foldW frozStep 0 zs) zs.length) 590923713 (by decide)
  have ht1 : (tupI zs != -1) = true := by rw [bne_iff_ne]; exact ht
  have hf1 : (frozI zs != -1) = true := by rw [bne_iff_ne]; exact hf
  clear ht hf
  have Hr := Lib.hid hr; clear hr
  go_enter Try.func7, Try.ntmps7
  go_wp2_with (first | (at_builtin; refine print_append_row (w0 := w) w.heap.size rfl (.tmp 10) (.tmp 11) 35 3 .i64 8 rfl Try.underlying35 info3 (by decide) (.slice none 0 0) [] zs a0 zs.length cap0 rfl rfl (own_nil _ _ _ _) Hr.out (Below.refl _ _) (Nat.le_refl _) (by simp; omega) ?_; intro v1 w1 hown1 hb1 hg1 _; rw [List.nil_append] at hown1; have hz1 := hb1.size) | (at_builtin; refine print_append_num (w0 := w) w.heap.size rfl (.tmp 13) (.tmp 14) 35 3 .i64 8 rfl Try.underlying35 info3 (by decide) v1 zs 77 rfl rfl hown1 hb1 hz1 (by omega) ?_; intro v2 w2 hown2 hb2 _ _; obtain ⟨g, c2, rfl, hcut, hr2, h77⟩ := rows_in hi0 hown2; have Hb : Steps0 w w2 := ⟨hb2⟩; have Hc := Steps0.refl w2; have Hr2 := Lib.hid hr2; clear hr2) | (go_at_call 19; refine (tuple_any _ _ _ zs _ (Hr2.out.below Hc.out) hlm).mono ?_; rintro e w3 ⟨rfl, hb⟩; have HB := Hb.step hb; have HC := Hc.step hb; clear Hb Hc hb; have Hb := HB; have Hc := HC; clear HB HC) | (go_at_call 18; refine (frozen_any _ _ _ zs _ (Hr2.out.below Hc.out) hlm).mono ?_; rintro e w3 ⟨rfl, hb⟩; have HB := Hb.step hb; have HC := Hc.step hb; clear Hb Hc hb; have Hb := HB; have Hc := HC; clear HB HC) | (go_at_call 20; refine (refTuple_any _ _ _ zs _ (Hr.out.below Hb.out) hlm).mono ?_; rintro e w3 ⟨rfl, rfl⟩) | (go_at_call 21; refine (refFrozen_any _ _ _ zs _ (Hr.out.below Hb.out) hlm).mono ?_; rintro e w3 ⟨rfl, rfl⟩) | (go_at_call 22; refine (same_any _ _ _ _ _ zs _ (Hr2.out.below Hc.out) (Hr.out.below Hb.out) hlm).mono ?_; rintro e w3 ⟨rfl, q, rfl⟩; have HB := Hb.drewN q; have HC := Hc.drewN q; clear Hb Hc; have Hb := HB; have Hc := HC; clear HB HC; have h77' := (Hc.out.cell (p := ⟨g, zs.length, none⟩) (World.block_lt_of_cell? w2 _ h77)).trans h77) | (go_at_call 8; refine (awake_any _).mono ?_; rintro e w3 ⟨rfl, hb⟩; have HB := Hb.step hb; clear Hb; have Hb := HB; clear HB hb))
  go_ret
  exact ⟨rfl, Hb.out⟩

/-! ### The row -/
set_option maxRecDepth 100000 in
theorem lifted (os : Os) (started : os.Started) (H : Type) (enc : TypeId × Value → H) :
    ReturnsInHanded {} Try.checked os 7 .any (Rows.digestRowsSpec.pre6 enc Try.prog Try.f7 Rows.digestRowsRow.domain false) (Rows.digestRowsSpec.post enc Try.prog Try.f7 false true false false) := by
  refine returnsInHanded_of_change (C := Try.checked) own started (by kernel_rfl) Try.func7
    (ChangeSpec.witness6 (enc := enc) (C := Try.checked) false ⟨#[], #[.slice none 0 0], []⟩ 8 (by kernel_rfl) (by kernel_rfl) (by kernel_rfl) (by kernel_rfl)) ?_
  intro W base args ds gs before hval0 hW hcnd _
  have hval : ∀ (j : Nat) t v, Try.f7.params[j]? = some t → args[j]? = some v → Value.okWide Try.prog W .any base t v := hval0
  have hW' := hW
  obtain ⟨p, q, hA0, hV, rfl, hfz, hnd⟩ := hW
  have hA : DataW.TrodAll enc Try.prog W 0 (fun _ => true) true Try.f7.params.toList args.toList ds p := hA0
  rw [Try.params7] at hA hval
  obtain ⟨v0, vs0, d0, ds0, p0, q0, hargs, rfl, rfl, h0, r0⟩ := trodAll_cons hA
  obtain ⟨rfl, rfl, rfl⟩ := trodAll_nil r0
  obtain rfl : args = #[v0] := by cases args; simp_all
  obtain ⟨rfl, rfl⟩ := trodVars_none hV
  obtain ⟨a0, len0, cap0, rfl⟩ := okWide_slice Try.underlying35 (hval 0 35 v0 rfl rfl)
  have k0 := h0
  have lt0 : ∀ x ∈ p0, x.block < W.heap.size := by obtain ⟨m, hm⟩ := k0; exact DataW.trod_lt m _ _ _ hm
  obtain ⟨z0, w0⟩ : ∃ zs, IsRow .i64 W a0 len0 cap0 zs := by
    obtain ⟨fuel, hf⟩ := h0
    rcases open_ints Try.underlying35 Try.underlying3 (by kernel_rfl) hf with ⟨hcs, _⟩ | ⟨x, l, c, zs, hcs, _, hl, hm, hz, _, hcell, hwz⟩
    · simp [Value.cells] at hcs
      obtain ⟨rfl, rfl, rfl⟩ := hcs
      exact ⟨[], .inl ⟨rfl, rfl, rfl, rfl⟩⟩
    · simp [Value.cells] at hcs
      obtain ⟨rfl, rfl, rfl⟩ := hcs
      exact ⟨zs, .inr ⟨_, rfl, hl, hm, by simpa using hz, hcell, hwz⟩⟩
  clear hA0 hval0
  refine (walk a0 len0 cap0 z0 W w0).mono fun e W' ⟨he, bel⟩ => ?_
  subst he
  exact ⟨_, rfl, _, _, _, [], _, [], hW', trodAll_mk1 (shut_bool Try.underlying4 _), (trodAll_cons_mk (Below.trod laidOut (by kernel_rfl) (of_decide_eq_true (by kernel_rfl)) k0 bel lt0) trodAll_mk0), rfl, bel.frame _, fun h => by cases h⟩

theorem over : Rows.digestRowsRow.holds Try.pinned (OpenSpec.ofChange Rows.digestRowsSpec) :=
  OpenClaim.holds_of_wide 7 Try.f7 rfl rfl rfl rfl rfl rfl rfl ⟨rfl, rfl, rfl, rfl, rfl⟩ rfl rfl rfl rfl rfl (by kernel_rfl) Try.func7 (by kernel_rfl)
    (of_decide_eq_true (by kernel_rfl)) (by unfold Func.isWrapper; first | (rw [if_pos (by decide +kernel)]; kernel_rfl) | (rw [if_neg (by decide +kernel)]; exact ⟨rfl, rfl⟩))
    (fun os started H enc _ => lifted os started H enc)

/-- The statement. -/
theorem proved : Rows.DigestRowsSaid := over
#print axioms proved
end Go.Proofs.Ytiofeehcnegejaa.digestRows
