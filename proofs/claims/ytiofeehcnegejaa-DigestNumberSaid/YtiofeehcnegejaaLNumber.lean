/-
  THE SHELL OF A PROOF OF 'Rows.DigestNumberSaid' ('lexicon/lexiconlaw3.DigestNumber'), WRITTEN BY PROGRAM (proof-skeleton.mjs) off the guide's own print for that function. Not trusted: Lean checks it.
  YOURS ARE THE HOLES MARKED 'HOLE' (each bears 'sorry'). ALL ELSE IS THE GUIDE's TEMPLATE (howto/template/XProofs.lean) at this function's number and types: leave it.
-/
import Derived.Test.YtiofeehcnegejaaRows
import Derived.WalkKit
import Derived.ProofKit
import Derived.OpenShut
import Derived.Test.YtiofeehcnegejaaDigN
namespace Go.Proofs.Ytiofeehcnegejaa.digestNumber
open Go.ChangeShapes Go.WideShapes Go.ChangeAt Go.RowKit
open Go.Proofs.Ytiofeehcnegejaa Go.Proofs.YtiofeehcnegejaaW.PrintWords
set_option linter.unusedVariables false      -- a walk need not use every 'w<i>' (that an integer argument fits its kind)

theorem own : ownKnob Try.prog.godebug = none := by kernel_rfl

/-- Many calls one behind the other leave what lay. -/
structure Steps0 (w w' : World) : Prop where mk :: (out : Below w.heap.size w w')
theorem Steps0.refl (w : World) : Steps0 w w := ⟨Below.refl _ w⟩
theorem Steps0.step {w w' w'' : World} (h : Steps0 w w') (k : Below w'.heap.size w' w'') : Steps0 w w'' := ⟨h.out.trans (k.mono h.out.size)⟩

/-! ### STEP 1: THE WALK: the Go text returns true. 'Grown w w'': the world has at most new blocks (Derived/RowKit3.lean). Part the cases AHEAD of 'go_enter' where a test parts the walk; take each callee by a contract of your own. -/
theorem walk (a0 : Int) (a1 : Int) (w0 : (Lit.int .i64 a0).wf = true) (w1 : (Lit.int .i64 a1).wf = true) (w : World) :
    Calls Try.prog 5 #[.int .i64 a0, .int .i64 a1] w fun e w' => e = .returned (.bool true) ∧ Below w.heap.size w w' := by
  have hx := hashI_ne (rotB (IntKind.u64.wrap a0)) (-2) (by decide)
  have hy := hashI_ne (rotB (IntKind.u64.wrap a1)) (-2) (by decide)
  have hx1 : (numI a0 == -1) = false := beq_eq_false_iff_ne.2 hx
  have hy1 : (numI a1 == -1) = false := beq_eq_false_iff_ne.2 hy
  have hin : 0 ≤ a0 → a0 ≤ 2147483647 → 0 ≤ a1 → a1 ≤ 2147483647 → ((numI a0 == numI a1) == (a0 == a1)) = true := by
    intro p0 p1 q0 q1
    by_cases h : a0 = a1
    · subst h; simp
    · have : numI a0 ≠ numI a1 := fun e => h (numI_inj a0 a1 p0 p1 q0 q1 e)
      rw [beq_eq_false_iff_ne.2 this, beq_eq_false_iff_ne.2 h]; rfl
  have href := fun w => refNumber_any a0 w
  simp only [refNum_eq] at href
  clear hx hy
  have Href := Lib.hid href; clear href
  have Hin := Lib.hid hin; clear hin
  have Hb := Steps0.refl w
  have hall : (0 ≤ a0 ∧ a0 ≤ 2147483647 ∧ 0 ≤ a1 ∧ a1 ≤ 2147483647) ∨ (0 ≤ a0 ∧ a0 ≤ 2147483647 ∧ 0 ≤ a1 ∧ 2147483647 < a1) ∨ (0 ≤ a0 ∧ a0 ≤ 2147483647 ∧ a1 < 0) ∨ (0 ≤ a0 ∧ 2147483647 < a0) ∨ a0 < 0 := by omega
  rcases hall with ⟨p0, p1, q0, q1⟩ | ⟨p0, p1, q0, q1⟩ | ⟨p0, p1, q0⟩ | ⟨p0, p1⟩ | p0
  · have hin := Hin.out p0 p1 q0 q1
    go_enter Try.func5, Try.ntmps5
    go_wp2_with (first | (go_at_call 16; refine (number_any _ _).mono ?_; rintro e w1 ⟨rfl, hb⟩; have hz := hb.size; have HB := Hb.step hb; clear Hb; have Hb := HB; clear HB hb) | (go_at_call 17; refine (Href.out _).mono ?_; rintro e w2 ⟨rfl, rfl⟩) | (go_at_call 8; refine (awake_any _).mono ?_; rintro e w3 ⟨rfl, hb⟩; have HB := Hb.step hb; clear Hb; have Hb := HB; clear HB hb))
    go_ret
    exact ⟨rfl, Hb.out⟩
  all_goals
    go_enter Try.func5, Try.ntmps5
    go_wp2_with (first | (go_at_call 16; refine (number_any _ _).mono ?_; rintro e w1 ⟨rfl, hb⟩; have hz := hb.size; have HB := Hb.step hb; clear Hb; have Hb := HB; clear HB hb) | (go_at_call 17; refine (Href.out _).mono ?_; rintro e w2 ⟨rfl, rfl⟩) | (go_at_call 8; refine (awake_any _).mono ?_; rintro e w3 ⟨rfl, hb⟩; have HB := Hb.step hb; clear Hb; have Hb := HB; clear HB hb))
    go_ret
    exact ⟨rfl, Hb.out⟩

/-! ### THE ROW's STEP: WRITTEN OUT: LEAVE IT -/
set_option maxRecDepth 100000 in
theorem lifted (os : Os) (started : os.Started) (H : Type) (enc : TypeId × Value → H) :
    ReturnsInHanded {} Try.checked os 5 .any (Rows.digestNumberSpec.pre6 enc Try.prog Try.f5 Rows.digestNumberRow.domain false) (Rows.digestNumberSpec.post enc Try.prog Try.f5 false true false false) := by
  refine returnsInHanded_of_change (C := Try.checked) own started (by kernel_rfl) Try.func5
    (ChangeSpec.witness6 (enc := enc) (C := Try.checked) false ⟨#[], #[.int .i64 0, .int .i64 0], []⟩ 8 (by kernel_rfl) (by kernel_rfl) (by kernel_rfl) (by kernel_rfl)) ?_
  intro W base args ds gs before hval0 hW hcnd _
  have hval : ∀ (j : Nat) t v, Try.f5.params[j]? = some t → args[j]? = some v → Value.okWide Try.prog W .any base t v := hval0
  have hW' := hW
  obtain ⟨p, q, hA0, hV, rfl, hfz, hnd⟩ := hW
  have hA : DataW.TrodAll enc Try.prog W 0 (fun _ => true) true Try.f5.params.toList args.toList ds p := hA0
  rw [Try.params5] at hA hval
  obtain ⟨v0, vs0, d0, ds0, p0, q0, hargs, rfl, rfl, h0, r0⟩ := trodAll_cons hA
  obtain ⟨v1, vs1, d1, ds1, p1, q1, rfl, rfl, rfl, h1, r1⟩ := trodAll_cons r0
  obtain ⟨rfl, rfl, rfl⟩ := trodAll_nil r1
  obtain rfl : args = #[v0, v1] := by cases args; simp_all
  obtain ⟨rfl, rfl⟩ := trodVars_none hV
  obtain ⟨a0, rfl, rfl, rfl, w0⟩ := open_int Try.underlying3 (hval 0 3 v0 rfl rfl) h0
  obtain ⟨a1, rfl, rfl, rfl, w1⟩ := open_int Try.underlying3 (hval 1 3 v1 rfl rfl) h1
  clear hA0 hval0
  simp only [List.append_nil] at hW'
  refine (walk a0 a1 w0 w1 W).mono fun e W' ⟨he, hg⟩ => ?_
  subst he
  exact ⟨_, rfl, _, _, _, [], _, [], hW', trodAll_mk1 (shut_bool Try.underlying4 _), (trodAll_cons_mk (shut_int Try.underlying3 w0) (trodAll_cons_mk (shut_int Try.underlying3 w1) trodAll_mk0)), rfl, hg.frame _, fun h => by cases h⟩

theorem over : Rows.digestNumberRow.holds Try.pinned (OpenSpec.ofChange Rows.digestNumberSpec) :=
  OpenClaim.holds_of_wide 5 Try.f5 rfl rfl rfl rfl rfl rfl rfl ⟨rfl, rfl, rfl, rfl, rfl⟩ rfl rfl rfl rfl rfl (by kernel_rfl) Try.func5 (by kernel_rfl)
    (of_decide_eq_true (by kernel_rfl)) (by unfold Func.isWrapper; first | (rw [if_pos (by decide +kernel)]; kernel_rfl) | (rw [if_neg (by decide +kernel)]; exact ⟨rfl, rfl⟩))
    (fun os started H enc _ => lifted os started H enc)

/-- ████ THE STATEMENT ████ -/
theorem proved : Rows.DigestNumberSaid :=
  over
#print axioms proved
end Go.Proofs.Ytiofeehcnegejaa.digestNumber
