/- For every two rows of ints the law DigestTurns answers true and leaves its arguments as they were. No condition. -/
import Derived.Test.YtiofeehcnegejaaRows
import Derived.WalkKit
import Derived.ProofKit
import Derived.OpenShut
import Derived.Test.YtiofeehcnegejaaDigQ
import Derived.Deep.DeepCutAuto
import Derived.Deep.CutBlock
import Derived.ShutString
import Derived.ChangeOld
import Derived.Below
namespace Go.Proofs.Ytiofeehcnegejaa.digestTurns
open Go.ChangeShapes Go.WideShapes Go.ChangeAt Go.RowKit
open Go.Proofs.Ytiofeehcnegejaa Go.Proofs.YtiofeehcnegejaaW.PrintWords
open Go.ChangeMaps (open_string shut_string)
set_option linter.unusedVariables false

theorem own : ownKnob Try.prog.godebug = none := by kernel_rfl
theorem laidOut : laidOutB Try.prog = true := by kernel_rfl

/-- WHAT THE WALK IS TOLD OF A SLICE OF INTEGERS THAT CAME IN: it is nil; or it leads to a row of 'cap' cells, the numbers 'zs' (the first 'len' are its elements, the rest its spare room), each fitting its kind. -/
def IsRow (k : IntKind) (w : World) (a : Option Addr) (len cap : Nat) (zs : List Int) : Prop :=
  (a = none ∧ len = 0 ∧ cap = 0 ∧ zs = []) ∨
  ∃ x, a = some x ∧ len ≤ cap ∧ cap ≤ maxLen ∧ zs.length = cap ∧ (∀ i, i < zs.length → w.cell? (x.add i) = some (.int k (zs.getD i 0))) ∧ ∀ n ∈ zs, (Lit.int k n).wf = true

set_option maxHeartbeats 2000000 in
theorem walk (a0 : Option Addr) (len0 cap0 : Nat) (z0 : List Int) (a1 : Option Addr) (len1 cap1 : Nat) (z1 : List Int) (w : World) (w0 : IsRow .i64 w a0 len0 cap0 z0) (w1 : IsRow .i64 w a1 len1 cap1 z1) :
    Calls Try.prog 6 #[.slice a0 len0 cap0, .slice a1 len1 cap1] w fun e w' => e = .returned (.bool true) ∧ Below w.heap.size w w' := by
  obtain ⟨hr, hlc, hlm⟩ := row_reads w0
  obtain ⟨hr1, hlc1, hlm1⟩ := row_reads w1
  clear w0 w1
  by_cases hl : 3000 < len0
  · have Hb := Steps0.refl w
    go_enter Try.func6, Try.ntmps6
    go_wp2_with (go_at_call 8; refine (awake_any _).mono ?_; rintro e w3 ⟨rfl, hb⟩; have HB := Hb.step hb; clear Hb; have Hb := HB; clear HB hb)
    go_ret
    exact ⟨rfl, Hb.out⟩
  by_cases hl1 : 3000 < len1
  · have Hb := Steps0.refl w
    go_enter Try.func6, Try.ntmps6
    go_wp2_with (go_at_call 8; refine (awake_any _).mono ?_; rintro e w3 ⟨rfl, hb⟩; have HB := Hb.step hb; clear Hb; have Hb := HB; clear HB hb)
    go_ret
    exact ⟨rfl, Hb.out⟩
  generalize z0.take len0 = zs at *
  generalize z1.take len1 = ts at *
  have hzl : zs.length = len0 := hr.1
  subst hzl
  have hpm := fun (ys : List Int) (h : ys.Perm zs) => frozI_perm h
  have Hpm := Lib.hid hpm; clear hpm
  have Hr := Lib.hid hr; clear hr
  have Hr1 := Lib.hid hr1; clear hr1
  go_enter Try.func6, Try.ntmps6
  go_upto_block 0 with (at_builtin; refine print_append_row (w0 := w) w.heap.size rfl (.tmp 19) (.tmp 20) 35 3 .i64 8 rfl Try.underlying35 info3 (by decide) (.slice none 0 0) [] zs a0 zs.length cap0 rfl rfl (own_nil _ _ _ _) Hr.out (Below.refl _ _) (Nat.le_refl _) (by simp; omega) ?_; intro v1 w1 hown1 hb1 hg1 _; rw [List.nil_append] at hown1; have hz1 := hb1.size; obtain ⟨A1, c1, rfl⟩ := own_slice hown1)
  have Hb1 := Lib.hid hb1; clear hb1 hg1
  have Ho1 := Lib.hid hown1; clear hown1
  go_wp2
  go_loopw [6] (fun i wr => ∃ (k : Nat) (ys : List Int), k ≤ len1 ∧ i = .int .i64 k ∧ Hid (wr.ownsRow w.heap.size 3 1 (.slice A1 zs.length c1) zs.length (nums .i64 ys)) ∧ Hid (ys.Perm zs) ∧ Hid (Below w.heap.size w wr)) (fun i _ => len1 - (intOf i).toNat)
  case atStart => exact ⟨0, zs, Nat.zero_le _, rfl, Ho1, Lib.hid (List.Perm.refl _), Hb1⟩
  case round =>
    obtain ⟨k, ys, hk, rfl, HO, HP, HB⟩ := hrel
    have hylen : ys.length = zs.length := HP.out.length_eq
    have Hyl := Lib.hid hylen; clear hylen
    by_cases hgo : k < len1 ∧ 0 < zs.length
    · obtain ⟨hlt, hn0⟩ := hgo
      obtain ⟨g, c2, e2, hgb, hgl⟩ := HO.out.form hn0
      obtain ⟨rfl, _, rfl⟩ := Value.slice.inj e2
      clear e2
      obtain ⟨ad, rfl, hct⟩ := (Hr1.out.below HB.out).at_ (k : Int) (by omega) (by omega)
      rw [Int.toNat_natCast] at hct
      obtain ⟨K, hKn, hK⟩ := tmod_place (rd ts k) zs.length hn0
      have hJn : k % zs.length < zs.length := Nat.mod_lt _ hn0
      have hJe : (k : Int) % (zs.length : Int) = ((k % zs.length : Nat) : Int) := rfl
      obtain ⟨J, hJ⟩ : ∃ J, k % zs.length = J := ⟨_, rfl⟩
      rw [hJ] at hJn hJe
      obtain ⟨hcJ, hfJ⟩ := own_at HO.out (J : Int) (by omega) (by omega)
      obtain ⟨hcK, hfK⟩ := own_at HO.out (K : Int) (by omega) (by omega)
      have hs1 := (own_store HO.out (J : Int) (rd ys K)).1
      have hs2 := (own_store hs1 (K : Int) (rd ys J)).1
      have hck := (own_at hs1 (K : Int) (by omega) (by omega)).1
      have hsw := swap_perm ys J K (by rw [Hyl.out]; exact hJn) (by rw [Hyl.out]; exact hKn)
      simp only [Int.toNat_natCast] at hcJ hfJ hcK hfK hck hs2
      have Hs2 := Lib.hid hs2
      have HP2 := Lib.hid (hsw.trans HP.out)
      have HB2 := Lib.hid ((HB.out.setCell (p := ⟨g, J, none⟩) hgb (.int .i64 (rd ys K))).setCell (p := ⟨g, K, none⟩) hgb (.int .i64 (rd ys J)))
      clear hs1 hs2 hsw hJ
      have hnz : ((zs.length : Int) == 0) = false := beq_eq_false_iff_ne.2 (by omega)
      have Hn0 := hn0
      rcases hK with hK | ⟨hK, hK0⟩
      · go_wp2
        go_roundw
        case rel => exact ⟨k + 1, _, by omega, by go_num, Hs2, HP2, HB2⟩
        case measure => simp [intOf]; omega
      · go_wp2
        go_roundw
        case rel => exact ⟨k + 1, _, by omega, by go_num, Hs2, HP2, HB2⟩
        case measure => simp [intOf]; omega
    · have Hb : Steps0 w wr := ⟨HB.out⟩
      obtain ⟨A2, c2, e2, hrx⟩ := own_reads HO.out
      obtain ⟨rfl, _, rfl⟩ := Value.slice.inj e2
      clear e2
      have hpq := Hpm.out ys HP.out
      have Hpq := Lib.hid hpq; clear hpq
      have Hrx := Lib.hid hrx; clear hrx
      have hfin : (¬ k < len1) ∨ (k < len1 ∧ zs.length = 0) := by omega
      have hfz := fun w hr => frozen_any A1 zs.length c1 ys w hr hlm
      rw [Hpq.out] at hfz
      have Hfz := Lib.hid hfz; clear hfz
      rcases hfin with hkl | ⟨hkl, hn0⟩
      · go_wp2_with (first | (go_at_call 18; refine (Hfz.out _ Hrx.out).mono ?_; clear Hfz; rintro e w3 ⟨rfl, hb⟩; have HB := Hb.step hb; clear Hb hb; have Hb := HB; clear HB) | (go_at_call 18; refine (frozen_any _ _ _ zs _ (Hr.out.below Hb.out) hlm).mono ?_; rintro e w3 ⟨rfl, hb⟩; have HB := Hb.step hb; clear Hb hb; have Hb := HB; clear HB) | (go_at_call 8; refine (awake_any _).mono ?_; rintro e w3 ⟨rfl, hb⟩; have HB := Hb.step hb; clear Hb; have Hb := HB; clear HB hb))
        go_ret
        exact ⟨rfl, Hb.out⟩
      · have hn1 : ¬ 0 < zs.length := by omega
        clear hn0
        go_wp2_with (first | (go_at_call 18; refine (Hfz.out _ Hrx.out).mono ?_; clear Hfz; rintro e w3 ⟨rfl, hb⟩; have HB := Hb.step hb; clear Hb hb; have Hb := HB; clear HB) | (go_at_call 18; refine (frozen_any _ _ _ zs _ (Hr.out.below Hb.out) hlm).mono ?_; rintro e w3 ⟨rfl, hb⟩; have HB := Hb.step hb; clear Hb hb; have Hb := HB; clear HB) | (go_at_call 8; refine (awake_any _).mono ?_; rintro e w3 ⟨rfl, hb⟩; have HB := Hb.step hb; clear Hb; have Hb := HB; clear HB hb))
        go_ret
        exact ⟨rfl, Hb.out⟩

/-! ### The row -/
set_option maxRecDepth 100000 in
theorem lifted (os : Os) (started : os.Started) (H : Type) (enc : TypeId × Value → H) :
    ReturnsInHanded {} Try.checked os 6 .any (Rows.digestTurnsSpec.pre6 enc Try.prog Try.f6 Rows.digestTurnsRow.domain false) (Rows.digestTurnsSpec.post enc Try.prog Try.f6 false true false false) := by
  refine returnsInHanded_of_change (C := Try.checked) own started (by kernel_rfl) Try.func6
    (ChangeSpec.witness6 (enc := enc) (C := Try.checked) false ⟨#[], #[.slice none 0 0, .slice none 0 0], []⟩ 8 (by kernel_rfl) (by kernel_rfl) (by kernel_rfl) (by kernel_rfl)) ?_
  intro W base args ds gs before hval0 hW hcnd _
  have hval : ∀ (j : Nat) t v, Try.f6.params[j]? = some t → args[j]? = some v → Value.okWide Try.prog W .any base t v := hval0
  have hW' := hW
  obtain ⟨p, q, hA0, hV, rfl, hfz, hnd⟩ := hW
  have hA : DataW.TrodAll enc Try.prog W 0 (fun _ => true) true Try.f6.params.toList args.toList ds p := hA0
  rw [Try.params6] at hA hval
  obtain ⟨v0, vs0, d0, ds0, p0, q0, hargs, rfl, rfl, h0, r0⟩ := trodAll_cons hA
  obtain ⟨v1, vs1, d1, ds1, p1, q1, rfl, rfl, rfl, h1, r1⟩ := trodAll_cons r0
  obtain ⟨rfl, rfl, rfl⟩ := trodAll_nil r1
  obtain rfl : args = #[v0, v1] := by cases args; simp_all
  obtain ⟨rfl, rfl⟩ := trodVars_none hV
  obtain ⟨a0, len0, cap0, rfl⟩ := okWide_slice Try.underlying35 (hval 0 35 v0 rfl rfl)
  have k0 := h0
  have lt0 : ∀ x ∈ p0, x.block < W.heap.size := by obtain ⟨m, hm⟩ := k0; exact DataW.trod_lt m _ _ _ hm
  obtain ⟨z0, w0⟩ : ∃ zs, IsRow .i64 W a0 len0 cap0 zs := by
    obtain ⟨fuel, hf⟩ := h0
    rcases open_ints Try.underlying35 Try.underlying3 (by kernel_rfl) hf with ⟨hcs, _⟩ | ⟨x, l, c, zs, hcs, _, hl, hm, hz, _, hcell, hwz⟩
    · simp [Value.cells] at hcs
      obtain ⟨rfl, rfl, rfl⟩ := hcs
      exact ⟨[], .inl ⟨rfl, rfl, rfl, rfl⟩⟩
    · simp [Value.cells] at hcs
      obtain ⟨rfl, rfl, rfl⟩ := hcs
      exact ⟨zs, .inr ⟨_, rfl, hl, hm, by simpa using hz, hcell, hwz⟩⟩
  obtain ⟨a1, len1, cap1, rfl⟩ := okWide_slice Try.underlying35 (hval 1 35 v1 rfl rfl)
  have k1 := h1
  have lt1 : ∀ x ∈ p1, x.block < W.heap.size := by obtain ⟨m, hm⟩ := k1; exact DataW.trod_lt m _ _ _ hm
  obtain ⟨z1, w1⟩ : ∃ zs, IsRow .i64 W a1 len1 cap1 zs := by
    obtain ⟨fuel, hf⟩ := h1
    rcases open_ints Try.underlying35 Try.underlying3 (by kernel_rfl) hf with ⟨hcs, _⟩ | ⟨x, l, c, zs, hcs, _, hl, hm, hz, _, hcell, hwz⟩
    · simp [Value.cells] at hcs
      obtain ⟨rfl, rfl, rfl⟩ := hcs
      exact ⟨[], .inl ⟨rfl, rfl, rfl, rfl⟩⟩
    · simp [Value.cells] at hcs
      obtain ⟨rfl, rfl, rfl⟩ := hcs
      exact ⟨zs, .inr ⟨_, rfl, hl, hm, by simpa using hz, hcell, hwz⟩⟩
  clear hA0 hval0
  refine (walk a0 len0 cap0 z0 a1 len1 cap1 z1 W w0 w1).mono fun e W' ⟨he, bel⟩ => ?_
  subst he
  exact ⟨_, rfl, _, _, _, [], _, [], hW', trodAll_mk1 (shut_bool Try.underlying4 _), (trodAll_cons_mk (Below.trod laidOut (by kernel_rfl) (of_decide_eq_true (by kernel_rfl)) k0 bel lt0) (trodAll_cons_mk (Below.trod laidOut (by kernel_rfl) (of_decide_eq_true (by kernel_rfl)) k1 bel lt1) trodAll_mk0)), rfl, bel.frame _, fun h => by cases h⟩

theorem over : Rows.digestTurnsRow.holds Try.pinned (OpenSpec.ofChange Rows.digestTurnsSpec) :=
  OpenClaim.holds_of_wide 6 Try.f6 rfl rfl rfl rfl rfl rfl rfl ⟨rfl, rfl, rfl, rfl, rfl⟩ rfl rfl rfl rfl rfl (by kernel_rfl) Try.func6 (by kernel_rfl)
    (of_decide_eq_true (by kernel_rfl)) (by unfold Func.isWrapper; first | (rw [if_pos (by decide +kernel)]; kernel_rfl) | (rw [if_neg (by decide +kernel)]; exact ⟨rfl, rfl⟩))
    (fun os started H enc _ => lifted os started H enc)

/-- The statement. -/
theorem proved : Rows.DigestTurnsSaid := over
#print axioms proved
end Go.Proofs.Ytiofeehcnegejaa.digestTurns
