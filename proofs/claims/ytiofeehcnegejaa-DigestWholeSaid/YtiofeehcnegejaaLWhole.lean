/- For every Int the law DigestWhole answers true and leaves its argument as it was. No condition. -/
import Derived.Test.YtiofeehcnegejaaRows
import Derived.WalkKit
import Derived.ProofKit
import Derived.OpenShut
import Derived.Test.YtiofeehcnegejaaDigR
import Derived.Lib.SmallJoins
import Derived.ShutString
import Derived.ChangeOld
import Derived.Below
namespace Go.Proofs.Ytiofeehcnegejaa.digestWhole
open Go.ChangeShapes Go.WideShapes Go.ChangeAt Go.RowKit
open Go.Proofs.Ytiofeehcnegejaa Go.Proofs.YtiofeehcnegejaaW.PrintWords
open Go.ChangeMaps (open_string shut_string)
open Go.Joins
set_option linter.unusedVariables false

theorem own : ownKnob Try.prog.godebug = none := by kernel_rfl
theorem laidOut : laidOutB Try.prog = true := by kernel_rfl

/-- WHAT THE WALK IS TOLD OF A SLICE OF INTEGERS THAT CAME IN: it is nil; or it leads to a row of 'cap' cells, the numbers 'zs' (the first 'len' are its elements, the rest its spare room), each fitting its kind. -/
def IsRow (k : IntKind) (w : World) (a : Option Addr) (len cap : Nat) (zs : List Int) : Prop :=
  (a = none ∧ len = 0 ∧ cap = 0 ∧ zs = []) ∨
  ∃ x, a = some x ∧ len ≤ cap ∧ cap ≤ maxLen ∧ zs.length = cap ∧ (∀ i, i < zs.length → w.cell? (x.add i) = some (.int k (zs.getD i 0))) ∧ ∀ n ∈ zs, (Lit.int k n).wf = true

set_option maxHeartbeats 2000000 in
theorem walk (neg : Bool) (a0 : Option Addr) (len0 cap0 : Nat) (z0 : List Int) (w : World) (w0 : IsRow .u32 w a0 len0 cap0 z0) :
    Calls Try.prog 3 #[.agg #[.bool neg, .slice a0 len0 cap0]] w fun e w' => e = .returned (.bool true) ∧ Below w.heap.size w w' := by
  obtain ⟨hr, hlc, hlm⟩ := row_reads w0
  have hwd : Dv.Wd (z0.take len0) := by
    rcases w0 with ⟨_, _, _, rfl⟩ | ⟨x, _, _, _, _, _, hwf⟩
    · intro x hx; simp at hx
    · exact (wd_of hwf).take len0
  clear w0
  generalize z0.take len0 = xs at *
  have Hb := Steps0.refl w
  by_cases hl : 3000 < len0
  · go_enter Try.func3, Try.ntmps3
    go_wp2_with (go_at_call 8; refine (awake_any _).mono ?_; rintro e w3 ⟨rfl, hb⟩; have HB := (⟨(Below.refl _ w).alloc (Nat.le_refl _) _⟩ : Steps0 w _).step hb; clear Hb; have Hb := HB; clear HB hb)
    go_ret
    exact ⟨rfl, Hb.out⟩
  have hlt : (xs.take (trimLen xs)).length = trimLen xs := by rw [List.length_take]; have := trimLen_le xs; omega
  have htl : trimLen xs ≤ len0 := by have := trimLen_le xs; have := hr.1; omega
  have h1 := fun W hr => whole_any neg a0 len0 cap0 xs W hwd hr hlc hlm
  have h2 := fun W hr => form_any neg a0 len0 cap0 xs W hr hlc (by omega)
  have h3 := fun W A c hr hc => whole_any (neg && decide (0 < trimLen xs)) A (trimLen xs) c (xs.take (trimLen xs)) W (hwd.take _) hr hc (by omega)
  have h4 := fun W hr => negate_any neg a0 len0 cap0 xs W hr hlc (by omega)
  have h5 := fun W A c hr hc => whole_any ((!neg) && decide (0 < trimLen xs)) A (trimLen xs) c (xs.take (trimLen xs)) W (hwd.take _) hr hc (by omega)
  have h6 := fun W hr => small_any neg a0 len0 cap0 xs W hwd hr hlc (by omega)
  have h7 := fun W hr => refWhole_any neg a0 len0 cap0 xs W hwd hr hlc (by omega)
  have p1 := wholeI_bd neg xs
  have p2 := wholeI_other neg xs
  have p3 := wholeI_small neg xs hwd
  rw [wholeI_form] at h3
  obtain ⟨N1, hN1⟩ : ∃ N, (neg && decide (0 < trimLen xs)) = N := ⟨_, rfl⟩
  obtain ⟨N2, hN2⟩ : ∃ N, ((!neg) && decide (0 < trimLen xs)) = N := ⟨_, rfl⟩
  rw [hN1] at h2 h3
  rw [hN2] at h4 h5 p2
  clear hN1 hN2
  generalize wholeI N2 (xs.take (trimLen xs)) = n at *
  generalize wholeI neg xs = h at *
  obtain ⟨s, hs⟩ : ∃ s, (smallS neg (Dv.valW xs)).1 = s := ⟨_, rfl⟩
  obtain ⟨ok, hok⟩ : ∃ ok, (smallS neg (Dv.valW xs)).2 = ok := ⟨_, rfl⟩
  rw [hs] at h6 p3
  rw [hok] at h6 p3
  clear hs hok
  obtain ⟨q1, q2, q3⟩ := p1
  have hne : (h != -1) = true := by rw [bne_iff_ne]; exact q3
  have hw : wrap64 (-h) = -h := by unfold wrap64; omega
  have Hr := Lib.hid hr; have H1 := Lib.hid h1; have H2 := Lib.hid h2; have H3 := Lib.hid h3; have H4 := Lib.hid h4; have H5 := Lib.hid h5; have H6 := Lib.hid h6; have H7 := Lib.hid h7; have Hlt := Lib.hid hlt
  clear hr h1 h2 h3 h4 h5 h6 h7 hlt q3
  have K : Steps0 w (w.alloc (.cells #[.bool neg, .slice a0 len0 cap0] 24)) := ⟨(Below.refl _ w).alloc (Nat.le_refl _) _⟩
  have hbx := blk_new w (.cells #[.bool neg, .slice a0 len0 cap0] 24)
  have Hbx := Lib.hid hbx; clear hbx
  have tail1 : (n == -h) = true ∨ ((n == -h) = false ∧ (h == 1) = true ∧ (n == -2) = true) ∨ ((n == -h) = false ∧ (h == 1) = false ∧ (h == -2) = true) := by
    rcases p2 with e | ⟨e1, e2⟩ | ⟨e1, e2⟩
    · exact .inl (beq_iff_eq.2 e)
    · exact .inr (.inl ⟨beq_eq_false_iff_ne.2 (by omega), beq_iff_eq.2 e1, beq_iff_eq.2 e2⟩)
    · exact .inr (.inr ⟨beq_eq_false_iff_ne.2 (by omega), beq_eq_false_iff_ne.2 (by omega), beq_iff_eq.2 e1⟩)
  have tail2 : ok = false ∨ (ok = true ∧ decide (-2305843009213693951 < s) = false) ∨ (ok = true ∧ decide (-2305843009213693951 < s) = true ∧ decide (s < 2305843009213693951) = false) ∨ (ok = true ∧ decide (-2305843009213693951 < s) = true ∧ decide (s < 2305843009213693951) = true ∧ (s != -1) = false) ∨ (ok = true ∧ decide (-2305843009213693951 < s) = true ∧ decide (s < 2305843009213693951) = true ∧ (s != -1) = true ∧ (h != s) = false) := by
    cases ok
    · exact .inl rfl
    · by_cases a1 : -2305843009213693951 < s
      · by_cases a2 : s < 2305843009213693951
        · by_cases a3 : s = -1
          · exact .inr (.inr (.inr (.inl ⟨rfl, by simpa using a1, by simpa using a2, by simp [a3]⟩)))
          · have a4 : h = s := by
              rcases p3 with e | e | e | e | e
              · simp at e
              · omega
              · omega
              · exact absurd e a3
              · exact e
            exact .inr (.inr (.inr (.inr ⟨rfl, by simpa using a1, by simpa using a2, by rw [bne_iff_ne]; exact a3, by simp [a4]⟩)))
        · exact .inr (.inr (.inl ⟨rfl, by simpa using a1, by simpa using a2⟩))
      · exact .inr (.inl ⟨rfl, by simpa using a1⟩)
  clear p2 p3
  have Ht1 := Lib.hid tail1; have Ht2 := Lib.hid tail2
  have Hne := Lib.hid hne
  clear tail1 tail2 hne
  go_enter Try.func3, Try.ntmps3
  have K0 := K
  have HX0 := Hbx
  have hz0 : w.heap.size < (w.alloc (.cells #[.bool neg, .slice a0 len0 cap0] 24)).heap.size := by simp
  clear K Hbx
  go_wp2_with fail
  refine (H1.out _ (Hr.out.below K0.out)).mono ?_
  rintro e W1 ⟨rfl, hb⟩
  have K1 := K0.step hb
  have hx1 := (hb.block w.heap.size hz0).trans HX0.out
  have hz1 := blk_lt hx1
  have c0 := blk_cell hx1 0
  have c1 := blk_cell hx1 1
  have HX1 := Lib.hid hx1
  clear hb hx1
  clear hz0
  go_wp2_with fail
  refine (H2.out _ (Hr.out.below K1.out)).mono ?_
  rintro e W2 ⟨v2, rfl, hown, hb⟩
  obtain ⟨A2, c2, rfl, hc2, hr2⟩ := hown.slice
  rw [Hlt.out] at hc2 hr2 ⊢
  have Hr2 := Lib.hid hr2
  clear hown hr2 c0 c1
  have K2 := K1.step hb
  have hx2 := (hb.block w.heap.size hz1).trans HX1.out
  have hz2 := blk_lt hx2
  have c0 := blk_cell hx2 0
  have c1 := blk_cell hx2 1
  have HX2 := Lib.hid hx2
  clear hb hx2
  clear hz1
  go_wp2_with fail
  refine (H3.out _ _ _ Hr2.out hc2).mono ?_
  rintro e W3 ⟨rfl, hb⟩
  clear c0 c1
  have K3 := K2.step hb
  have hx3 := (hb.block w.heap.size hz2).trans HX2.out
  have hz3 := blk_lt hx3
  have c0 := blk_cell hx3 0
  have c1 := blk_cell hx3 1
  have HX3 := Lib.hid hx3
  clear hb hx3
  clear hz2
  go_wp2_with fail
  refine (H4.out _ (Hr.out.below K3.out)).mono ?_
  rintro e W4 ⟨v4, rfl, hown, hb⟩
  obtain ⟨A4, c4, rfl, hc4, hr4⟩ := hown.slice
  rw [Hlt.out] at hc4 hr4 ⊢
  have Hr4 := Lib.hid hr4
  clear hown hr4 c0 c1
  have K4 := K3.step hb
  have hx4 := (hb.block w.heap.size hz3).trans HX3.out
  have hz4 := blk_lt hx4
  have c0 := blk_cell hx4 0
  have c1 := blk_cell hx4 1
  have HX4 := Lib.hid hx4
  clear hb hx4
  clear hz3
  go_wp2_with fail
  refine (H5.out _ _ _ Hr4.out hc4).mono ?_
  rintro e W5 ⟨rfl, hb⟩
  clear c0 c1
  have K5 := K4.step hb
  have hx5 := (hb.block w.heap.size hz4).trans HX4.out
  have hz5 := blk_lt hx5
  have c0 := blk_cell hx5 0
  have c1 := blk_cell hx5 1
  have HX5 := Lib.hid hx5
  clear hb hx5
  clear hz4
  go_wp2_with fail
  refine (H6.out _ (Hr.out.below K5.out)).mono ?_
  rintro e W6 ⟨rfl, hb⟩
  clear c0 c1
  have K6 := K5.step hb
  have hx6 := (hb.block w.heap.size hz5).trans HX5.out
  have hz6 := blk_lt hx6
  have c0 := blk_cell hx6 0
  have c1 := blk_cell hx6 1
  have HX6 := Lib.hid hx6
  clear hb hx6
  clear hz5
  have hne : (h != -1) = true := Hne.out
  rcases Ht2.out with t1 | ⟨t1, t2⟩ | ⟨t1, t2, t3⟩ | ⟨t1, t2, t3, t4⟩ | ⟨t1, t2, t3, t4, t5⟩
  all_goals
    rcases Ht1.out with r1 | ⟨r1, r2, r3⟩ | ⟨r1, r2, r3⟩
    all_goals
      go_wp2_with (first | (go_at_call 13; refine (H7.out _ (Hr.out.below K6.out)).mono ?_; rintro e W7 ⟨rfl, hb⟩; have K7 := K6.step hb; clear hb) | (go_at_call 8; refine (awake_any _).mono ?_; rintro e W8 ⟨rfl, hb⟩; have K8 := K7.step hb))
      go_ret
      exact ⟨rfl, K8.out⟩

/-! ### The row -/
set_option maxRecDepth 100000 in
theorem lifted (os : Os) (started : os.Started) (H : Type) (enc : TypeId × Value → H) :
    ReturnsInHanded {} Try.checked os 3 .any (Rows.digestWholeSpec.pre6 enc Try.prog Try.f3 Rows.digestWholeRow.domain false) (Rows.digestWholeSpec.post enc Try.prog Try.f3 false true false false) := by
  refine returnsInHanded_of_change (C := Try.checked) own started (by kernel_rfl) Try.func3
    (ChangeSpec.witness6 (enc := enc) (C := Try.checked) false ⟨#[], #[.agg #[.bool false, .slice none 0 0]], []⟩ 8 (by kernel_rfl) (by kernel_rfl) (by kernel_rfl) (by kernel_rfl)) ?_
  intro W base args ds gs before hval0 hW hcnd _
  have hval : ∀ (j : Nat) t v, Try.f3.params[j]? = some t → args[j]? = some v → Value.okWide Try.prog W .any base t v := hval0
  have hW' := hW
  obtain ⟨p, q, hA0, hV, rfl, hfz, hnd⟩ := hW
  have hA : DataW.TrodAll enc Try.prog W 0 (fun _ => true) true Try.f3.params.toList args.toList ds p := hA0
  rw [Try.params3] at hA hval
  obtain ⟨v0, vs0, d0, ds0, p0, q0, hargs, rfl, rfl, h0, r0⟩ := trodAll_cons hA
  obtain ⟨rfl, rfl, rfl⟩ := trodAll_nil r0
  obtain rfl : args = #[v0] := by cases args; simp_all
  obtain ⟨rfl, rfl⟩ := trodVars_none hV
  have k0 := h0
  have lt0 : ∀ x ∈ p0, x.block < W.heap.size := by obtain ⟨m, hm⟩ := k0; exact DataW.trod_lt m _ _ _ hm
  obtain ⟨c0, c1, y0, y1, m, rfl, rfl, rfl, hy0, hy1⟩ := open_agg2 Try.underlying24 (by kernel_rfl) (by kernel_rfl) (hval 0 24 v0 rfl rfl) h0
  obtain ⟨neg, hn0, _⟩ := DataW.trod_bool Try.underlying4 hy0
  obtain rfl : c0 = .bool neg := by simpa using hn0
  obtain ⟨a0, len0, cap0, z0, rfl, w0⟩ : ∃ a l c zs, c1 = .slice a l c ∧ IsRow .u32 W a l c zs := by
    rcases open_ints Try.underlying22 Try.underlying39 (by kernel_rfl) hy1 with ⟨hcs, _⟩ | ⟨x, l, c, zs, hcs, _, hl, hm, hz, _, hcell, hwz⟩
    · simp at hcs
      exact ⟨none, 0, 0, [], hcs, .inl ⟨rfl, rfl, rfl, rfl⟩⟩
    · simp at hcs
      exact ⟨_, l, c, zs, hcs, .inr ⟨_, rfl, hl, hm, by simpa using hz, hcell, hwz⟩⟩
  clear hA0 hval0
  refine (walk neg a0 len0 cap0 z0 W w0).mono fun e W' ⟨he, bel⟩ => ?_
  subst he
  exact ⟨_, rfl, _, _, _, [], _, [], hW', trodAll_mk1 (shut_bool Try.underlying4 _), (trodAll_cons_mk (Below.trod laidOut (by kernel_rfl) (of_decide_eq_true (by kernel_rfl)) k0 bel lt0) trodAll_mk0), rfl, bel.frame _, fun h => by cases h⟩

theorem over : Rows.digestWholeRow.holds Try.pinned (OpenSpec.ofChange Rows.digestWholeSpec) :=
  OpenClaim.holds_of_wide 3 Try.f3 rfl rfl rfl rfl rfl rfl rfl ⟨rfl, rfl, rfl, rfl, rfl⟩ rfl rfl rfl rfl rfl (by kernel_rfl) Try.func3 (by kernel_rfl)
    (of_decide_eq_true (by kernel_rfl)) (by unfold Func.isWrapper; first | (rw [if_pos (by decide +kernel)]; kernel_rfl) | (rw [if_neg (by decide +kernel)]; exact ⟨rfl, rfl⟩))
    (fun os started H enc _ => lifted os started H enc)

/-- The statement. -/
theorem proved : Rows.DigestWholeSaid := over
#print axioms proved
end Go.Proofs.Ytiofeehcnegejaa.digestWhole
