/- The walk of whole.Rest: what is left of any words by any number from 1 to 2 to the 62nd. -/
import Derived.Test.YtiofeehcnegejaaDigG
namespace Go.Proofs.Ytiofeehcnegejaa
open Go.RowKit Go.Shelf Go.Proofs.YtiofeehcnegejaaW.PrintWords
set_option linter.unusedVariables false
attribute [local go_sem] Oper.semAt_some

/-- What is left by m, of the words that came, the highest first. -/
def rF (m : Int) (pre : List WordAt) : Int := pre.foldl (fun r x => (r * 4294967296 + x.1.2) % m) 0
theorem rF_snoc (m : Int) (pre : List WordAt) (x : WordAt) : rF m (pre ++ [x]) = (rF m pre * 4294967296 + x.1.2) % m := by simp [rF]
theorem rF_bd (m : Int) (hm : 1 ≤ m) (pre : List WordAt) : 0 ≤ rF m pre ∧ rF m pre < m := by
  rcases List.eq_nil_or_concat pre with rfl | ⟨ini, x, rfl⟩
  · exact ⟨by simp [rF], by simp [rF]; omega⟩
  · rw [List.concat_eq_append, rF_snoc]
    exact ⟨Int.emod_nonneg _ (by omega), Int.emod_lt_of_pos _ (by omega)⟩
theorem or_word (r x : Int) (h0 : 0 ≤ r) (x0 : 0 ≤ x) (x1 : x < 4294967296) : bits .or .u64 (IntKind.u64.wrap (r * 4294967296)) x = (r % 4294967296) * 4294967296 + x := by
  have e : IntKind.u64.wrap (r * 4294967296) = (r % 4294967296) * 2 ^ 32 := by rw [Dv.u64w]; omega
  rw [e]
  exact Dv.or_sum (r % 4294967296) x 32 (by omega) (by omega) x0 (by omega) (by omega)

set_option maxRecDepth 100000 in
set_option maxHeartbeats 4000000 in
theorem rest_any (neg : Bool) (A : Option Addr) (n c : Nat) (zs ts : List Int) (m : Int) (w : World) (ht : ts = zs.take (trimLen zs)) (hw : ∀ i, 0 ≤ rd ts i ∧ rd ts i < 4294967296) (hr : ReadsInt w .u32 A n zs) (hc : n ≤ c) (hn : n ≤ 9223372036854775807)
    (hm0 : 1 ≤ m) (hm1 : m ≤ 4611686018427387904) (hneg : neg = false) :
    Calls Try.prog 23 #[.agg #[.bool neg, .slice A n c], .int .i64 m] w fun e w' => e = .returned (.tuple #[.int .i64 (rF m (uptoF (backF ts hw) (trimLen zs))), .int .i64 0]) ∧ Below w.heap.size w w' := by
  have htl : trimLen zs ≤ n := by have := trimLen_le zs; have := hr.1; omega
  have htlen : ts.length = trimLen zs := by rw [ht, List.length_take]; have := trimLen_le zs; omega
  have hrt : ReadsInt w .u32 A (trimLen zs) ts := by rw [ht]; exact hr.take_ _ htl
  obtain ⟨tl, htl'⟩ : ∃ tl, tl = trimLen zs := ⟨_, rfl⟩
  have htrim := fun w' hr' => trim_any A n c zs w' hr' hc hn
  rw [← htl'] at htl htlen hrt htrim ⊢
  have Ht := Lib.hid ht; clear ht
  have Htl := Lib.hid htl'; clear htl'
  have Htr := Lib.hid htrim; clear htrim
  have Htn := Lib.hid htlen; clear htlen
  have Hr := Lib.hid hr; clear hr
  have Hrt := Lib.hid hrt; clear hrt
  subst hneg
  refine (callsIn_wide (n := 8)).1 ?_
  have hB0 : Below w.heap.size w (((w.alloc (Obj.cells #[Value.bool false, Value.slice A n c] 24)).alloc (Obj.cells #[Value.int IntKind.i64 m] 3)).alloc (Obj.cells #[Value.int IntKind.u64 0] 44)) :=
    (((Below.refl _ w).alloc (Nat.le_refl _) _).alloc (by simp) _).alloc (by simp; omega) _
  refine callsIn_of_wp_marks Try.func23 rfl trivial ?_ rfl
  simp only [Try.ntmps23, List.size_toArray, List.length_cons, List.length_nil, Nat.reduceAdd, Nat.reduceSub, Array.replicate_succ, Array.replicate_zero, List.push_toArray, List.append_toArray, List.nil_append, List.cons_append]
  gi_wp2_with (first | (refine ⟨trivial, ?_⟩; gi_at_call 34; refine (callsIn_wide.2 (Htr.out _ (Hr.out.below hB0))).mono ?_; rintro e w' ⟨rfl, q, rfl⟩) | (refine ⟨trivial, ?_⟩; gi_at_call 33; refine (callsIn_wide.2 (back_any _ _ _ _)).mono ?_; rintro e w' ⟨rfl, rfl⟩))
  have z0 : (w.alloc (Obj.cells #[Value.bool false, Value.slice A n c] 24)).heap.size = w.heap.size + 1 := World.size_alloc _ _
  have hb1 := blk_new w (Obj.cells #[Value.bool false, Value.slice A n c] 24)
  generalize w.alloc (Obj.cells #[Value.bool false, Value.slice A n c] 24) = W1 at *
  have z1 : (W1.alloc (Obj.cells #[Value.int IntKind.i64 m] 3)).heap.size = w.heap.size + 1 + 1 := by rw [World.size_alloc, z0]
  have hb2 := blk_new W1 (Obj.cells #[Value.int IntKind.i64 m] 3)
  have hb1' := blk_alloc hb1 (Obj.cells #[Value.int IntKind.i64 m] 3)
  rw [z0] at hb2
  generalize W1.alloc (Obj.cells #[Value.int IntKind.i64 m] 3) = W2 at *
  have z2 : (W2.alloc (Obj.cells #[Value.int IntKind.u64 0] 44)).heap.size = w.heap.size + 1 + 1 + 1 := by rw [World.size_alloc, z1]
  have hb3 := blk_new W2 (Obj.cells #[Value.int IntKind.u64 0] 44)
  have hb2' := blk_alloc hb2 (Obj.cells #[Value.int IntKind.u64 0] 44)
  have hb1'' := blk_alloc hb1' (Obj.cells #[Value.int IntKind.u64 0] 44)
  rw [z1] at hb3
  generalize W2.alloc (Obj.cells #[Value.int IntKind.u64 0] 44) = W3 at *
  have hB3 : Below w.heap.size w (W3.drewN q) := pw_below_drewN hB0 q
  have z3 : ((W3.drewN q).alloc (Obj.cells #[Value.slice A tl c] 22)).heap.size = w.heap.size + 1 + 1 + 1 + 1 := by rw [World.size_alloc]; show W3.heap.size + 1 = _; rw [z2]
  have hb4 := blk_new (W3.drewN q) (Obj.cells #[Value.slice A tl c] 22)
  have hb3' := blk_alloc (blk_drewN hb3 q) (Obj.cells #[Value.slice A tl c] 22)
  have hb2'' := blk_alloc (blk_drewN hb2' q) (Obj.cells #[Value.slice A tl c] 22)
  have hb1''' := blk_alloc (blk_drewN hb1'' q) (Obj.cells #[Value.slice A tl c] 22)
  have hB4 : Below w.heap.size w ((W3.drewN q).alloc (Obj.cells #[Value.slice A tl c] 22)) := hB3.alloc (by show _ ≤ W3.heap.size; omega) _
  rw [show (W3.drewN q).heap.size = w.heap.size + 1 + 1 + 1 from z2] at hb4
  generalize (W3.drewN q).alloc (Obj.cells #[Value.slice A tl c] 22) = W4 at *
  have hst := back_stops Fence.wide (8 - 1) trivial rfl (by omega) (w.heap.size + 1 + 1 + 1) A tl c ts hw w Htn.out (by omega) Hrt.out W4 hB4 hb4
  refine wpIn_rangeFunc_ownG rfl (by omega) (gf := 38) (lb := #[.pointer (some ⟨w.heap.size + 1 + 1 + 1, 0, none⟩)]) rfl trivial (enters_of Try.func38 (by kernel_rfl) rfl)
    hst KpB.t (KpB.b (by omega) (by omega)) (Below.refl _ _) (fun _ => rfl)
    (fun pre W => (W.cell? ⟨w.heap.size + 1 + 1, 0, none⟩ = some (.int .u64 (rF m pre)) ∧ W.frozen? ⟨w.heap.size + 1 + 1, 0, none⟩ = false ∧ W.cell? ⟨w.heap.size + 1, 0, none⟩ = some (.int .i64 m) ∧ W.cell? ⟨w.heap.size, 0, none⟩ = some (.bool false)) ∧ Below w.heap.size w W)
    (fun _ _ _ => False)
    (OwnFrom.and (Own.from (fun s A B row hs hg hr => ⟨cell_kept hs.1 hg hr, (frozen_kept hs.1 hg hr).trans hs.2.1, cell_kept hs.2.2.1 hg hr, cell_kept hs.2.2.2 hg hr⟩) _) (ownFrom_below (Nat.le_refl _) (by omega)))
    (fun _ _ _ _ _ hs _ _ => hs)
    ⟨⟨blk_cell hb3' 0, blk_frozen hb3' 0, blk_cell hb2'' 0, blk_cell hb1''' 0⟩, hB4⟩
    (fun x => { tmps := #[Value.agg #[Value.bool false, Value.slice A n c], Value.int IntKind.i64 m,
          Value.pointer (some { block := w.heap.size, off := 0 }),
          Value.pointer (some { block := w.heap.size + 1, off := 0 }), Value.int IntKind.i64 0, Value.int IntKind.i64 0,
          Value.pointer (some { block := w.heap.size + 1 + 1, off := 0 }), undef, .int .u32 x.1.2, Value.int IntKind.i64 m,
          Value.bool (decide (m < 1)), Value.bool (decide (m < 1)), Value.int IntKind.i64 m,
          Value.bool (decide (4611686018427387904 < m)),
          Value.bool (decide (m < 1) || decide (4611686018427387904 < m)),
          Value.pointer (some { block := w.heap.size, off := 1 }), Value.slice A n c, Value.slice A tl c,
          Value.func (Fn.func 38) #[] #[Value.pointer (some { block := w.heap.size + 1 + 1 + 1, off := 0 })], .int .i64 x.1.1,
          .int .u32 x.1.2, undef, undef, undef, undef, undef, undef, undef, undef, undef, undef, undef, undef, undef, undef,
          undef, undef, undef, undef, undef, undef, undef, undef], defers := [] }) ?assign ?body ?done ?stop
  case assign =>
    intro l x W K hK
    gi_wp2
    exact hK
  case body =>
    rintro l pre x W ⟨⟨hc, hf, hcm, hcn⟩, hB⟩ _
    obtain ⟨hr0, hr1⟩ := rF_bd m hm0 pre
    obtain ⟨hx0, hx1⟩ := x.2
    have e1 := or_word (rF m pre) x.1.2 hr0 hx0 hx1
    obtain ⟨lo, hlo⟩ : ∃ lo, (rF m pre % 4294967296) * 4294967296 + x.1.2 = lo := ⟨_, rfl⟩
    rw [hlo] at e1
    have hcall : ∀ W, Calls Try.prog 35 #[.int .u64 (rF m pre / 4294967296), .int .u64 lo, .int .u64 m] W fun e w' => e = .returned (.int .u64 (rF m (pre ++ [x]))) ∧ Drawn0 W w' := fun W => by
      have h := rem64_any (rF m pre / 4294967296) lo m W (by omega) (by omega) (by omega) (by omega) (by omega) (by omega)
      rw [show rF m pre / 4294967296 * 18446744073709551616 + lo = rF m pre * 4294967296 + x.1.2 by omega, ← rF_snoc] at h
      exact h
    have Hcall := Lib.hid hcall
    clear hcall hlo
    gi_wp2_with (fail)
    refine ⟨trivial, ?_⟩
    refine (CallsIn.inRound l (callsIn_wide.2 (Hcall.out _))).mono ?_
    rintro e w' ⟨rfl, ⟨q', rfl⟩⟩
    gi_wp2
    refine ⟨((⟨Nat.le_refl _, fun _ _ h _ => h⟩ : KeepsOthers W (W.drewN q')).trans (KeepsOthers.setCell _ _ _)).from _, ⟨(pw_below_drewN (Below.refl _ W) q').setCell (p := ⟨w.heap.size + 1 + 1, 0, none⟩) (by simp; omega) _, ?_⟩, ⟨?_, ?_, ?_, ?_⟩, (pw_below_drewN hB q').setCell (p := ⟨w.heap.size + 1 + 1, 0, none⟩) (by simp; omega) _⟩
    · exact Below.heap_setCell _ _ _ _ (by simp)
    · exact World.cell?_setCell_same' _ _ _ (by show (W.cell? _).isSome = true; rw [hc]; rfl)
    · rw [World.frozen?_setCell]; exact hf
    · rw [World.cell?_setCell_other _ _ _ _ (by simp)]; exact hcm
    · rw [World.cell?_setCell_other _ _ _ _ (by simp)]; exact hcn
  case done =>
    rintro D ys W hD rfl ⟨⟨hc, hf, hcm, hcn⟩, hB⟩ hK
    obtain ⟨hr0, hr1⟩ := rF_bd m hm0 (uptoF (backF ts hw) tl)
    gi_wp2
    refine ⟨by simp, .inl ⟨_, _, rfl, run_takeDeferred hK, ?_⟩⟩
    exact ⟨_, results_tmp2 rfl _ _ _, rfl, hB.trans (belowK_b (w := w) (Nat.le_refl _) W D _ _ (by omega) hK rfl rfl)⟩
  case stop =>
    rintro D c pre W _ _ h _
    exact h.elim
end Go.Proofs.Ytiofeehcnegejaa
