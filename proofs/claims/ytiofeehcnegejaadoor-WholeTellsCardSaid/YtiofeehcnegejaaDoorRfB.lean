/- The walk of whole.Rest (turned from the seat of law3 by port_dd.py; a number below 0 besides). -/
import Derived.Test.YtiofeehcnegejaaDoorRfA
import Derived.Test.YtiofeehcnegejaaDoorRfF
namespace Go.Proofs.YtiofeehcnegejaaDoor
open Go.RowKit Go.Shelf Go.Proofs.YtiofeehcnegejaaDoorW.PrintWords
set_option linter.unusedVariables false
attribute [local go_sem] Oper.semAt_some

/-- What is left by m, of the words that came, the highest first. -/
def rF (m : Int) (pre : List WordAt) : Int := pre.foldl (fun r x => (r * 4294967296 + x.1.2) % m) 0
theorem rF_snoc (m : Int) (pre : List WordAt) (x : WordAt) : rF m (pre ++ [x]) = (rF m pre * 4294967296 + x.1.2) % m := by simp [rF]
theorem rF_bd (m : Int) (hm : 1 ≤ m) (pre : List WordAt) : 0 ≤ rF m pre ∧ rF m pre < m := by
  rcases List.eq_nil_or_concat pre with rfl | ⟨ini, x, rfl⟩
  · exact ⟨by simp [rF], by simp [rF]; omega⟩
  · rw [List.concat_eq_append, rF_snoc]
    exact ⟨Int.emod_nonneg _ (by omega), Int.emod_lt_of_pos _ (by omega)⟩
theorem or_word (r x : Int) (h0 : 0 ≤ r) (x0 : 0 ≤ x) (x1 : x < 4294967296) : bits .or .u64 (IntKind.u64.wrap (r * 4294967296)) x = (r % 4294967296) * 4294967296 + x := by
  have e : IntKind.u64.wrap (r * 4294967296) = (r % 4294967296) * 2 ^ 32 := by rw [Dv.u64w]; omega
  rw [e]
  exact Dv.or_sum (r % 4294967296) x 32 (by omega) (by omega) x0 (by omega) (by omega)

set_option maxRecDepth 100000 in
set_option maxHeartbeats 4000000 in
theorem rest_any (neg : Bool) (A : Option Addr) (n c : Nat) (zs ts : List Int) (m : Int) (w : World) (ht : ts = zs.take (trimLen zs)) (hw : ∀ i, 0 ≤ rd ts i ∧ rd ts i < 4294967296) (hr : ReadsInt w .u32 A n zs) (hc : n ≤ c) (hn : n ≤ 9223372036854775807)
    (hm0 : 1 ≤ m) (hm1 : m ≤ 4611686018427387904) (hneg : neg = false) :
    Calls Tryd.prog 39 #[.agg #[.bool neg, .slice A n c], .int .i64 m] w fun e w' => e = .returned (.tuple #[.int .i64 (rF m (uptoF (backF ts hw) (trimLen zs))), .int .i64 0]) ∧ Below w.heap.size w w' := by
  have htl : trimLen zs ≤ n := by have := trimLen_le zs; have := hr.1; omega
  have htlen : ts.length = trimLen zs := by rw [ht, List.length_take]; have := trimLen_le zs; omega
  have hrt : ReadsInt w .u32 A (trimLen zs) ts := by rw [ht]; exact hr.take_ _ htl
  obtain ⟨tl, htl'⟩ : ∃ tl, tl = trimLen zs := ⟨_, rfl⟩
  have htrim := fun w' hr' => trim_any A n c zs w' hr' hc hn
  rw [← htl'] at htl htlen hrt htrim ⊢
  have Ht := Lib.hid ht; clear ht
  have Htl := Lib.hid htl'; clear htl'
  have Htr := Lib.hid htrim; clear htrim
  have Htn := Lib.hid htlen; clear htlen
  have Hr := Lib.hid hr; clear hr
  have Hrt := Lib.hid hrt; clear hrt
  subst hneg
  refine (callsIn_wide (n := 8)).1 ?_
  have hB0 : Below w.heap.size w (((w.alloc (Obj.cells #[Value.bool false, Value.slice A n c] 24)).alloc (Obj.cells #[Value.int IntKind.i64 m] 3)).alloc (Obj.cells #[Value.int IntKind.u64 0] 61)) :=
    (((Below.refl _ w).alloc (Nat.le_refl _) _).alloc (by simp) _).alloc (by simp; omega) _
  refine callsIn_of_wp_marks Tryd.func39 rfl trivial ?_ rfl
  simp only [Tryd.ntmps39, List.size_toArray, List.length_cons, List.length_nil, Nat.reduceAdd, Nat.reduceSub, Array.replicate_succ, Array.replicate_zero, List.push_toArray, List.append_toArray, List.nil_append, List.cons_append]
  gi_wp2_with (first | (refine ⟨trivial, ?_⟩; gi_at_call 54; refine (callsIn_wide.2 (Htr.out _ (Hr.out.below hB0))).mono ?_; rintro e w' ⟨rfl, q, rfl⟩) | (refine ⟨trivial, ?_⟩; gi_at_call 56; refine (callsIn_wide.2 (back_any _ _ _ _)).mono ?_; rintro e w' ⟨rfl, rfl⟩))
  have z0 : (w.alloc (Obj.cells #[Value.bool false, Value.slice A n c] 24)).heap.size = w.heap.size + 1 := World.size_alloc _ _
  have hb1 := blk_new w (Obj.cells #[Value.bool false, Value.slice A n c] 24)
  generalize w.alloc (Obj.cells #[Value.bool false, Value.slice A n c] 24) = W1 at *
  have z1 : (W1.alloc (Obj.cells #[Value.int IntKind.i64 m] 3)).heap.size = w.heap.size + 1 + 1 := by rw [World.size_alloc, z0]
  have hb2 := blk_new W1 (Obj.cells #[Value.int IntKind.i64 m] 3)
  have hb1' := blk_alloc hb1 (Obj.cells #[Value.int IntKind.i64 m] 3)
  rw [z0] at hb2
  generalize W1.alloc (Obj.cells #[Value.int IntKind.i64 m] 3) = W2 at *
  have z2 : (W2.alloc (Obj.cells #[Value.int IntKind.u64 0] 61)).heap.size = w.heap.size + 1 + 1 + 1 := by rw [World.size_alloc, z1]
  have hb3 := blk_new W2 (Obj.cells #[Value.int IntKind.u64 0] 61)
  have hb2' := blk_alloc hb2 (Obj.cells #[Value.int IntKind.u64 0] 61)
  have hb1'' := blk_alloc hb1' (Obj.cells #[Value.int IntKind.u64 0] 61)
  rw [z1] at hb3
  generalize W2.alloc (Obj.cells #[Value.int IntKind.u64 0] 61) = W3 at *
  have hB3 : Below w.heap.size w (W3.drewN q) := pw_below_drewN hB0 q
  have z3 : ((W3.drewN q).alloc (Obj.cells #[Value.slice A tl c] 22)).heap.size = w.heap.size + 1 + 1 + 1 + 1 := by rw [World.size_alloc]; show W3.heap.size + 1 = _; rw [z2]
  have hb4 := blk_new (W3.drewN q) (Obj.cells #[Value.slice A tl c] 22)
  have hb3' := blk_alloc (blk_drewN hb3 q) (Obj.cells #[Value.slice A tl c] 22)
  have hb2'' := blk_alloc (blk_drewN hb2' q) (Obj.cells #[Value.slice A tl c] 22)
  have hb1''' := blk_alloc (blk_drewN hb1'' q) (Obj.cells #[Value.slice A tl c] 22)
  have hB4 : Below w.heap.size w ((W3.drewN q).alloc (Obj.cells #[Value.slice A tl c] 22)) := hB3.alloc (by show _ ≤ W3.heap.size; omega) _
  rw [show (W3.drewN q).heap.size = w.heap.size + 1 + 1 + 1 from z2] at hb4
  generalize (W3.drewN q).alloc (Obj.cells #[Value.slice A tl c] 22) = W4 at *
  have hst := back_stops Fence.wide (8 - 1) trivial rfl (by omega) (w.heap.size + 1 + 1 + 1) A tl c ts hw w Htn.out (by omega) Hrt.out W4 hB4 hb4
  refine wpIn_rangeFunc_ownG rfl (by omega) (gf := 72) (lb := #[.pointer (some ⟨w.heap.size + 1 + 1 + 1, 0, none⟩)]) rfl trivial (enters_of Tryd.func72 (by kernel_rfl) rfl)
    hst KpB.t (KpB.b (by omega) (by omega)) (Below.refl _ _) (fun _ => rfl)
    (fun pre W => (W.cell? ⟨w.heap.size + 1 + 1, 0, none⟩ = some (.int .u64 (rF m pre)) ∧ W.frozen? ⟨w.heap.size + 1 + 1, 0, none⟩ = false ∧ W.cell? ⟨w.heap.size + 1, 0, none⟩ = some (.int .i64 m) ∧ W.cell? ⟨w.heap.size, 0, none⟩ = some (.bool false)) ∧ Below w.heap.size w W)
    (fun _ _ _ => False)
    (OwnFrom.and (Own.from (fun s A B row hs hg hr => ⟨cell_kept hs.1 hg hr, (frozen_kept hs.1 hg hr).trans hs.2.1, cell_kept hs.2.2.1 hg hr, cell_kept hs.2.2.2 hg hr⟩) _) (ownFrom_below (Nat.le_refl _) (by omega)))
    (fun _ _ _ _ _ hs _ _ => hs)
    ⟨⟨blk_cell hb3' 0, blk_frozen hb3' 0, blk_cell hb2'' 0, blk_cell hb1''' 0⟩, hB4⟩
    ?a1 ?assign ?body ?done ?stop
  case assign =>
    intro l x W K hK
    gi_wp2
    exact hK
  case body =>
    rintro l pre x W ⟨⟨hc, hf, hcm, hcn⟩, hB⟩ _
    obtain ⟨hr0, hr1⟩ := rF_bd m hm0 pre
    obtain ⟨hx0, hx1⟩ := x.2
    have e1 := or_word (rF m pre) x.1.2 hr0 hx0 hx1
    obtain ⟨lo, hlo⟩ : ∃ lo, (rF m pre % 4294967296) * 4294967296 + x.1.2 = lo := ⟨_, rfl⟩
    rw [hlo] at e1
    have hcall : ∀ W, Calls Tryd.prog 68 #[.int .u64 (rF m pre / 4294967296), .int .u64 lo, .int .u64 m] W fun e w' => e = .returned (.int .u64 (rF m (pre ++ [x]))) ∧ Drawn0 W w' := fun W => by
      have h := rem64_any (rF m pre / 4294967296) lo m W (by omega) (by omega) (by omega) (by omega) (by omega) (by omega)
      rw [show rF m pre / 4294967296 * 18446744073709551616 + lo = rF m pre * 4294967296 + x.1.2 by omega, ← rF_snoc] at h
      exact h
    have Hcall := Lib.hid hcall
    clear hcall hlo
    gi_wp2_with (fail)
    refine ⟨trivial, ?_⟩
    refine (CallsIn.inRound l (callsIn_wide.2 (Hcall.out _))).mono ?_
    rintro e w' ⟨rfl, ⟨q', rfl⟩⟩
    gi_wp2
    refine ⟨((⟨Nat.le_refl _, fun _ _ h _ => h⟩ : KeepsOthers W (W.drewN q')).trans (KeepsOthers.setCell _ _ _)).from _, ⟨(pw_below_drewN (Below.refl _ W) q').setCell (p := ⟨w.heap.size + 1 + 1, 0, none⟩) (by simp; omega) _, ?_⟩, ⟨?_, ?_, ?_, ?_⟩, (pw_below_drewN hB q').setCell (p := ⟨w.heap.size + 1 + 1, 0, none⟩) (by simp; omega) _⟩
    · exact Below.heap_setCell _ _ _ _ (by simp)
    · exact World.cell?_setCell_same' _ _ _ (by show (W.cell? _).isSome = true; rw [hc]; rfl)
    · rw [World.frozen?_setCell]; exact hf
    · rw [World.cell?_setCell_other _ _ _ _ (by simp)]; exact hcm
    · rw [World.cell?_setCell_other _ _ _ _ (by simp)]; exact hcn
  case done =>
    rintro D ys W hD rfl ⟨⟨hc, hf, hcm, hcn⟩, hB⟩ hK
    obtain ⟨hr0, hr1⟩ := rF_bd m hm0 (uptoF (backF ts hw) tl)
    gi_wp2
    refine ⟨by simp, .inl ⟨_, _, rfl, run_takeDeferred hK, ?_⟩⟩
    exact ⟨_, results_tmp2 rfl _ _ _, rfl, hB.trans (belowK_b (w := w) (Nat.le_refl _) W D _ _ (by omega) hK rfl rfl)⟩
  case stop =>
    rintro D c pre W _ _ h _
    exact h.elim

set_option maxRecDepth 100000 in
set_option maxHeartbeats 4000000 in
theorem rest_neg (neg : Bool) (A : Option Addr) (n c : Nat) (zs ts : List Int) (m : Int) (w : World) (ht : ts = zs.take (trimLen zs)) (hw : ∀ i, 0 ≤ rd ts i ∧ rd ts i < 4294967296) (hr : ReadsInt w .u32 A n zs) (hc : n ≤ c) (hn : n ≤ 9223372036854775807)
    (hm0 : 1 ≤ m) (hm1 : m ≤ 4611686018427387904) (hneg : neg = true) (res : Int) (hres : res = if rF m (uptoF (backF ts hw) (trimLen zs)) = 0 then 0 else m - rF m (uptoF (backF ts hw) (trimLen zs))) :
    Calls Tryd.prog 39 #[.agg #[.bool neg, .slice A n c], .int .i64 m] w fun e w' => e = .returned (.tuple #[.int .i64 res, .int .i64 0]) ∧ Below w.heap.size w w' := by
  have htl : trimLen zs ≤ n := by have := trimLen_le zs; have := hr.1; omega
  have htlen : ts.length = trimLen zs := by rw [ht, List.length_take]; have := trimLen_le zs; omega
  have hrt : ReadsInt w .u32 A (trimLen zs) ts := by rw [ht]; exact hr.take_ _ htl
  obtain ⟨tl, htl'⟩ : ∃ tl, tl = trimLen zs := ⟨_, rfl⟩
  have htrim := fun w' hr' => trim_any A n c zs w' hr' hc hn
  rw [← htl'] at htl htlen hrt htrim hres
  have Hres := Lib.hid hres; clear hres
  have Ht := Lib.hid ht; clear ht
  have Htl := Lib.hid htl'; clear htl'
  have Htr := Lib.hid htrim; clear htrim
  have Htn := Lib.hid htlen; clear htlen
  have Hr := Lib.hid hr; clear hr
  have Hrt := Lib.hid hrt; clear hrt
  subst hneg
  refine (callsIn_wide (n := 8)).1 ?_
  have hB0 : Below w.heap.size w (((w.alloc (Obj.cells #[Value.bool true, Value.slice A n c] 24)).alloc (Obj.cells #[Value.int IntKind.i64 m] 3)).alloc (Obj.cells #[Value.int IntKind.u64 0] 61)) :=
    (((Below.refl _ w).alloc (Nat.le_refl _) _).alloc (by simp) _).alloc (by simp; omega) _
  refine callsIn_of_wp_marks Tryd.func39 rfl trivial ?_ rfl
  simp only [Tryd.ntmps39, List.size_toArray, List.length_cons, List.length_nil, Nat.reduceAdd, Nat.reduceSub, Array.replicate_succ, Array.replicate_zero, List.push_toArray, List.append_toArray, List.nil_append, List.cons_append]
  gi_wp2_with (first | (refine ⟨trivial, ?_⟩; gi_at_call 54; refine (callsIn_wide.2 (Htr.out _ (Hr.out.below hB0))).mono ?_; rintro e w' ⟨rfl, q, rfl⟩) | (refine ⟨trivial, ?_⟩; gi_at_call 56; refine (callsIn_wide.2 (back_any _ _ _ _)).mono ?_; rintro e w' ⟨rfl, rfl⟩))
  have z0 : (w.alloc (Obj.cells #[Value.bool true, Value.slice A n c] 24)).heap.size = w.heap.size + 1 := World.size_alloc _ _
  have hb1 := blk_new w (Obj.cells #[Value.bool true, Value.slice A n c] 24)
  generalize w.alloc (Obj.cells #[Value.bool true, Value.slice A n c] 24) = W1 at *
  have z1 : (W1.alloc (Obj.cells #[Value.int IntKind.i64 m] 3)).heap.size = w.heap.size + 1 + 1 := by rw [World.size_alloc, z0]
  have hb2 := blk_new W1 (Obj.cells #[Value.int IntKind.i64 m] 3)
  have hb1' := blk_alloc hb1 (Obj.cells #[Value.int IntKind.i64 m] 3)
  rw [z0] at hb2
  generalize W1.alloc (Obj.cells #[Value.int IntKind.i64 m] 3) = W2 at *
  have z2 : (W2.alloc (Obj.cells #[Value.int IntKind.u64 0] 61)).heap.size = w.heap.size + 1 + 1 + 1 := by rw [World.size_alloc, z1]
  have hb3 := blk_new W2 (Obj.cells #[Value.int IntKind.u64 0] 61)
  have hb2' := blk_alloc hb2 (Obj.cells #[Value.int IntKind.u64 0] 61)
  have hb1'' := blk_alloc hb1' (Obj.cells #[Value.int IntKind.u64 0] 61)
  rw [z1] at hb3
  generalize W2.alloc (Obj.cells #[Value.int IntKind.u64 0] 61) = W3 at *
  have hB3 : Below w.heap.size w (W3.drewN q) := pw_below_drewN hB0 q
  have z3 : ((W3.drewN q).alloc (Obj.cells #[Value.slice A tl c] 22)).heap.size = w.heap.size + 1 + 1 + 1 + 1 := by rw [World.size_alloc]; show W3.heap.size + 1 = _; rw [z2]
  have hb4 := blk_new (W3.drewN q) (Obj.cells #[Value.slice A tl c] 22)
  have hb3' := blk_alloc (blk_drewN hb3 q) (Obj.cells #[Value.slice A tl c] 22)
  have hb2'' := blk_alloc (blk_drewN hb2' q) (Obj.cells #[Value.slice A tl c] 22)
  have hb1''' := blk_alloc (blk_drewN hb1'' q) (Obj.cells #[Value.slice A tl c] 22)
  have hB4 : Below w.heap.size w ((W3.drewN q).alloc (Obj.cells #[Value.slice A tl c] 22)) := hB3.alloc (by show _ ≤ W3.heap.size; omega) _
  rw [show (W3.drewN q).heap.size = w.heap.size + 1 + 1 + 1 from z2] at hb4
  generalize (W3.drewN q).alloc (Obj.cells #[Value.slice A tl c] 22) = W4 at *
  have hst := back_stops Fence.wide (8 - 1) trivial rfl (by omega) (w.heap.size + 1 + 1 + 1) A tl c ts hw w Htn.out (by omega) Hrt.out W4 hB4 hb4
  refine wpIn_rangeFunc_ownG rfl (by omega) (gf := 72) (lb := #[.pointer (some ⟨w.heap.size + 1 + 1 + 1, 0, none⟩)]) rfl trivial (enters_of Tryd.func72 (by kernel_rfl) rfl)
    hst KpB.t (KpB.b (by omega) (by omega)) (Below.refl _ _) (fun _ => rfl)
    (fun pre W => (W.cell? ⟨w.heap.size + 1 + 1, 0, none⟩ = some (.int .u64 (rF m pre)) ∧ W.frozen? ⟨w.heap.size + 1 + 1, 0, none⟩ = false ∧ W.cell? ⟨w.heap.size + 1, 0, none⟩ = some (.int .i64 m) ∧ W.cell? ⟨w.heap.size, 0, none⟩ = some (.bool true)) ∧ Below w.heap.size w W)
    (fun _ _ _ => False)
    (OwnFrom.and (Own.from (fun s A B row hs hg hr => ⟨cell_kept hs.1 hg hr, (frozen_kept hs.1 hg hr).trans hs.2.1, cell_kept hs.2.2.1 hg hr, cell_kept hs.2.2.2 hg hr⟩) _) (ownFrom_below (Nat.le_refl _) (by omega)))
    (fun _ _ _ _ _ hs _ _ => hs)
    ⟨⟨blk_cell hb3' 0, blk_frozen hb3' 0, blk_cell hb2'' 0, blk_cell hb1''' 0⟩, hB4⟩
    ?a1 ?assign ?body ?done ?stop
  case assign =>
    intro l x W K hK
    gi_wp2
    exact hK
  case body =>
    rintro l pre x W ⟨⟨hc, hf, hcm, hcn⟩, hB⟩ _
    obtain ⟨hr0, hr1⟩ := rF_bd m hm0 pre
    obtain ⟨hx0, hx1⟩ := x.2
    have e1 := or_word (rF m pre) x.1.2 hr0 hx0 hx1
    obtain ⟨lo, hlo⟩ : ∃ lo, (rF m pre % 4294967296) * 4294967296 + x.1.2 = lo := ⟨_, rfl⟩
    rw [hlo] at e1
    have hcall : ∀ W, Calls Tryd.prog 68 #[.int .u64 (rF m pre / 4294967296), .int .u64 lo, .int .u64 m] W fun e w' => e = .returned (.int .u64 (rF m (pre ++ [x]))) ∧ Drawn0 W w' := fun W => by
      have h := rem64_any (rF m pre / 4294967296) lo m W (by omega) (by omega) (by omega) (by omega) (by omega) (by omega)
      rw [show rF m pre / 4294967296 * 18446744073709551616 + lo = rF m pre * 4294967296 + x.1.2 by omega, ← rF_snoc] at h
      exact h
    have Hcall := Lib.hid hcall
    clear hcall hlo
    gi_wp2_with (fail)
    refine ⟨trivial, ?_⟩
    refine (CallsIn.inRound l (callsIn_wide.2 (Hcall.out _))).mono ?_
    rintro e w' ⟨rfl, ⟨q', rfl⟩⟩
    gi_wp2
    refine ⟨((⟨Nat.le_refl _, fun _ _ h _ => h⟩ : KeepsOthers W (W.drewN q')).trans (KeepsOthers.setCell _ _ _)).from _, ⟨(pw_below_drewN (Below.refl _ W) q').setCell (p := ⟨w.heap.size + 1 + 1, 0, none⟩) (by simp; omega) _, ?_⟩, ⟨?_, ?_, ?_, ?_⟩, (pw_below_drewN hB q').setCell (p := ⟨w.heap.size + 1 + 1, 0, none⟩) (by simp; omega) _⟩
    · exact Below.heap_setCell _ _ _ _ (by simp)
    · exact World.cell?_setCell_same' _ _ _ (by show (W.cell? _).isSome = true; rw [hc]; rfl)
    · rw [World.frozen?_setCell]; exact hf
    · rw [World.cell?_setCell_other _ _ _ _ (by simp)]; exact hcm
    · rw [World.cell?_setCell_other _ _ _ _ (by simp)]; exact hcn
  case done =>
    rintro D ys W hD rfl ⟨⟨hc, hf, hcm, hcn⟩, hB⟩ hK
    obtain ⟨hr0, hr1⟩ := rF_bd m hm0 (uptoF (backF ts hw) tl)
    have hRes := Hres.out
    clear Hres
    generalize rF m (uptoF (backF ts hw) tl) = R at *
    by_cases hz : R = 0
    · rw [if_pos hz] at hRes
      subst hz hRes
      have q0 : decide ((0 : Int) < 0) = false := rfl
      gi_wp2
      refine ⟨by simp, .inl ⟨_, _, rfl, run_takeDeferred hK, ?_⟩⟩
      exact ⟨_, results_tmp2 rfl _ _ _, rfl, hB.trans (belowK_b (w := w) (Nat.le_refl _) W D _ _ (by omega) hK rfl rfl)⟩
    · have hgt : 0 < R := by omega
      rw [if_neg hz] at hRes
      subst hRes
      have q0 : decide (0 < R) = true := by simpa using hgt
      have hK2 : (W.setCell ⟨w.heap.size + 1 + 1, 0, none⟩ (.int .u64 (m - R))).heap[D]? = some (.deferred (some [])) := (Below.heap_setCell _ _ _ _ (by show D ≠ w.heap.size + 1 + 1; omega)).trans hK
      have HK2 := Lib.hid hK2
      clear hz hK2
      gi_wp2
      refine ⟨by simp, .inl ⟨_, _, rfl, run_takeDeferred HK2.out, ?_⟩⟩
      exact ⟨_, results_tmp2 rfl _ _ _, rfl, (hB.setCell (p := ⟨w.heap.size + 1 + 1, 0, none⟩) (by simp; omega) _).trans (belowK_b (w := w) (Nat.le_refl _) _ D _ _ (by omega) HK2.out rfl rfl)⟩
  case stop =>
    rintro D c pre W _ _ h _
    exact h.elim

theorem rF_val (m : Int) (ts : List Int) (hw : ∀ i, 0 ≤ rd ts i ∧ rd ts i < 4294967296) (k : Nat) (hk : k ≤ ts.length) : rF m (uptoF (backF ts hw) k) = Dv.valW (ts.drop (ts.length - k)) % m := by
  induction k with
  | zero => simp [rF, uptoF, Dv.valW]
  | succ k ih =>
    rw [uptoF_succ, rF_snoc, ih (by omega), Dv.rest_step]
    have h := Dv.valW_drop (xs := ts) (k := ts.length - (k + 1)) (by omega)
    rw [show ts.length - (k + 1) + 1 = ts.length - k by omega] at h
    rw [h]
    show (_ + rd ts ((ts.length : Int) - 1 - k)) % m = _
    rw [show (ts.length : Int) - 1 - k = ((ts.length - (k + 1) : Nat) : Int) by omega]


theorem neg_emod (v m : Int) (hm : 1 ≤ m) : (if v % m = 0 then 0 else m - v % m) = (-v) % m := by
  by_cases h : v % m = 0
  · rw [if_pos h]
    exact (Int.emod_eq_zero_of_dvd ((Int.dvd_neg).2 (Int.dvd_of_emod_eq_zero h))).symm
  · rw [if_neg h]
    have h0 := Int.emod_nonneg v (show m ≠ 0 by omega)
    have h1 := Int.emod_lt_of_pos v (show 0 < m by omega)
    have e := Int.mul_ediv_add_emod v m
    have e2 : -v = (m - v % m) + m * (-(v / m) - 1) := by rw [Int.mul_sub, Int.mul_neg, Int.mul_one]; omega
    have h2 : (-v) % m = ((m - v % m) + m * (-(v / m) - 1)) % m := by rw [← e2]
    have h3 : (m - v % m) % m = m - v % m := Int.emod_eq_of_lt (by omega) (by omega)
    rw [h2, Int.add_mul_emod_self_left, h3]
/-- Rest of any number by a number that may be. -/
theorem Rest_any (neg : Bool) (A : Option Addr) (n c : Nat) (zs : List Int) (m : Int) (w : World) (hw : Dv.Wd zs) (hr : ReadsInt w .u32 A n zs) (hc : n ≤ c) (hn : n ≤ 9223372036854775807) (hm0 : 1 ≤ m) (hm1 : m ≤ 4611686018427387904) :
    Calls Tryd.prog 39 #[.agg #[.bool neg, .slice A n c], .int .i64 m] w fun e w' => e = .returned (.tuple #[.int .i64 (vI neg zs % m), .int .i64 0]) ∧ Below w.heap.size w w' := by
  have hl : (zs.take (trimLen zs)).length = trimLen zs := by rw [List.length_take]; have := trimLen_le zs; omega
  have hv : rF m (uptoF (backF (zs.take (trimLen zs)) (hw.take _).get) (trimLen zs)) = Dv.valW zs % m := by
    rw [rF_val _ _ _ _ (by omega), hl, Nat.sub_self, List.drop_zero, valW_trim]
  cases neg
  · refine (rest_any false A n c zs (zs.take (trimLen zs)) m w rfl (hw.take _).get hr hc hn hm0 hm1 rfl).mono ?_
    rintro e w' ⟨rfl, hb⟩
    exact ⟨by rw [hv]; rfl, hb⟩
  · refine (rest_neg true A n c zs (zs.take (trimLen zs)) m w rfl (hw.take _).get hr hc hn hm0 hm1 rfl _ rfl).mono ?_
    rintro e w' ⟨rfl, hb⟩
    exact ⟨by rw [hv, neg_emod _ _ hm0]; rfl, hb⟩
end Go.Proofs.YtiofeehcnegejaaDoor
