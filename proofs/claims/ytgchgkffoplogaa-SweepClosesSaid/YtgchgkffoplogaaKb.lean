/- A table that is none: Mark and Sweep of it. -/
import Derived.Test.YtgchgkffoplogaaKa
namespace Go.Proofs.Ytgchgkffoplogaa
open Go.RowKit Go.Shelf Go.Proofs.YtgchgkffoplogaaW.PrintWords
set_option linter.unusedVariables false
set_option linter.unusedSimpArgs false
attribute [local go_sem] Oper.semAt_some

set_option maxRecDepth 100000 in
theorem has_nil (w : World) (i : Int) : Calls Try.prog 60 #[.pointer none, .int .i64 i] w fun e w' => e = .returned (.bool false) ∧ w = w' := by
  go_enter Try.func60, Try.ntmps60
  go_wp2
  go_ret
  exact ⟨rfl, rfl⟩
set_option maxRecDepth 100000 in
theorem high_nil (w : World) : Calls Try.prog 52 #[.pointer none] w fun e w' => e = .returned (.int .i64 0) ∧ w = w' := by
  go_enter Try.func52, Try.ntmps52
  go_wp2
  go_ret
  exact ⟨rfl, rfl⟩
set_option maxRecDepth 100000 in
theorem get_nil (w : World) (i : Int) : Calls Try.prog 54 #[.pointer none, .int .i64 i] w fun e w' => e = .returned (.tuple #[.slice none 0 0, .bool false]) ∧ Below w.heap.size w w' := by
  go_enter Try.func54, Try.ntmps54
  go_wp2_with (go_at_call 60; refine (has_nil _ _).mono ?_; rintro e w1 ⟨rfl, rfl⟩)
  go_ret2
  exact ⟨rfl, below_alloc (Below.refl _ _) _⟩
set_option maxRecDepth 100000 in
theorem reach_nil {W : World} {bs bb bk : Nat} (hs : W.cell? ⟨bs, 0, none⟩ = some (.pointer none)) (A : Option Addr) (cA : Nat) (xs : List Int) (hr : ReadsInt W .i64 A xs.length xs) :
    Calls Try.prog 53 #[.slice A xs.length cA, .pointer (some ⟨bs, 0, none⟩), .pointer (some ⟨bb, 0, none⟩), .pointer (some ⟨bk, 0, none⟩)] W fun e W' => e = .returned (.tuple #[]) ∧ Below W.heap.size W W' := by
  have hn9 := hr.2.1
  have Hr := Lib.hid hr; have Hs := Lib.hid hs
  clear hr hs
  go_enter Try.func53, Try.ntmps53
  go_wp2
  go_loopw [11] (fun iv wr => ∃ j : Nat, j ≤ xs.length ∧ iv = .int .i64 j ∧ Hid (Below W.heap.size W wr)) (fun iv _ => xs.length - (intOf iv).toNat)
  case atStart => exact ⟨0, Nat.zero_le _, rfl, Lib.hid (Below.refl _ _)⟩
  case round =>
    obtain ⟨j, hj, rfl, HB⟩ := hrel
    by_cases hlt : j < xs.length
    · obtain ⟨ad, rfl, hcell⟩ := (Hr.out.below HB.out).at_ (j : Int) (by omega) (by omega)
      rw [Int.toNat_natCast] at hcell
      generalize rd xs (j : Int) = x at *
      have cs := pw_cell_below HB.out Hs.out
      have p0 : (0 : Int) ≤ (j : Int) := by omega
      have p1 : (j : Int) < (xs.length : Int) := by omega
      go_wp2_with (go_at_call 54; refine (get_nil _ _).mono ?_; rintro e w1 ⟨rfl, hb1⟩; have HB1 := Lib.hid (below_then HB.out HB.out.size hb1); clear hb1)
      go_roundw
      case rel => exact ⟨j + 1, by omega, by go_num, HB1⟩
      case measure => simp [intOf]; omega
    · have p1 : ¬ (j : Int) < (xs.length : Int) := by omega
      go_wp2
      go_end0
      exact ⟨rfl, HB.out⟩

/-- Mark's variables at the beginning, the table none. -/
theorem mark_start0 (w : World) (n : Nat) (hn : n ≤ 100000) (W4 : World) (e : W4 = ((((w.alloc (.cells #[.pointer none] 54)).alloc (.cells (madeCells #[.int .u64 0] n) 98)).alloc (.cells #[.slice (some ⟨w.heap.size + 1, 0, none⟩) n n] 82)).alloc (.cells #[.slice none 0 0] 22))) :
    W4.heap[w.heap.size]? = some (.cells #[.pointer none] 54 (0, 0)) ∧ BitsAt w W4 (w.heap.size + 1 + 1) (w.heap.size + 1) n (List.replicate n 0) ∧ W4.heap[w.heap.size + 1 + 1 + 1]? = some (.cells #[.slice none 0 0] 22 (0, 0)) := by
  subst e
  obtain ⟨W1, hW1⟩ : ∃ W1, W1 = w.alloc (.cells #[.pointer none] 54) := ⟨_, rfl⟩
  obtain ⟨W2, hW2⟩ : ∃ W2, W2 = W1.alloc (.cells (madeCells #[.int .u64 0] n) 98) := ⟨_, rfl⟩
  obtain ⟨W3, hW3⟩ : ∃ W3, W3 = W2.alloc (.cells #[.slice (some ⟨w.heap.size + 1, 0, none⟩) n n] 82) := ⟨_, rfl⟩
  obtain ⟨W4, hW4⟩ : ∃ W4, W4 = W3.alloc (.cells #[.slice none 0 0] 22) := ⟨_, rfl⟩
  rw [← hW1, ← hW2, ← hW3, ← hW4]
  have s1 : W1.heap.size = w.heap.size + 1 := by rw [hW1]; simp
  have s2 : W2.heap.size = w.heap.size + 1 + 1 := by rw [hW2]; simp [s1]
  have s3 : W3.heap.size = w.heap.size + 1 + 1 + 1 := by rw [hW3]; simp [s2]
  have b1 : Below w.heap.size w W1 := by rw [hW1]; exact below_alloc (Below.refl _ _) _
  have b2 : Below W1.heap.size W1 W2 := by rw [hW2]; exact below_alloc (Below.refl _ _) _
  have b3 : Below W2.heap.size W2 W3 := by rw [hW3]; exact below_alloc (Below.refl _ _) _
  have b4 : Below W3.heap.size W3 W4 := by rw [hW4]; exact below_alloc (Below.refl _ _) _
  have b34 : Below W2.heap.size W2 W4 := below_then b3 b3.size b4
  have b14 : Below W1.heap.size W1 W4 := below_then b2 b2.size b34
  have h1 : W1.heap[w.heap.size]? = some (.cells #[.pointer none] 54 (0, 0)) := by rw [hW1]; exact blk_new w _
  have h2 : W2.ownsRow w.heap.size 98 1 (.slice (some ⟨w.heap.size + 1, 0, none⟩) n n) (List.replicate n (0 : Int)).length (nums .u64 (List.replicate n 0)) := by
    have h := own_made' W1 w.heap.size 98 .u64 n b1.size (by omega)
    rw [s1] at h
    rw [hW2]; exact h
  have h3 : W3.heap[w.heap.size + 1 + 1]? = some (.cells #[.slice (some ⟨w.heap.size + 1, 0, none⟩) n n] 82 (0, 0)) := by
    have h := blk_new W2 (.cells #[.slice (some ⟨w.heap.size + 1, 0, none⟩) n n] 82)
    rw [s2] at h
    rw [hW3]; exact h
  have h4 : W4.heap[w.heap.size + 1 + 1 + 1]? = some (.cells #[.slice none 0 0] 22 (0, 0)) := by
    have h := blk_new W3 (.cells #[.slice none 0 0] 22)
    rw [s3] at h
    rw [hW4]; exact h
  have hl : (List.replicate n (0 : Int)).length = n := List.length_replicate
  refine ⟨blk_below h1 b14, ⟨by rw [hl]; exact blk_below h3 b4, ?_, fun x hx => by rw [List.eq_of_mem_replicate hx]; omega, below_then b1 b1.size b14⟩, h4⟩
  have := pw_own_below h2 b34
  rw [hl] at this ⊢
  exact this

set_option maxRecDepth 100000 in
set_option maxHeartbeats 1600000 in
theorem mark_nil {w : World} (A : Option Addr) (cA : Nat) (rl : List Int) (hr : ReadsInt w .i64 A rl.length rl) :
    Calls Try.prog 27 #[.pointer none, .slice A rl.length cA, .func (.func 28) #[] #[]] w fun e w' => e = .returned (.slice none 0 0) ∧ Below w.heap.size w w' := by
  have hmake := print_make_of (P := Try.prog) 82 98 (.int .u64 0) 8 Try.underlying82 info98 rfl (by decide) 1 (by omega)
  have hcast : ((1 : Nat) : Int) = 1 := rfl
  rw [hcast] at hmake
  have Hr := Lib.hid hr
  clear hr hcast
  go_enter Try.func27, Try.ntmps27
  go_upto_region 4 with (go_at_call 52; refine (high_nil _).mono ?_; rintro e w1 ⟨rfl, rfl⟩)
  obtain ⟨V4, hV4⟩ : ∃ V4, V4 = ((((w.alloc (Obj.cells #[Value.pointer none] 54)).alloc (Obj.cells (madeCells #[Value.int IntKind.u64 0] 1) 98)).alloc (Obj.cells #[Value.slice (some { block := w.heap.size + 1, off := 0 }) 1 1] 82)).alloc (Obj.cells #[Value.slice none 0 0] 22)) := ⟨_, rfl⟩
  obtain ⟨hs4, hb4, hk4⟩ := mark_start0 w 1 (by omega) V4 hV4
  rw [← hV4]
  have hreach := fun (cs : V4.cell? ⟨w.heap.size, 0, none⟩ = some (.pointer none)) => reach_nil (bb := w.heap.size + 1 + 1) (bk := w.heap.size + 1 + 1 + 1) cs A cA rl (Hr.out.below hb4.bel)
  have hreach := hreach (blk_cell hs4 0)
  have Hreach := Lib.hid hreach; have Hs4 := Lib.hid hs4; have Hb4 := Lib.hid hb4; have Hk4 := Lib.hid hk4
  clear hmake hreach hs4 hb4 hk4 hV4
  obtain ⟨bs, hbs⟩ : ∃ bs, bs = w.heap.size := ⟨_, rfl⟩
  obtain ⟨g, hg⟩ : ∃ g, g = w.heap.size + 1 := ⟨_, rfl⟩
  obtain ⟨bb, hbb⟩ : ∃ bb, bb = w.heap.size + 1 + 1 := ⟨_, rfl⟩
  obtain ⟨bk, hbk⟩ : ∃ bk, bk = w.heap.size + 1 + 1 + 1 := ⟨_, rfl⟩
  have hHb4 := Hb4.out
  rw [← hbb, ← hg] at hHb4
  have hHs4 := Hs4.out
  have hHk4 := Hk4.out
  rw [← hbk] at hHk4
  rw [← hbs] at hHs4
  rw [← hbk, ← hbb, ← hbs] at Hreach
  rw [← hbk, ← hbb, ← hg, ← hbs]
  clear hbs hg hbb hbk Hb4 Hs4 Hk4
  have Hb4 := Lib.hid hHb4; have Hs4 := Lib.hid hHs4; have Hk4 := Lib.hid hHk4
  clear hHb4 hHs4 hHk4
  go_upto_region 5 with (go_at_call 53; refine Hreach.out.mono ?_; rintro e w5 ⟨rfl, hb5⟩; have HB5 := Lib.hid hb5; clear hb5)
  have hbits : BitsAt w w5 bb g 1 (List.replicate 1 0) := ⟨blk_below Hb4.out.b HB5.out, pw_own_below Hb4.out.rb HB5.out, Hb4.out.wd, below_then Hb4.out.bel Hb4.out.bel.size HB5.out⟩
  have ck := blk_cell (blk_below Hk4.out HB5.out) 0
  have cs := blk_cell (blk_below Hs4.out HB5.out) 0
  have cb := blk_cell hbits.b 0
  obtain ⟨hcl, hbl, _⟩ := hbits.cleared (by decide)
  have Hbl := Lib.hid hbl
  clear hbl hbits Hreach Hb4 Hs4 Hk4
  simp only [List.length_replicate] at cb hcl
  have p0 : ¬ (0 : Int) < 0 := by omega
  go_loopg [10] (0 : Nat) (fun k _ wr => wr = w5)
  case atStart => rfl
  case round =>
    obtain rfl := hrel.symm
    go_wp2_with (go_at_call 52; refine (high_nil _).mono ?_; rintro e w1 ⟨rfl, rfl⟩)
    go_loopg [12, 51] (0 : Nat) (fun k v iv wr => v = .slice none 0 0 ∧ iv = .int .i64 0 ∧ wr = w5)
    case atStart => exact ⟨rfl, rfl, rfl⟩
    case round =>
      obtain ⟨rfl, rfl, hrel⟩ := hrel
      obtain rfl := hrel.symm
      go_wp2_with (simp only [hcl])
      go_ret
      exact ⟨rfl, Hbl.out⟩

set_option maxRecDepth 100000 in
set_option maxHeartbeats 400000 in
theorem all_nil (w : World) : Calls Try.prog 57 #[.pointer none] w fun e w' => ∃ it, e = .returned it ∧ (∃ v, V.IterAt w.heap.size w' it [] w.heap.size v) ∧ Below w.heap.size w w' := by
  go_enter Try.func57, Try.ntmps57
  go_wp2_with (go_at_call 52; refine (high_nil _).mono ?_; rintro e w1 ⟨rfl, rfl⟩)
  go_loopg [7] (0 : Nat) (fun k iv wr => iv = .int .i64 0 ∧ wr = w.alloc (.cells #[.slice none 0 0] 99))
  case atStart => exact ⟨rfl, rfl⟩
  case round =>
    obtain ⟨rfl, rfl⟩ := hrel
    go_wp2
    go_ret
    exact ⟨_, rfl, ⟨.slice none 0 0, rfl, blk_new w _, OwnRow.none_ _ _ _ _ _, Nat.le_refl _⟩, below_alloc (Below.refl _ _) _⟩

set_option maxRecDepth 100000 in
set_option maxHeartbeats 4000000 in
theorem sweep_nil {W : World} (A : Option Addr) (cA : Nat) (rl : List Int) (hr : ReadsInt W .i64 A rl.length rl) :
    Calls Try.prog 32 #[.pointer none, .slice A rl.length cA, .func (.func 28) #[] #[]] W fun e W' => (∃ A' c', e = .returned (.slice A' 0 c')) ∧ Below W.heap.size W W' := by
  have hmark := mark_nil A cA rl hr
  have Hmark := Lib.hid hmark
  clear hmark hr
  refine (callsIn_wide (n := 8)).1 ?_
  refine callsIn_of_wp_marks Try.func32 rfl trivial ?_ rfl
  simp only [Try.ntmps32, List.size_toArray, List.length_cons, List.length_nil, Nat.reduceAdd, Nat.reduceSub, Array.replicate_succ, Array.replicate_zero, List.push_toArray, List.append_toArray, List.nil_append, List.cons_append]
  gi_wp2_with (first | (refine ⟨trivial, ?_⟩; gi_at_call 27; refine (callsIn_wide.2 Hmark.out).mono ?_; rintro e w1 ⟨rfl, hb1⟩; have HB1 := Lib.hid hb1; clear hb1) | (refine ⟨trivial, ?_⟩; gi_at_call 57; refine (callsIn_wide.2 (all_nil _)).mono ?_; rintro e w3 ⟨it, rfl, ⟨v3, hI⟩, hb3⟩; obtain rfl := hI.fn; have HI := Lib.hid hI; have HB3 := Lib.hid hb3; clear hI hb3))
  obtain ⟨bk, hbk⟩ : ∃ bk, bk = w1.heap.size := ⟨_, rfl⟩
  have hz2 : ((w1.alloc (Obj.cells #[Value.slice none 0 0] 22)).alloc (Obj.cells #[Value.slice none 0 0] 22)).heap.size = bk + 1 + 1 := by simp [hbk]
  have hbkb : ((w1.alloc (Obj.cells #[Value.slice none 0 0] 22)).alloc (Obj.cells #[Value.slice none 0 0] 22)).heap[bk]? = some (.cells #[.slice none 0 0] 22 (0, 0)) := by
    rw [hbk]; exact blk_alloc (blk_new w1 _) _
  have hbob : ((w1.alloc (Obj.cells #[Value.slice none 0 0] 22)).alloc (Obj.cells #[Value.slice none 0 0] 22)).heap[bk + 1]? = some (.cells #[.slice none 0 0] 22 (0, 0)) := by
    have := blk_new (w1.alloc (Obj.cells #[Value.slice none 0 0] 22)) (Obj.cells #[Value.slice none 0 0] 22)
    rw [World.size_alloc, ← hbk] at this; exact this
  have hb2 : Below w1.heap.size w1 ((w1.alloc (Obj.cells #[Value.slice none 0 0] 22)).alloc (Obj.cells #[Value.slice none 0 0] 22)) := below_alloc (below_alloc (Below.refl _ _) _) _
  have hI := HI.out
  have hB3 := HB3.out
  rw [hz2] at hI hB3
  rw [← hbk] at hb2 ⊢
  generalize (w1.alloc (Obj.cells #[Value.slice none 0 0] 22)).alloc (Obj.cells #[Value.slice none 0 0] 22) = w2 at *
  have hb13 : Below w1.heap.size w1 w3 := by rw [← hbk]; exact hb2.trans (hB3.mono (by omega))
  have hbW3 : Below W.heap.size W w3 := below_then HB1.out HB1.out.size hb13
  have hob3 := (hB3.block (bk + 1) (by omega)).trans hbob
  have hkb3 := (hB3.block bk (by omega)).trans hbkb
  have hbkW : W.heap.size ≤ bk := by rw [hbk]; exact HB1.out.size
  obtain ⟨n1, hn1⟩ : ∃ n1, n1 = w3.heap.size := ⟨_, rfl⟩
  have hlb : bk + 1 + 1 < n1 := by rw [hn1]; exact blk_lt hI.blk
  have hst := all_stops Fence.wide (8 - 1) trivial rfl (by omega) (bk + 1 + 1) bk (bk + 1) [] v3 (bk + 1 + 1) w3 hI.row (by simp) (by omega) (by omega) (by omega) (by omega) hI.blk
  rw [← hn1] at hst
  have h0 : SwAt n1 bk (bk + 1) w3 w3 ([], []) := ⟨⟨none, 0, hkb3, ReadsInt.nil _ _, Nat.le_refl _, fun h => absurd h (by simp)⟩, ⟨_, hob3, own_nil _ _ _ _⟩, KpS.refl _ _ _ _⟩
  have Hn1 := Lib.hid hn1; have HbW3 := Lib.hid hbW3
  clear Hmark HB1 HI HB3 hz2 hbkb hbob hb2 hI hB3 hb13 hkb3 hob3 hbW3 hbk hn1
  refine wpIn_rangeFunc_ownG rfl (by omega) (gf := 61) (lb := #[.pointer (some ⟨bk + 1 + 1, 0, none⟩)]) rfl trivial (enters_of Try.func61 (by kernel_rfl) rfl)
    hst KpS.t (fun W l o o' h1 h2 h3 h4 => KpS.b W l o o' (by rw [Hn1.out]; exact h1) h2 h3 h4) (Below.refl _ _) (fun _ => rfl)
    (fun pre W => SwAt n1 bk (bk + 1) w3 W ([], []))
    (fun _ _ _ => False)
    (by rw [← Hn1.out]; exact swAt_own (fun _ => ([], [])) (Nat.le_of_eq Hn1.out) (by omega) (by omega))
    (fun _ _ _ _ _ hs _ _ => hs)
    h0
    (fun x => { tmps := #[Value.pointer none, Value.slice A rl.length cA, Value.func (Fn.func 28) #[] #[],
          undef, undef, undef, Value.slice none 0 0, Value.pointer (some { block := bk, off := 0 }),
          Value.pointer (some { block := bk + 1, off := 0 }), .int .i64 x.1, undef, undef,
          Value.pointer none, Value.slice A rl.length cA, Value.func (Fn.func 28) #[] #[],
          Value.slice none 0 0, Value.pointer none,
          Value.func (Fn.func 61) #[] #[Value.pointer (some { block := bk + 1 + 1, off := 0 })], .int .i64 x.1, V.encE x.2,
          undef, undef, undef, undef, undef, undef, undef, undef, undef, undef, undef, undef, undef, undef, undef,
          undef, undef, undef, undef, undef, undef, undef, undef, undef, undef, undef, undef], defers := [] }) ?assign ?body ?done ?stop
  case assign =>
    intro l x W K hK
    gi_wp2
    exact hK
  case body =>
    rintro l pre x W4 hI hlen
    exact absurd hlen (by simp)
  case done =>
    rintro D ys W4 hD hys hI hK
    obtain ⟨_, ⟨vo, h3, h4⟩, h5⟩ := hI
    obtain ⟨Ao, co, rfl⟩ := own_slice h4
    have cb := blk_cell h3 0
    have H5 := Lib.hid h5; have HK := Lib.hid hK
    clear h3 h4 h5 hK h0 hst
    have hz : ¬ (0 : Int) < 0 := by omega
    gi_wp2
    gi_loopw [38] (fun iv wr => iv = .int .i64 0 ∧ wr = W4) (fun iv _ => 0)
    case atStart => exact ⟨rfl, rfl⟩
    case round =>
      obtain ⟨rfl, hrel⟩ := hrel
      obtain rfl := hrel.symm
      gi_wp2
      refine ⟨by simp, .inl ⟨_, _, rfl, run_takeDeferred HK.out, ?_⟩⟩
      refine ⟨_, results_tmp rfl _ _ _, ?_⟩
      have h5 := H5.out
      have hn := Hn1.out
      have hw := HbW3.out.size
      refine ⟨⟨Ao, co, rfl⟩, HbW3.out.trans ⟨h5.os, h5.tape, h5.output, by simpa using h5.size, fun k hk => ?_⟩⟩
      exact (World.putObj_heap_other (by omega)).trans (h5.block k (by omega) (by omega) (by omega))
  case stop =>
    rintro D c pre W _ _ h _
    exact h.elim
end Go.Proofs.Ytgchgkffoplogaa
