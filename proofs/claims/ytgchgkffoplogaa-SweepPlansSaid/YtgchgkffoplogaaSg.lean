/- Add: where no slot is free. -/
import Derived.Test.YtgchgkffoplogaaSf
import Derived.Test.YtgchgkffoplogaaLd
namespace Go.Proofs.Ytgchgkffoplogaa
open Go.RowKit Go.Proofs.YtgchgkffoplogaaW.PrintWords
set_option linter.unusedVariables false
set_option linter.unusedSimpArgs false

theorem info4 : (Try.prog.info? 4).map (fun i => (i.zero, i.size, i.bytes)) = some (some (.bool false), 1, 1) := by kernel_rfl


theorem own_below0 {w w' : World} {B e size n : Nat} {v : Value} {xs : List Value} (h : w.ownsRow B e size v n xs) (hb : Below w.heap.size w w') : w'.ownsRow B e size v n xs := own_move h (fun k hk => hb.block k (own_lt h k hk))

theorem addfull_close {w w2 : World} {B g1 g2 c1 c2 : Nat} {ok : Nat → Prop} {vl vt vf : Value} {L : List Int} {T : List Bool} {F : List Int} {x : Int} (h : TabI w B ok vl vt vf L T F)
    (hS : w2.heap[B]? = some (.cells #[vl, vt, vf] 34 (0, 0))) (hr1 : w2.ownsRow 0 3 1 (.slice (some ⟨g1, 0, none⟩) (L.length + 1) c1) (L.length + 1) (encs (Value.int .i64) L ++ [.int .i64 x]))
    (hr2 : w2.ownsRow 0 4 1 (.slice (some ⟨g2, 0, none⟩) (L.length + 1) c2) (L.length + 1) (encs Value.bool T ++ [.bool true]))
    (K2 : Kept (fun k => vl.ownBlock = some k ∨ vt.ownBlock = some k) w w2) (hat1 : vl.ownBlock = some g1 ∨ w.heap.size ≤ g1) (hat2 : vt.ownBlock = some g2 ∨ w.heap.size ≤ g2) :
    TabI ((w2.setCell ⟨B, 0, none⟩ (.slice (some ⟨g1, 0, none⟩) (L.length + 1) c1)).setCell ⟨B, 1, none⟩ (.slice (some ⟨g2, 0, none⟩) (L.length + 1) c2)) B (fun k => ok k ∨ w.heap.size ≤ k) (.slice (some ⟨g1, 0, none⟩) (L.length + 1) c1) (.slice (some ⟨g2, 0, none⟩) (L.length + 1) c2) vf (L ++ [x]) (T ++ [true]) F ∧
    Kept ok w ((w2.setCell ⟨B, 0, none⟩ (.slice (some ⟨g1, 0, none⟩) (L.length + 1) c1)).setCell ⟨B, 1, none⟩ (.slice (some ⟨g2, 0, none⟩) (L.length + 1) c2)) := by
  have hrf : w2.ownsRow 0 3 1 vf F.length (nums .i64 F) := own_move h.rf (fun k e => K2.block k (own_lt h.rf k e) (by
    rintro (e' | e')
    · exact h.ne k e' e
    · exact (own_type_ne h.rt h.rf (by decide)).elim (fun z => by rw [z] at e'; simp at e') (fun z => z (e'.trans e.symm))))
  have hne1 : some B ≠ Value.ownBlock (.slice (some ⟨g1, 0, none⟩) (L.length + 1) c1) := own_ne hr1 hS (by decide)
  have hne2 : some B ≠ Value.ownBlock (.slice (some ⟨g2, 0, none⟩) (L.length + 1) c2) := own_ne hr2 hS (by decide)
  have hnef : some B ≠ vf.ownBlock := own_ne hrf hS (by decide)
  refine ⟨⟨blk_set (blk_set hS 0 _) 1 _, ?_, ?_, own_setCell (own_setCell hrf (p := ⟨B, 0, none⟩) hnef _) (p := ⟨B, 1, none⟩) hnef _, ?_, h.fr.snoc, by simp [h.len], .inl h.okB, ?_, ?_, fun k e => .inl (h.okf k e)⟩, ?_⟩
  · rw [List.length_append, List.length_singleton, encs_append]
    exact own_setCell (own_setCell hr1 (p := ⟨B, 0, none⟩) hne1 _) (p := ⟨B, 1, none⟩) hne1 _
  · rw [List.length_append, List.length_singleton, encs_append]
    exact own_setCell (own_setCell hr2 (p := ⟨B, 0, none⟩) hne2 _) (p := ⟨B, 1, none⟩) hne2 _
  · intro k e e'
    have hk : g1 = k := by simpa [Value.ownBlock] using e
    subst hk
    rcases hat1 with e1 | e1
    · exact h.ne g1 e1 e'
    · have := own_lt h.rf _ e'; omega
  · intro k e
    have hk : g1 = k := by simpa [Value.ownBlock] using e
    subst hk
    exact hat1.imp (fun e1 => h.okl _ e1) id
  · intro k e
    have hk : g2 = k := by simpa [Value.ownBlock] using e
    subst hk
    exact hat2.imp (fun e1 => h.okt _ e1) id
  · exact ((K2.mono (fun k e _ => e.elim (h.okl k) (h.okt k))).setCell (p := ⟨B, 0, none⟩) (.inl h.okB) _).setCell (p := ⟨B, 1, none⟩) (.inl h.okB) _

set_option maxRecDepth 100000 in
set_option maxHeartbeats 1600000 in
theorem addfull_any {w : World} {B : Nat} {ok : Nat → Prop} {vl vt vf : Value} {L : List Int} {T : List Bool} {F : List Int} (h : TabI w B ok vl vt vf L T F) (hl : L.length ≤ 100000) (x : Int) (h0 : F = []) :
    Calls Try.prog 14 #[.pointer (some ⟨B, 0, none⟩), .int .i64 x] w fun e w' => e = .returned (.int .i64 L.length) ∧ ∃ vl' vt', TabI w' B (fun k => ok k ∨ w.heap.size ≤ k) vl' vt' vf (L ++ [x]) (T ++ [true]) F ∧ Kept ok w w' := by
  have hc2 : w.cell? ⟨B, 2, none⟩ = some vf := blk_cell h.blk 2
  obtain ⟨A2, c2, rfl⟩ := own_slice h.rf
  have hF0 : F.length = 0 := by rw [h0]; rfl
  have H := Lib.hid h
  have hblk := h.blk
  clear h
  rw [hF0] at hc2 hblk
  obtain ⟨i3, hi3, z31, z32, z33⟩ := info_parts info3
  obtain ⟨i4, hi4, z41, z42, z43⟩ := info_parts info4
  go_enter Try.func14, Try.ntmps14
  go_upto_region 4 with (fail)
  refine wp_region_L [17, 20] (fun w' => w'.heap[B]? = some (.cells #[vl, vt, .slice A2 0 c2] 34 (0, 0))) (by kernel_rfl) ?_
  have hS : w.drew.heap[B]? = some (.cells #[vl, vt, .slice A2 0 c2] 34 (0, 0)) := hblk
  have hnl : some B ≠ vl.ownBlock := own_ne H.out.rl H.out.blk (by decide)
  (refine wpAnyL_take (i := 0) (v := ?_) rfl (by kernel_rfl) (by kernel_rfl) (by kernel_rfl) (by kernel_rfl) (fun _ _ _ h => h) (Or.inl ⟨by rfl, ?_⟩) (fun _ => by assumption) ?_; rotate_left; (intro w' _; go_simp; (try with_reducible rfl)); (try simp only [Act.put, List.setIfInBounds_toArray, List.set_cons_zero, List.set_cons_succ]))
  (refine wpAnyL_take (i := 1) (v := ?_) rfl (by kernel_rfl) (by kernel_rfl) (by kernel_rfl) (by kernel_rfl) (fun _ _ _ h => h) (Or.inl ⟨by rfl, ?_⟩) (fun _ => by assumption) ?_; rotate_left; (intro w' _; go_simp; (try with_reducible rfl)); (try simp only [Act.put, List.setIfInBounds_toArray, List.set_cons_zero, List.set_cons_succ]))
  (refine wpAnyL_take (i := 2) (v := ?_) rfl (by kernel_rfl) (by kernel_rfl) (by kernel_rfl) (by kernel_rfl) (fun _ _ _ h => h) (Or.inl ⟨by rfl, ?_⟩) (fun _ => by assumption) ?_; rotate_left; (intro w' _; go_simp; (try with_reducible rfl)); (try simp only [Act.put, List.setIfInBounds_toArray, List.set_cons_zero, List.set_cons_succ]))
  (refine wpAnyL_take (i := 3) (v := ?_) rfl (by kernel_rfl) (by kernel_rfl) (by kernel_rfl) (by kernel_rfl) (fun _ _ _ h => h) (Or.inl ⟨by rfl, ?_⟩) (fun _ => by assumption) ?_; rotate_left; (intro w' _; go_simp; (try with_reducible rfl)); (try simp only [Act.put, List.setIfInBounds_toArray, List.set_cons_zero, List.set_cons_succ]))
  (refine wpAnyL_take (i := 4) (v := ?_) rfl (by kernel_rfl) (by kernel_rfl) (by kernel_rfl) (by kernel_rfl) (fun _ _ _ h => h) (Or.inl ⟨by rfl, ?_⟩) (fun _ => by assumption) ?_; rotate_left; (intro w' _; go_simp; (try with_reducible rfl)); (try simp only [Act.put, List.setIfInBounds_toArray, List.set_cons_zero, List.set_cons_succ]))
  (refine wpAnyL_load (i := 5) (v := ?_) rfl (by kernel_rfl) (by kernel_rfl) (by kernel_rfl) (by kernel_rfl) (by kernel_rfl) (by kernel_rfl) (fun _ _ _ h => h) (Or.inl ⟨by rfl, ?_⟩) (by assumption) ?_; rotate_left; (intro w' hSw; (have hSw0 := blk_cell hSw 0); (have hSw1 := blk_cell hSw 1); clear hSw; go_simp; (try with_reducible rfl)); (try simp only [Act.put, List.setIfInBounds_toArray, List.set_cons_zero, List.set_cons_succ]))
  (refine wpAnyL_take (i := 6) (v := ?_) rfl (by kernel_rfl) (by kernel_rfl) (by kernel_rfl) (by kernel_rfl) (fun _ _ _ h => h) (Or.inl ⟨by rfl, ?_⟩) (fun _ => by assumption) ?_; rotate_left; (intro w' _; go_simp; (try with_reducible rfl)); (try simp only [Act.put, List.setIfInBounds_toArray, List.set_cons_zero, List.set_cons_succ]))
  (refine wpAnyL_take (i := 9) (v := ?_) rfl (by kernel_rfl) (by kernel_rfl) (by kernel_rfl) (by kernel_rfl) (fun _ _ _ h => h) (Or.inl ⟨by rfl, ?_⟩) (fun _ => by assumption) ?_; rotate_left; (intro w' _; go_simp; (try with_reducible rfl)); (try simp only [Act.put, List.setIfInBounds_toArray, List.set_cons_zero, List.set_cons_succ]))
  (refine wpAnyL_take (i := 10) (v := ?_) rfl (by kernel_rfl) (by kernel_rfl) (by kernel_rfl) (by kernel_rfl) (fun _ _ _ h => h) (Or.inl ⟨by rfl, ?_⟩) (fun _ => by assumption) ?_; rotate_left; (intro w' _; go_simp; (try with_reducible rfl)); (try simp only [Act.put, List.setIfInBounds_toArray, List.set_cons_zero, List.set_cons_succ]))
  (refine wpAnyL_take (i := 11) (v := ?_) rfl (by kernel_rfl) (by kernel_rfl) (by kernel_rfl) (by kernel_rfl) (fun _ _ _ h => h) (Or.inl ⟨by rfl, ?_⟩) (fun _ => by assumption) ?_; rotate_left; (intro w' _; go_simp; (try with_reducible rfl)); (try simp only [Act.put, List.setIfInBounds_toArray, List.set_cons_zero, List.set_cons_succ]))
  (refine wpAnyL_load (i := 12) (v := ?_) rfl (by kernel_rfl) (by kernel_rfl) (by kernel_rfl) (by kernel_rfl) (by kernel_rfl) (by kernel_rfl) (fun _ _ _ h => h) (Or.inl ⟨by rfl, ?_⟩) (by assumption) ?_; rotate_left; (intro w' hSw; (have hSw0 := blk_cell hSw 0); (have hSw1 := blk_cell hSw 1); clear hSw; go_simp; (try with_reducible rfl)); (try simp only [Act.put, List.setIfInBounds_toArray, List.set_cons_zero, List.set_cons_succ]))
  have lB := blk_lt hblk
  have lvl : ∀ k, vl.ownBlock = some k → k < w.heap.size := own_lt H.out.rl
  have lvt : ∀ k, vt.ownBlock = some k → k < w.heap.size := own_lt H.out.rt
  have hnt : some B ≠ vt.ownBlock := own_ne H.out.rt H.out.blk (by decide)
  have hlt : ∀ k, vl.ownBlock = some k → vt.ownBlock ≠ some k := fun k e => (own_type_ne H.out.rl H.out.rt (by decide)).elim (fun z => by rw [z] at e; simp at e) (fun z e' => z (e.trans e'.symm))
  have hb0 : Below w.heap.size w w.drew := below_drew (Below.refl _ _)
  -- what each order begins with
  refine wpAnyL_ready (rs := [7, 13]) (by kernel_rfl) (by simp) ?_
  refine AllReadyL.cons rfl (fun K hK => ?_) (AllReadyL.cons rfl (fun K hK => ?_) (AllReadyL.nil))
  · go_simp
    refine hK.out _ _ (fun _ => blk_alloc hS _) ?_
    clear hK K
    try simp only [Act.put, List.setIfInBounds_toArray, List.set_cons_zero, List.set_cons_succ]
    have hS1 := blk_alloc hS (.cells #[.int .i64 x] 3)
    have hA := blk_new w.drew (.cells #[.int .i64 x] 3)
    have hB1 := below_alloc hb0 (.cells #[.int .i64 x] 3)
    refine wpAnyL_ready (rs := [8, 13]) (by kernel_rfl) (by simp) ?_
    refine AllReadyL.cons rfl (fun K hK => ?_) (AllReadyL.cons rfl (fun K hK => ?_) (AllReadyL.nil))
    · refine step_append_lies _ (by rfl) _ _ _ (by rfl) 0 3 i3 _ 1 8 Try.underlying22 hi3 z31 z32 z33 rfl (by omega) vl L.length _ (by rfl) (own_below0 H.out.rl hB1) ⟨w.heap.size, 0, none⟩ 1 1 [.int .i64 x] (by rfl) (by rfl) (World.news_of_block hA) (by simp [Value.oneCell']) (by omega) (by simp [maxLen]; omega) (by omega) (Nat.zero_le _) _ rfl ?_
      intro g1 cap1 w1 hown1 hg1 hat1 hlt1
      refine hK.out _ _ (fun _ => blk_grown hS1 hg1 hnl) ?_
      clear hK K
      try simp only [Act.put, List.setIfInBounds_toArray, List.set_cons_zero, List.set_cons_succ]
      have hSa := blk_grown hS1 hg1 hnl
      have K1 : Kept (fun k => vl.ownBlock = some k) w w1 := (Kept.of_below hB1).grown hg1 (fun k e => .inl e)
      have hsz1 : w.heap.size ≤ w1.heap.size := K1.size
      refine wpAnyL_ready (rs := [13]) (by kernel_rfl) (by simp) ?_
      refine AllReadyL.cons rfl (fun K hK => ?_) (AllReadyL.nil)
      go_simp
      refine hK.out _ _ (fun _ => blk_alloc hSa _) ?_
      clear hK K
      try simp only [Act.put, List.setIfInBounds_toArray, List.set_cons_zero, List.set_cons_succ]
      have hSac := blk_alloc hSa (.cells #[.bool true] 4)
      have hN := blk_new w1 (.cells #[.bool true] 4)
      have K1' := K1.alloc (.cells #[.bool true] 4)
      refine wpAnyL_ready (rs := [14]) (by kernel_rfl) (by simp) ?_
      refine AllReadyL.cons rfl (fun K hK => ?_) AllReadyL.nil
      have hrt := own_move H.out.rt (fun k e => K1'.block k (lvt k e) (fun e' => hlt k e' e))
      refine step_append_lies _ (by rfl) _ _ _ (by rfl) 0 4 i4 _ 1 1 Try.underlying26 hi4 z41 z42 z43 rfl (by omega) vt L.length _ (by rfl) hrt ⟨w1.heap.size, 0, none⟩ 1 1 [.bool true] (by rfl) (by rfl) (World.news_of_block hN) (by simp [Value.oneCell']) (by omega) (by simp [maxLen]; omega) (by omega) (Nat.zero_le _) _ rfl ?_
      intro g2 cap2 w2 hown2 hg2 hat2 hlt2
      refine hK.out _ _ (fun _ => blk_grown hSac hg2 hnt) ?_
      clear hK K
      try simp only [Act.put, List.setIfInBounds_toArray, List.set_cons_zero, List.set_cons_succ]
      have hSb := blk_grown hSac hg2 hnt
      have K2 : Kept (fun k => vl.ownBlock = some k ∨ vt.ownBlock = some k) w w2 := (K1'.mono (fun k e _ => .inl e)).grown hg2 (fun k e => .inl (.inr e))
      have rl2 := own_other (hown1.alloc (.cells #[.bool true] 4)) hg2 (own_type_ne (hown1.alloc (.cells #[.bool true] 4)) hrt (by decide))
      have rl2' := rl2; clear rl2
      have hK2 := Lib.hid K2; have hrl2 := Lib.hid rl2'; have hrt2 := Lib.hid hown2; have hat1' := hat1; have hat2' := hat2
      clear K2 rl2' hown2 K1 K1' hrt hown1 hg1 hg2 hSa hSac hN hA hB1 hS1 hS hat1 hat2
      (refine wpAnyL_take (i := 15) (v := ?_) rfl (by kernel_rfl) (by kernel_rfl) (by kernel_rfl) (by kernel_rfl) (fun _ _ _ h => h) (Or.inl ⟨by rfl, ?_⟩) (fun _ => by assumption) ?_; rotate_left; (intro w' _; go_simp; (try with_reducible rfl)); (try simp only [Act.put, List.setIfInBounds_toArray, List.set_cons_zero, List.set_cons_succ]))
      (refine wpAnyL_take (i := 16) (v := ?_) rfl (by kernel_rfl) (by kernel_rfl) (by kernel_rfl) (by kernel_rfl) (fun _ _ _ h => h) (Or.inl ⟨by rfl, ?_⟩) (fun _ => by assumption) ?_; rotate_left; (intro w' _; go_simp; (try with_reducible rfl)); (try simp only [Act.put, List.setIfInBounds_toArray, List.set_cons_zero, List.set_cons_succ]))
      have hcB0 := blk_cell hSb 0
      have hfB0 := blk_frozen hSb 0
      refine wpAnyL_ready (rs := [17]) (by kernel_rfl) (by simp) ?_
      refine AllReadyL.cons rfl (fun K hK => ?_) AllReadyL.nil
      go_simp
      refine hK.out _ _ (gone (by kernel_rfl)) ?_
      clear hK K
      try simp only [Act.put, List.setIfInBounds_toArray, List.set_cons_zero, List.set_cons_succ]
      have hS3 := blk_set hSb 0 (.slice (some ⟨g1, 0, none⟩) (L.length + 1) cap1)
      have hcB1 := blk_cell hS3 1
      have hfB1 := blk_frozen hS3 1
      (refine wpAnyL_take (i := 18) (v := ?_) rfl (by kernel_rfl) (by kernel_rfl) (by kernel_rfl) (by kernel_rfl) (fun _ _ _ h => h) (Or.inl ⟨by rfl, ?_⟩) (gone (by kernel_rfl)) ?_; rotate_left; (intro w' _; go_simp; (try with_reducible rfl)); (try simp only [Act.put, List.setIfInBounds_toArray, List.set_cons_zero, List.set_cons_succ]))
      (refine wpAnyL_take (i := 19) (v := ?_) rfl (by kernel_rfl) (by kernel_rfl) (by kernel_rfl) (by kernel_rfl) (fun _ _ _ h => h) (Or.inl ⟨by rfl, ?_⟩) (gone (by kernel_rfl)) ?_; rotate_left; (intro w' _; go_simp; (try with_reducible rfl)); (try simp only [Act.put, List.setIfInBounds_toArray, List.set_cons_zero, List.set_cons_succ]))
      refine wpAnyL_ready (rs := [20]) (by kernel_rfl) (by simp) ?_
      refine AllReadyL.cons rfl (fun K hK => ?_) AllReadyL.nil
      go_simp
      refine hK.out _ _ (gone (by kernel_rfl)) ?_
      clear hK K
      try simp only [Act.put, List.setIfInBounds_toArray, List.set_cons_zero, List.set_cons_succ]
      refine wpAnyL_done (by kernel_rfl) ?_ _
      have hS4 := blk_set hS3 1 (.slice (some ⟨g2, 0, none⟩) (L.length + 1) cap2)
      have hcB4 := blk_cell hS4 0
      clear hcB0 hfB0 hcB1 hfB1 hS4 hS3
      go_wp2
      go_ret
      have hfin := addfull_close H.out (by rw [hF0]; exact hSb) hrl2.out hrt2.out hK2.out (hat1'.imp id (fun e => by rw [e]; simp; try omega)) (hat2'.imp id (fun e => by rw [e]; first | exact hsz1 | (rw [World.size_alloc]; omega)))
      exact ⟨rfl, _, _, hfin.1, hfin.2⟩
    · go_simp
      refine hK.out _ _ (fun _ => blk_alloc hS1 _) ?_
      clear hK K
      try simp only [Act.put, List.setIfInBounds_toArray, List.set_cons_zero, List.set_cons_succ]
      have hS1c := blk_alloc hS1 (.cells #[.bool true] 4)
      have hN := blk_new (w.drew.alloc (.cells #[.int .i64 x] 3)) (.cells #[.bool true] 4)
      rw [World.size_alloc] at hN
      have hB2 := below_alloc hB1 (.cells #[.bool true] 4)
      have hA' := blk_alloc hA (.cells #[.bool true] 4)
      have hAo := hA; clear hA; have hA := hA'; clear hA' hAo
      refine wpAnyL_ready (rs := [8]) (by kernel_rfl) (by simp) ?_
      refine AllReadyL.cons rfl (fun K hK => ?_) (AllReadyL.nil)
      refine step_append_lies _ (by rfl) _ _ _ (by rfl) 0 3 i3 _ 1 8 Try.underlying22 hi3 z31 z32 z33 rfl (by omega) vl L.length _ (by rfl) (own_below0 H.out.rl hB2) ⟨w.heap.size, 0, none⟩ 1 1 [.int .i64 x] (by rfl) (by rfl) (World.news_of_block hA) (by simp [Value.oneCell']) (by omega) (by simp [maxLen]; omega) (by omega) (Nat.zero_le _) _ rfl ?_
      intro g1 cap1 w1 hown1 hg1 hat1 hlt1
      refine hK.out _ _ (fun _ => blk_grown hS1c hg1 hnl) ?_
      clear hK K
      try simp only [Act.put, List.setIfInBounds_toArray, List.set_cons_zero, List.set_cons_succ]
      have hSa := blk_grown hS1c hg1 hnl
      have K1 : Kept (fun k => vl.ownBlock = some k) w w1 := (Kept.of_below hB2).grown hg1 (fun k e => .inl e)
      have hsz1 : w.heap.size ≤ w1.heap.size := K1.size
      have hN1 := blk_grown hN hg1 (fun e => by have := lvl _ e.symm; simp at this; try omega)
      refine wpAnyL_ready (rs := [14]) (by kernel_rfl) (by simp) ?_
      refine AllReadyL.cons rfl (fun K hK => ?_) AllReadyL.nil
      have hrt := own_move H.out.rt (fun k e => K1.block k (lvt k e) (fun e' => hlt k e' e))
      refine step_append_lies _ (by rfl) _ _ _ (by rfl) 0 4 i4 _ 1 1 Try.underlying26 hi4 z41 z42 z43 rfl (by omega) vt L.length _ (by rfl) hrt ⟨(w.heap.size + 1), 0, none⟩ 1 1 [.bool true] (by rfl) (by rfl) (World.news_of_block hN1) (by simp [Value.oneCell']) (by omega) (by simp [maxLen]; omega) (by omega) (Nat.zero_le _) _ rfl ?_
      intro g2 cap2 w2 hown2 hg2 hat2 hlt2
      refine hK.out _ _ (fun _ => blk_grown hSa hg2 hnt) ?_
      clear hK K
      try simp only [Act.put, List.setIfInBounds_toArray, List.set_cons_zero, List.set_cons_succ]
      have hSb := blk_grown hSa hg2 hnt
      have K2 : Kept (fun k => vl.ownBlock = some k ∨ vt.ownBlock = some k) w w2 := (K1.mono (fun k e _ => .inl e)).grown hg2 (fun k e => .inl (.inr e))
      have rl2' := own_other hown1 hg2 (own_type_ne hown1 hrt (by decide))
      have hK2 := Lib.hid K2; have hrl2 := Lib.hid rl2'; have hrt2 := Lib.hid hown2; have hat1' := hat1; have hat2' := hat2
      clear K2 rl2' hown2 K1 hrt hown1 hg1 hg2 hSa hS1c hN hN1 hA hB1 hB2 hS1 hS hat1 hat2
      (refine wpAnyL_take (i := 15) (v := ?_) rfl (by kernel_rfl) (by kernel_rfl) (by kernel_rfl) (by kernel_rfl) (fun _ _ _ h => h) (Or.inl ⟨by rfl, ?_⟩) (fun _ => by assumption) ?_; rotate_left; (intro w' _; go_simp; (try with_reducible rfl)); (try simp only [Act.put, List.setIfInBounds_toArray, List.set_cons_zero, List.set_cons_succ]))
      (refine wpAnyL_take (i := 16) (v := ?_) rfl (by kernel_rfl) (by kernel_rfl) (by kernel_rfl) (by kernel_rfl) (fun _ _ _ h => h) (Or.inl ⟨by rfl, ?_⟩) (fun _ => by assumption) ?_; rotate_left; (intro w' _; go_simp; (try with_reducible rfl)); (try simp only [Act.put, List.setIfInBounds_toArray, List.set_cons_zero, List.set_cons_succ]))
      have hcB0 := blk_cell hSb 0
      have hfB0 := blk_frozen hSb 0
      refine wpAnyL_ready (rs := [17]) (by kernel_rfl) (by simp) ?_
      refine AllReadyL.cons rfl (fun K hK => ?_) AllReadyL.nil
      go_simp
      refine hK.out _ _ (gone (by kernel_rfl)) ?_
      clear hK K
      try simp only [Act.put, List.setIfInBounds_toArray, List.set_cons_zero, List.set_cons_succ]
      have hS3 := blk_set hSb 0 (.slice (some ⟨g1, 0, none⟩) (L.length + 1) cap1)
      have hcB1 := blk_cell hS3 1
      have hfB1 := blk_frozen hS3 1
      (refine wpAnyL_take (i := 18) (v := ?_) rfl (by kernel_rfl) (by kernel_rfl) (by kernel_rfl) (by kernel_rfl) (fun _ _ _ h => h) (Or.inl ⟨by rfl, ?_⟩) (gone (by kernel_rfl)) ?_; rotate_left; (intro w' _; go_simp; (try with_reducible rfl)); (try simp only [Act.put, List.setIfInBounds_toArray, List.set_cons_zero, List.set_cons_succ]))
      (refine wpAnyL_take (i := 19) (v := ?_) rfl (by kernel_rfl) (by kernel_rfl) (by kernel_rfl) (by kernel_rfl) (fun _ _ _ h => h) (Or.inl ⟨by rfl, ?_⟩) (gone (by kernel_rfl)) ?_; rotate_left; (intro w' _; go_simp; (try with_reducible rfl)); (try simp only [Act.put, List.setIfInBounds_toArray, List.set_cons_zero, List.set_cons_succ]))
      refine wpAnyL_ready (rs := [20]) (by kernel_rfl) (by simp) ?_
      refine AllReadyL.cons rfl (fun K hK => ?_) AllReadyL.nil
      go_simp
      refine hK.out _ _ (gone (by kernel_rfl)) ?_
      clear hK K
      try simp only [Act.put, List.setIfInBounds_toArray, List.set_cons_zero, List.set_cons_succ]
      refine wpAnyL_done (by kernel_rfl) ?_ _
      have hS4 := blk_set hS3 1 (.slice (some ⟨g2, 0, none⟩) (L.length + 1) cap2)
      have hcB4 := blk_cell hS4 0
      clear hcB0 hfB0 hcB1 hfB1 hS4 hS3
      go_wp2
      go_ret
      have hfin := addfull_close H.out (by rw [hF0]; exact hSb) hrl2.out hrt2.out hK2.out (hat1'.imp id (fun e => by rw [e]; simp; try omega)) (hat2'.imp id (fun e => by rw [e]; first | exact hsz1 | (rw [World.size_alloc]; omega)))
      exact ⟨rfl, _, _, hfin.1, hfin.2⟩
  · go_simp
    refine hK.out _ _ (fun _ => blk_alloc hS _) ?_
    clear hK K
    try simp only [Act.put, List.setIfInBounds_toArray, List.set_cons_zero, List.set_cons_succ]
    have hS1 := blk_alloc hS (.cells #[.bool true] 4)
    have hN := blk_new w.drew (.cells #[.bool true] 4)
    have hB1 := below_alloc hb0 (.cells #[.bool true] 4)
    refine wpAnyL_ready (rs := [7]) (by kernel_rfl) (by simp) ?_
    refine AllReadyL.cons rfl (fun K hK => ?_) (AllReadyL.nil)
    go_simp
    refine hK.out _ _ (fun _ => blk_alloc hS1 _) ?_
    clear hK K
    try simp only [Act.put, List.setIfInBounds_toArray, List.set_cons_zero, List.set_cons_succ]
    have hS1c := blk_alloc hS1 (.cells #[.int .i64 x] 3)
    have hA := blk_new (w.drew.alloc (.cells #[.bool true] 4)) (.cells #[.int .i64 x] 3)
    rw [World.size_alloc] at hA
    have hB2 := below_alloc hB1 (.cells #[.int .i64 x] 3)
    have hN0 := blk_alloc hN (.cells #[.int .i64 x] 3)
    refine wpAnyL_ready (rs := [8]) (by kernel_rfl) (by simp) ?_
    refine AllReadyL.cons rfl (fun K hK => ?_) (AllReadyL.nil)
    refine step_append_lies _ (by rfl) _ _ _ (by rfl) 0 3 i3 _ 1 8 Try.underlying22 hi3 z31 z32 z33 rfl (by omega) vl L.length _ (by rfl) (own_below0 H.out.rl hB2) ⟨(w.heap.size + 1), 0, none⟩ 1 1 [.int .i64 x] (by rfl) (by rfl) (World.news_of_block hA) (by simp [Value.oneCell']) (by omega) (by simp [maxLen]; omega) (by omega) (Nat.zero_le _) _ rfl ?_
    intro g1 cap1 w1 hown1 hg1 hat1 hlt1
    refine hK.out _ _ (fun _ => blk_grown hS1c hg1 hnl) ?_
    clear hK K
    try simp only [Act.put, List.setIfInBounds_toArray, List.set_cons_zero, List.set_cons_succ]
    have hSa := blk_grown hS1c hg1 hnl
    have K1 : Kept (fun k => vl.ownBlock = some k) w w1 := (Kept.of_below hB2).grown hg1 (fun k e => .inl e)
    have hsz1 : w.heap.size ≤ w1.heap.size := K1.size
    have hN1 := blk_grown hN0 hg1 (fun e => by have := lvl _ e.symm; simp at this; try omega)
    refine wpAnyL_ready (rs := [14]) (by kernel_rfl) (by simp) ?_
    refine AllReadyL.cons rfl (fun K hK => ?_) AllReadyL.nil
    have hrt := own_move H.out.rt (fun k e => K1.block k (lvt k e) (fun e' => hlt k e' e))
    refine step_append_lies _ (by rfl) _ _ _ (by rfl) 0 4 i4 _ 1 1 Try.underlying26 hi4 z41 z42 z43 rfl (by omega) vt L.length _ (by rfl) hrt ⟨w.heap.size, 0, none⟩ 1 1 [.bool true] (by rfl) (by rfl) (World.news_of_block hN1) (by simp [Value.oneCell']) (by omega) (by simp [maxLen]; omega) (by omega) (Nat.zero_le _) _ rfl ?_
    intro g2 cap2 w2 hown2 hg2 hat2 hlt2
    refine hK.out _ _ (fun _ => blk_grown hSa hg2 hnt) ?_
    clear hK K
    try simp only [Act.put, List.setIfInBounds_toArray, List.set_cons_zero, List.set_cons_succ]
    have hSb := blk_grown hSa hg2 hnt
    have K2 : Kept (fun k => vl.ownBlock = some k ∨ vt.ownBlock = some k) w w2 := (K1.mono (fun k e _ => .inl e)).grown hg2 (fun k e => .inl (.inr e))
    have rl2' := own_other hown1 hg2 (own_type_ne hown1 hrt (by decide))
    have hK2 := Lib.hid K2; have hrl2 := Lib.hid rl2'; have hrt2 := Lib.hid hown2; have hat1' := hat1; have hat2' := hat2
    clear K2 rl2' hown2 K1 hrt hown1 hg1 hg2 hSa hS1c hN hN0 hN1 hA hB1 hB2 hS1 hS hat1 hat2
    (refine wpAnyL_take (i := 15) (v := ?_) rfl (by kernel_rfl) (by kernel_rfl) (by kernel_rfl) (by kernel_rfl) (fun _ _ _ h => h) (Or.inl ⟨by rfl, ?_⟩) (fun _ => by assumption) ?_; rotate_left; (intro w' _; go_simp; (try with_reducible rfl)); (try simp only [Act.put, List.setIfInBounds_toArray, List.set_cons_zero, List.set_cons_succ]))
    (refine wpAnyL_take (i := 16) (v := ?_) rfl (by kernel_rfl) (by kernel_rfl) (by kernel_rfl) (by kernel_rfl) (fun _ _ _ h => h) (Or.inl ⟨by rfl, ?_⟩) (fun _ => by assumption) ?_; rotate_left; (intro w' _; go_simp; (try with_reducible rfl)); (try simp only [Act.put, List.setIfInBounds_toArray, List.set_cons_zero, List.set_cons_succ]))
    have hcB0 := blk_cell hSb 0
    have hfB0 := blk_frozen hSb 0
    refine wpAnyL_ready (rs := [17]) (by kernel_rfl) (by simp) ?_
    refine AllReadyL.cons rfl (fun K hK => ?_) AllReadyL.nil
    go_simp
    refine hK.out _ _ (gone (by kernel_rfl)) ?_
    clear hK K
    try simp only [Act.put, List.setIfInBounds_toArray, List.set_cons_zero, List.set_cons_succ]
    have hS3 := blk_set hSb 0 (.slice (some ⟨g1, 0, none⟩) (L.length + 1) cap1)
    have hcB1 := blk_cell hS3 1
    have hfB1 := blk_frozen hS3 1
    (refine wpAnyL_take (i := 18) (v := ?_) rfl (by kernel_rfl) (by kernel_rfl) (by kernel_rfl) (by kernel_rfl) (fun _ _ _ h => h) (Or.inl ⟨by rfl, ?_⟩) (gone (by kernel_rfl)) ?_; rotate_left; (intro w' _; go_simp; (try with_reducible rfl)); (try simp only [Act.put, List.setIfInBounds_toArray, List.set_cons_zero, List.set_cons_succ]))
    (refine wpAnyL_take (i := 19) (v := ?_) rfl (by kernel_rfl) (by kernel_rfl) (by kernel_rfl) (by kernel_rfl) (fun _ _ _ h => h) (Or.inl ⟨by rfl, ?_⟩) (gone (by kernel_rfl)) ?_; rotate_left; (intro w' _; go_simp; (try with_reducible rfl)); (try simp only [Act.put, List.setIfInBounds_toArray, List.set_cons_zero, List.set_cons_succ]))
    refine wpAnyL_ready (rs := [20]) (by kernel_rfl) (by simp) ?_
    refine AllReadyL.cons rfl (fun K hK => ?_) AllReadyL.nil
    go_simp
    refine hK.out _ _ (gone (by kernel_rfl)) ?_
    clear hK K
    try simp only [Act.put, List.setIfInBounds_toArray, List.set_cons_zero, List.set_cons_succ]
    refine wpAnyL_done (by kernel_rfl) ?_ _
    have hS4 := blk_set hS3 1 (.slice (some ⟨g2, 0, none⟩) (L.length + 1) cap2)
    have hcB4 := blk_cell hS4 0
    clear hcB0 hfB0 hcB1 hfB1 hS4 hS3
    go_wp2
    go_ret
    have hfin := addfull_close H.out (by rw [hF0]; exact hSb) hrl2.out hrt2.out hK2.out (hat1'.imp id (fun e => by rw [e]; simp; try omega)) (hat2'.imp id (fun e => by rw [e]; first | exact hsz1 | (rw [World.size_alloc]; omega)))
    exact ⟨rfl, _, _, hfin.1, hfin.2⟩
end Go.Proofs.Ytgchgkffoplogaa
