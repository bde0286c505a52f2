/- slots.All of a table of slices: what the iterator holds. -/
import Derived.Test.YtgchgkffoplogaaVj
import Derived.Test.YtgchgkffoplogaaRc
namespace Go.Proofs.Ytgchgkffoplogaa.V
open Go.RowKit Go.Proofs.YtgchgkffoplogaaW.PrintWords Go.Proofs.Ytgchgkffoplogaa
set_option linter.unusedVariables false
set_option linter.unusedSimpArgs false

theorem info101 : (Try.prog.info? 101).map (fun i => (i.zero, i.size, i.bytes)) = some (some (.agg #[.int .i64 0, .slice none 0 0]), 2, 32) := by kernel_rfl

/-- A slot's number and what it has. -/
def PairR (p : Int × El) (cs : List Value) : Prop := cs = [.int .i64 p.1, encE p.2]
/-- The taken slots among the first. -/
def pairsTo (L : List El) (T : List Bool) : Nat → List (Int × El)
  | 0 => []
  | i + 1 => pairsTo L T i ++ if T.getD i false then [((i : Int), rdOf zE L (i : Int))] else []
theorem pairsTo_fst (L : List El) (T : List Bool) : ∀ i : Nat, (pairsTo L T i).map Prod.fst = takesTo T i
  | 0 => rfl
  | i + 1 => by
    rw [pairsTo, takesTo, List.map_append, pairsTo_fst L T i]
    cases T.getD i false <;> rfl
theorem pairsTo_le (L : List El) (T : List Bool) (i : Nat) : (pairsTo L T i).length ≤ i := by
  have := congrArg List.length (pairsTo_fst L T i)
  rw [List.length_map] at this
  rw [this]; exact takesTo_le T i
theorem pairsTo_mem (L : List El) (T : List Bool) : ∀ (i : Nat) (p : Int × El), p ∈ pairsTo L T i → ∃ j : Nat, j < i ∧ p = ((j : Int), rdOf zE L (j : Int)) ∧ T[j]? = some true
  | 0, p, h => by simp [pairsTo] at h
  | i + 1, p, h => by
    rw [pairsTo, List.mem_append] at h
    rcases h with h | h
    · obtain ⟨j, hj, e⟩ := pairsTo_mem L T i p h
      exact ⟨j, by omega, e⟩
    · cases hb : T.getD i false
      · rw [hb] at h; simp at h
      · rw [hb] at h
        rw [if_pos rfl, List.mem_singleton] at h
        refine ⟨i, by omega, h, ?_⟩
        cases hg : T[i]? with
        | none => simp [List.getD, hg] at hb
        | some b => simp [List.getD, hg] at hb; rw [hb]


/-- What an iterator of a table is: a closure over a variable that holds the pairs. -/
structure IterAt (base : Nat) (w : World) (it : Value) (ps : List (Int × El)) (lb : Nat) (v : Value) : Prop where
  fn : it = .func (.func 61) #[] #[.pointer (some ⟨lb, 0, none⟩)]
  blk : w.heap[lb]? = some (.cells #[v] 99 (0, 0))
  row : OwnRow PairR 101 2 w base v ps
  hi : base ≤ lb

set_option maxRecDepth 100000 in
set_option maxHeartbeats 1600000 in
theorem all_any {w : World} {B : Nat} {ok : Nat → Prop} {L : List El} {T : List Bool} (h : Tab w B ok L T) (hl : L.length ≤ 100000) :
    Calls Try.prog 57 #[.pointer (some ⟨B, 0, none⟩)] w fun e w' => ∃ it, e = .returned it ∧ (∃ v, IterAt w.heap.size w' it (pairsTo L T T.length) w.heap.size v) ∧ Below w.heap.size w w' := by
  obtain ⟨vl, vt, vf, F, h⟩ := h
  have hc0 : w.cell? ⟨B, 0, none⟩ = some vl := blk_cell h.blk 0
  have hc1 : w.cell? ⟨B, 1, none⟩ = some vt := blk_cell h.blk 1
  have hlen := h.len
  have H := Lib.hid h; have Hlen := Lib.hid hlen; have Hc0 := Lib.hid hc0; have Hc1 := Lib.hid hc1
  clear h hlen hc0 hc1
  have hhigh : ∀ W, Below w.heap.size w W → Calls Try.prog 52 #[.pointer (some ⟨B, 0, none⟩)] W fun e w' => e = .returned (.int .i64 L.length) ∧ W = w' := fun W hb => high_any (H.out.below hb)
  have Hhigh := Lib.hid hhigh; clear hhigh
  go_enter Try.func57, Try.ntmps57
  go_wp2_with (go_at_call 52; refine (Hhigh.out _ (below_alloc (Below.refl _ _) _)).mono ?_; rintro e w1 ⟨rfl, rfl⟩)
  go_loopw [7] (fun iv wr => ∃ (i : Nat) (v : Value), i ≤ L.length ∧ iv = .int .i64 i ∧ Hid (wr.heap[w.heap.size]? = some (.cells #[v] 99 (0, 0))) ∧ Hid (OwnRow PairR 101 2 wr w.heap.size v (pairsTo L T i)) ∧ Hid (Below w.heap.size w wr)) (fun iv _ => L.length - (intOf iv).toNat)
  case atStart => exact ⟨0, .slice none 0 0, Nat.zero_le _, rfl, Lib.hid (blk_new w _), Lib.hid (OwnRow.none_ _ _ _ _ _), Lib.hid (below_alloc (Below.refl _ _) _)⟩
  case round =>
    obtain ⟨i, v, hi, rfl, HL, HR, HB⟩ := hrel
    by_cases hlt : i < L.length
    · obtain ⟨gt, ct, hvt, _, _⟩ := H.out.rt.form (by omega)
      obtain ⟨gl, cl, hvl, _, _⟩ := H.out.rl.form (by omega)
      have hr0 : wr.cell? ⟨B, 0, none⟩ = some (.slice (some ⟨gl, 0, none⟩) L.length cl) := by rw [← hvl]; exact pw_cell_below HB.out Hc0.out
      have hr1 : wr.cell? ⟨B, 1, none⟩ = some (.slice (some ⟨gt, 0, none⟩) L.length ct) := by rw [← hvt]; exact pw_cell_below HB.out Hc1.out
      have hu : wr.cell? ⟨gt, i, none⟩ = some (.bool (rdOf false T (i : Int))) := by
        have hr := H.out.rt; rw [hvt] at hr
        exact pw_cell_below HB.out (own_at_of (d := false) hr (i : Int) (by omega) (by omega)).1
      have hx : wr.cell? ⟨gl, i, none⟩ = some (encE (rdOf zE L (i : Int))) := by
        have hr := H.out.rl; rw [hvl] at hr
        exact pw_cell_below HB.out (own_at_of (d := zE) hr (i : Int) (by omega) (by omega)).1
      clear hvl hvt
      have p0 : (0 : Int) ≤ (i : Int) := by omega
      have p1 : (i : Int) < (L.length : Int) := by omega
      have hs : pairsTo L T (i + 1) = pairsTo L T i ++ if T.getD i false then [((i : Int), rdOf zE L (i : Int))] else [] := rfl
      have hv : rdOf false T (i : Int) = T.getD i false := by simp [rdOf]
      rw [← hv] at hs
      have hple := pairsTo_le L T i
      cases hb : rdOf false T (i : Int)
      · rw [hb] at hu hs
        rw [if_neg (by simp), List.append_nil] at hs
        have Hs := Lib.hid hs
        clear hs hb hv
        go_wp2
        go_roundw
        case rel => exact ⟨i + 1, v, by omega, by go_num, HL, by rw [Hs.out]; exact HR, HB⟩
        case measure => simp [intOf]; omega
      · rw [hb] at hu hs
        rw [if_pos rfl] at hs
        have Hs := Lib.hid hs
        clear hs hb hv
        obtain ⟨A, c, hvv, hcc⟩ := HR.out.slice_
        subst hvv
        go_upto_region 6 with (fail)
        have hcl : wr.cell? ⟨w.heap.size, 0, none⟩ = some (.slice A (pairsTo L T i).length c) := blk_cell HL.out 0
        refine wp_region_L [12] (fun w' => w'.cell? ⟨w.heap.size, 0, none⟩ = some (.slice A (pairsTo L T i).length c) ∧ w'.cell? ⟨B, 0, none⟩ = some (.slice (some ⟨gl, 0, none⟩) L.length cl) ∧ w'.cell? ⟨gl, i, none⟩ = some (encE (rdOf zE L (i : Int)))) (by kernel_rfl) ?_
        have hS : (fun w' : World => w'.cell? ⟨w.heap.size, 0, none⟩ = some (.slice A (pairsTo L T i).length c) ∧ w'.cell? ⟨B, 0, none⟩ = some (.slice (some ⟨gl, 0, none⟩) L.length cl) ∧ w'.cell? ⟨gl, i, none⟩ = some (encE (rdOf zE L (i : Int)))) wr.drew := ⟨hcl, hr0, hx⟩
        (refine wpAnyL_load (i := 0) (v := ?_) rfl (by kernel_rfl) (by kernel_rfl) (by kernel_rfl) (by kernel_rfl) (by kernel_rfl) (by kernel_rfl) (fun _ _ _ h => h) (Or.inl ⟨by rfl, ?_⟩) (by assumption) ?_; rotate_left; (intro w' hSw; (obtain ⟨hSw0, hSw1, hSw2⟩ := hSw); go_simp; (try with_reducible rfl)); (try simp only [Act.put, List.setIfInBounds_toArray, List.set_cons_zero, List.set_cons_succ]))
        (refine wpAnyL_take (i := 1) (v := ?_) rfl (by kernel_rfl) (by kernel_rfl) (by kernel_rfl) (by kernel_rfl) (fun _ _ _ h => h) (Or.inl ⟨by rfl, ?_⟩) (fun _ => by assumption) ?_; rotate_left; (intro w' _; go_simp; (try with_reducible rfl)); (try simp only [Act.put, List.setIfInBounds_toArray, List.set_cons_zero, List.set_cons_succ]))
        (refine wpAnyL_take (i := 2) (v := ?_) rfl (by kernel_rfl) (by kernel_rfl) (by kernel_rfl) (by kernel_rfl) (fun _ _ _ h => h) (Or.inl ⟨by rfl, ?_⟩) (fun _ => by assumption) ?_; rotate_left; (intro w' _; go_simp; (try with_reducible rfl)); (try simp only [Act.put, List.setIfInBounds_toArray, List.set_cons_zero, List.set_cons_succ]))
        (refine wpAnyL_take (i := 3) (v := ?_) rfl (by kernel_rfl) (by kernel_rfl) (by kernel_rfl) (by kernel_rfl) (fun _ _ _ h => h) (Or.inl ⟨by rfl, ?_⟩) (fun _ => by assumption) ?_; rotate_left; (intro w' _; go_simp; (try with_reducible rfl)); (try simp only [Act.put, List.setIfInBounds_toArray, List.set_cons_zero, List.set_cons_succ]))
        (refine wpAnyL_take (i := 4) (v := ?_) rfl (by kernel_rfl) (by kernel_rfl) (by kernel_rfl) (by kernel_rfl) (fun _ _ _ h => h) (Or.inl ⟨by rfl, ?_⟩) (fun _ => by assumption) ?_; rotate_left; (intro w' _; go_simp; (try with_reducible rfl)); (try simp only [Act.put, List.setIfInBounds_toArray, List.set_cons_zero, List.set_cons_succ]))
        (refine wpAnyL_load (i := 5) (v := ?_) rfl (by kernel_rfl) (by kernel_rfl) (by kernel_rfl) (by kernel_rfl) (by kernel_rfl) (by kernel_rfl) (fun _ _ _ h => h) (Or.inl ⟨by rfl, ?_⟩) (by assumption) ?_; rotate_left; (intro w' hSw; (obtain ⟨hSw0, hSw1, hSw2⟩ := hSw); go_simp; (try with_reducible rfl)); (try simp only [Act.put, List.setIfInBounds_toArray, List.set_cons_zero, List.set_cons_succ]))
        (refine wpAnyL_take (i := 6) (v := ?_) rfl (by kernel_rfl) (by kernel_rfl) (by kernel_rfl) (by kernel_rfl) (fun _ _ _ h => h) (Or.inl ⟨by rfl, ?_⟩) (fun _ => by assumption) ?_; rotate_left; (intro w' _; go_simp; (try with_reducible rfl)); (try simp only [Act.put, List.setIfInBounds_toArray, List.set_cons_zero, List.set_cons_succ]))
        (refine wpAnyL_take (i := 7) (v := ?_) rfl (by kernel_rfl) (by kernel_rfl) (by kernel_rfl) (by kernel_rfl) (fun _ _ _ h => h) (Or.inl ⟨by rfl, ?_⟩) (fun _ => by assumption) ?_; rotate_left; (intro w' _; go_simp; (try with_reducible rfl)); (try simp only [Act.put, List.setIfInBounds_toArray, List.set_cons_zero, List.set_cons_succ]))
        (refine wpAnyL_load (i := 8) (v := ?_) rfl (by kernel_rfl) (by kernel_rfl) (by kernel_rfl) (by kernel_rfl) (by kernel_rfl) (by kernel_rfl) (fun _ _ _ h => h) (Or.inl ⟨by rfl, ?_⟩) (by assumption) ?_; rotate_left; (intro w' hSw; (obtain ⟨hSw0, hSw1, hSw2⟩ := hSw); go_simp; (try with_reducible rfl)); (try simp only [Act.put, List.setIfInBounds_toArray, List.set_cons_zero, List.set_cons_succ]))
        (refine wpAnyL_take (i := 9) (v := ?_) rfl (by kernel_rfl) (by kernel_rfl) (by kernel_rfl) (by kernel_rfl) (fun _ _ _ h => h) (Or.inl ⟨by rfl, ?_⟩) (fun _ => by assumption) ?_; rotate_left; (intro w' _; go_simp; (try with_reducible rfl)); (try simp only [Act.put, List.setIfInBounds_toArray, List.set_cons_zero, List.set_cons_succ]))
        clear hS
        have hBl : B < w.heap.size := blk_lt H.out.blk
        have hgl : gl < w.heap.size := by
          have := own_lt H.out.rl gl
          have hvl' : ∃ q c', vl = .slice (some ⟨q, 0, none⟩) L.length c' ∧ q = gl := by
            obtain ⟨q, c', e, _, _⟩ := H.out.rl.form (by omega)
            refine ⟨q, c', e, ?_⟩
            have e2 := pw_cell_below HB.out Hc0.out
            rw [hr0] at e2
            rw [e] at e2
            injection e2 with e2; injection e2 with e2; injection e2 with e2; injection e2 with e2
            exact e2.symm
          obtain ⟨q, c', e, e2⟩ := hvl'
          rw [e, e2] at this
          exact this rfl
        refine wpAnyL_ready (rs := [10]) (by kernel_rfl) (by simp) ?_
        refine AllReadyL.cons rfl (fun K hK => ?_) AllReadyL.nil
        go_simp
        refine hK.out _ _ (fun _ => ⟨pw_cell_below (below_alloc (Below.refl wr.drew.heap.size wr.drew) _) hcl, pw_cell_below (below_alloc (Below.refl wr.drew.heap.size wr.drew) _) hr0, pw_cell_below (below_alloc (Below.refl wr.drew.heap.size wr.drew) _) hx⟩) ?_
        clear hK K
        try simp only [Act.put, List.setIfInBounds_toArray, List.set_cons_zero, List.set_cons_succ]
        refine wpAnyL_ready (rs := [11]) (by kernel_rfl) (by simp) ?_
        refine AllReadyL.cons rfl (fun K hK => ?_) AllReadyL.nil
        refine OwnRow.append_step (w0 := w) (W := wr.drew) w.heap.size (by rfl) (.tmp 17) (.tmp 27) 99 101 (.agg #[.int .i64 0, .slice none 0 0]) 2 32 rfl Try.underlying99 info101 rfl (by decide) (by decide) _ _ ((i : Int), rdOf zE L (i : Int)) [.int .i64 (i : Int), encE (rdOf zE L (i : Int))] rfl rfl rfl rfl (by simp [Value.oneCell']) HR.out (below_drew HB.out) HB.out.size (by omega) ?_
        intro v1 w1 hR1 hB1 hg1 hat1
        obtain ⟨A1, c1, hv1, _⟩ := hR1.slice_
        subst hv1
        rw [List.length_append, List.length_singleton] at hR1
        have hbl1 := blk_grown (w := wr.drew) HL.out hg1 (HR.out.ne_block HL.out (by decide))
        have hcl1 := blk_cell hbl1 0
        have hfl1 := blk_frozen hbl1 0
        have hr01 := (World.cell?_of_block (w' := w1) (w := wr) (a := ⟨B, 0, none⟩) ((hB1.block B hBl).trans (HB.out.block B hBl).symm)).trans hr0
        have hx1 := (World.cell?_of_block (w' := w1) (w := wr) (a := ⟨gl, i, none⟩) ((hB1.block gl hgl).trans (HB.out.block gl hgl).symm)).trans hx
        refine hK.out _ _ (fun _ => ⟨hcl1, hr01, hx1⟩) ?_
        clear hK K
        simp only [Act.put, List.setIfInBounds_toArray, List.set_cons_zero, List.set_cons_succ, List.length_append, List.length_singleton]
        have hR2 := hR1.set_ hbl1 (by decide) 0 (.slice A1 ((pairsTo L T i).length + 1) c1)
        have hbl2 := blk_set hbl1 0 (.slice A1 ((pairsTo L T i).length + 1) c1)
        have HR2 := Lib.hid hR2; have HL2 := Lib.hid hbl2; have HB1 := Lib.hid hB1
        clear hR1 hR2 hbl2 hbl1 hB1 hg1 hat1
        refine wpAnyL_ready (rs := [12]) (by kernel_rfl) (by simp) ?_
        refine AllReadyL.cons rfl (fun K hK => ?_) AllReadyL.nil
        go_simp
        refine hK.out _ _ (gone (by kernel_rfl)) ?_
        clear hK K
        try simp only [Act.put, List.setIfInBounds_toArray, List.set_cons_zero, List.set_cons_succ]
        refine wpAnyL_done (by kernel_rfl) ?_ _
        go_wp2
        go_roundw
        case rel => exact ⟨i + 1, _, by omega, by go_num, Lib.hid HL2.out, by rw [Hs.out]; exact HR2, Lib.hid (HB1.out.setCell (p := ⟨w.heap.size, 0, none⟩) (Nat.le_refl _) _)⟩
        case measure => simp [intOf]; omega
    · have hiM : i = T.length := by rw [Hlen.out]; omega
      have Hi := Lib.hid hiM
      have hz : ¬ (i : Int) < (L.length : Int) := by omega
      clear hiM
      go_wp2
      go_ret
      exact ⟨_, rfl, ⟨v, rfl, HL.out, by rw [← Hi.out]; exact HR.out, Nat.le_refl _⟩, HB.out⟩
end Go.Proofs.Ytgchgkffoplogaa.V
