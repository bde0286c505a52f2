/- The document's own slots: Add. -/
import Derived.Test.YtgchgkffoplogaaRb
namespace Go.Proofs.Ytgchgkffoplogaa
open Go.RowKit Go.Proofs.YtgchgkffoplogaaW.PrintWords
set_option linter.unusedVariables false
set_option linter.unusedSimpArgs false

theorem ref_app1 {w w1 : World} {C : Nat} {ok okE : Nat → Prop} {vL vT v1 : Value} {M : List Value} {T : List Bool} {X : List (List Int)} {m : Value} (h : RefAt w C ok okE vL vT M T X)
    (hown : w1.ownsRow 0 22 1 v1 (M.length + 1) (encs id (M ++ [m]))) (hg : w.grownBy w1 vL.ownBlock) :
    w1.cell? ⟨C, 0, none⟩ = some vL ∧ w1.frozen? ⟨C, 0, none⟩ = false ∧ (w1.setCell ⟨C, 0, none⟩ v1).cell? ⟨C, 1, none⟩ = some vT ∧ (w1.setCell ⟨C, 0, none⟩ v1).heap[C]? = some (.cells #[v1, vT] 38 (0, 0)) ∧
    (w1.setCell ⟨C, 0, none⟩ v1).ownsRow 0 22 1 v1 (M.length + 1) (encs id (M ++ [m])) ∧ (w1.setCell ⟨C, 0, none⟩ v1).ownsRow 0 4 1 vT M.length (encs Value.bool T) ∧
    Kept (fun k => k = C ∨ vL.ownBlock = some k) w (w1.setCell ⟨C, 0, none⟩ v1) := by
  have hnl : some C ≠ vL.ownBlock := own_ne h.rl h.blk (by decide)
  have hnt : some C ≠ vT.ownBlock := own_ne h.rt h.blk (by decide)
  have hb := blk_grown h.blk hg hnl
  have ht1 := own_other h.rt hg (own_type_ne h.rt h.rl (by decide))
  exact ⟨blk_cell hb 0, blk_frozen hb 0, blk_cell (blk_set hb 0 v1) 1, blk_set hb 0 _, own_setCell hown (p := ⟨C, 0, none⟩) (own_ne hown hb (by decide)) _, own_setCell ht1 (p := ⟨C, 0, none⟩) hnt _,
    ((Kept.refl _ w).grown hg (fun k e => .inl (.inr e.symm.symm))).setCell (p := ⟨C, 0, none⟩) (.inl (.inl rfl)) _⟩

theorem ref_app2 {w w2 w3 : World} {C : Nat} {ok okE okE' : Nat → Prop} {vL vT v1 v2 : Value} {M : List Value} {T : List Bool} {X : List (List Int)} {m : Value} {xs : List Int} (h : RefAt w C ok okE vL vT M T X)
    (hE : ∀ k, okE k → okE' k) (hd : ∀ k, ok k → ¬ okE' k) (hm : Elem w okE' m xs)
    (hb2 : w2.heap[C]? = some (.cells #[v1, vT] 38 (0, 0))) (hl2 : w2.ownsRow 0 22 1 v1 (M.length + 1) (encs id (M ++ [m]))) (ht2 : w2.ownsRow 0 4 1 vT M.length (encs Value.bool T))
    (hk2 : Kept (fun k => k = C ∨ vL.ownBlock = some k) w w2) (hat1 : Near w vL v1)
    (hown : w3.ownsRow 0 4 1 v2 (M.length + 1) (encs Value.bool (T ++ [true]))) (hg : w2.grownBy w3 vT.ownBlock) (hat2 : Near w2 vT v2) :
    (w3.cell? ⟨C, 1, none⟩ = some vT ∧ w3.frozen? ⟨C, 1, none⟩ = false ∧ (w3.setCell ⟨C, 1, none⟩ v2).cell? ⟨C, 0, none⟩ = some v1) ∧ RefAt (w3.setCell ⟨C, 1, none⟩ v2) C (fun k => ok k ∨ w.heap.size ≤ k) okE' v1 v2 (M ++ [m]) (T ++ [true]) (X ++ [xs]) ∧ Kept ok w (w3.setCell ⟨C, 1, none⟩ v2) := by
  have hnt : some C ≠ vT.ownBlock := own_ne ht2 hb2 (by decide)
  have hb3 := blk_grown hb2 hg hnt
  have hl3 := own_other hl2 hg (own_type_ne hl2 ht2 (by decide))
  have hsz := hk2.size
  have hk : Kept ok w (w3.setCell ⟨C, 1, none⟩ v2) := by
    have k1 : Kept ok w w2 := hk2.mono (fun k e _ => e.elim (fun e => e ▸ h.okC) (h.okl k))
    exact (k1.grown hg (fun k e => .inl (h.okt k e))).setCell (p := ⟨C, 1, none⟩) (.inl h.okC) _
  have hel : ∀ m' xs', Elem w okE' m' xs' → Elem (w3.setCell ⟨C, 1, none⟩ v2) okE' m' xs' := fun m' xs' h' => h'.move (fun k e hlt => hk.block k hlt (fun e2 => hd k e2 e)) (fun _ e => e)
  refine ⟨⟨blk_cell hb3 1, blk_frozen hb3 1, blk_cell (blk_set hb3 1 v2) 0⟩, ⟨blk_set hb3 1 _, by simpa using own_setCell hl3 (p := ⟨C, 1, none⟩) (own_ne hl3 hb3 (by decide)) v2, ?_, by simp [h.len], by simp [h.lenX], ?_, .inl h.okC, ?_, ?_⟩, hk⟩
  · have := own_setCell hown (p := ⟨C, 1, none⟩) (own_ne hown hb3 (by decide)) v2
    rw [show (M ++ [m]).length = M.length + 1 by simp]
    exact this
  · intro i m' xs' h1 h2
    rw [List.getElem?_append] at h1 h2
    by_cases hi : i < M.length
    · rw [if_pos hi] at h1
      rw [if_pos (by rw [h.lenX]; exact hi)] at h2
      exact hel _ _ ((h.el i m' xs' h1 h2).move (fun _ _ _ => rfl) hE)
    · rw [if_neg hi] at h1
      rw [if_neg (by rw [h.lenX]; exact hi)] at h2
      rw [h.lenX] at h2
      have hz : i - M.length = 0 := by
        rcases Nat.eq_zero_or_pos (i - M.length) with e | e
        · exact e
        · rw [List.getElem?_eq_none (by simp; omega)] at h1; cases h1
      rw [hz] at h1 h2
      simp only [List.getElem?_cons_zero, Option.some.injEq] at h1 h2
      subst h1; subst h2
      exact hel _ _ hm
  · intro k e
    rcases hat1 with e1 | ⟨b, e1, hb⟩
    · exact .inl (h.okl k (e1 ▸ e))
    · rw [e1] at e; injection e with e; exact .inr (by omega)
  · intro k e
    rcases hat2 with e1 | ⟨b, e1, hb⟩
    · exact .inl (h.okt k (e1 ▸ e))
    · rw [e1] at e; injection e with e; exact .inr (by omega)

/-- What Add leaves of the lists. -/
def addX {α : Type} (X : List α) (T : List Bool) (x : α) : List α := if lowest T = T.length then X ++ [x] else X.set (lowest T) x

set_option maxRecDepth 100000 in
set_option maxHeartbeats 1600000 in
theorem refAdd_any {w : World} {C : Nat} {ok okE okE' : Nat → Prop} {vL vT : Value} {M : List Value} {T : List Bool} {X : List (List Int)} (h : RefAt w C ok okE vL vT M T X) (hE : ∀ k, okE k → okE' k) (hd : ∀ k, ok k → ¬ okE' k) (hl : M.length ≤ 100000) (m : Value) (xs : List Int) (hm : Elem w okE' m xs) :
    Calls Try.prog 42 #[.pointer (some ⟨C, 0, none⟩), m] w fun e w' => e = .returned (.int .i64 (lowest T)) ∧ (∃ vL' vT', RefAt w' C (fun k => ok k ∨ w.heap.size ≤ k) okE' vL' vT' (addX M T m) (addT T) (addX X T xs)) ∧ Kept ok w w' := by
  have hc : w.cell? ⟨C, 0, none⟩ = some vL := blk_cell h.blk 0
  have hf0 : w.frozen? ⟨C, 0, none⟩ = false := blk_frozen h.blk 0
  have hc1 : w.cell? ⟨C, 1, none⟩ = some vT := blk_cell h.blk 1
  have hlen := h.len
  have hmx := hm
  obtain ⟨Am, cm, rfl, _⟩ := hm
  have H := Lib.hid h; have Hlen := Lib.hid hlen; have Hm := Lib.hid hmx
  clear h hlen hmx
  have hvl : ∃ A c, vL = .slice A M.length c := own_slice H.out.rl
  obtain ⟨A, c, rfl⟩ := hvl
  have hvt : ∃ A c, vT = .slice A M.length c := own_slice H.out.rt
  obtain ⟨At, ct, rfl⟩ := hvt
  obtain ⟨i4, hi4, z41, z42, z43⟩ := info_parts info4
  rcases Nat.eq_zero_or_pos M.length with hM0 | hM0
  · have hz : ¬ (0 : Int) < (M.length : Int) := by omega
    have hlow : lowest T = T.length := by
      have := lowest_le T; have := Hlen.out; omega
    have Hlow := Lib.hid hlow; have HM0 := Lib.hid hM0
    have hret : lowest T = M.length := by rw [hlow]; exact Hlen.out
    have HlM := Lib.hid hret
    clear hlow hM0 hret
    go_enter Try.func42, Try.ntmps42
    go_wp2
    go_loop [5] (fun iv => iv = .int .i64 0) (fun _ => 0)
    case atStart => rfl
    case round =>
      subst hrel
      go_wp2_with (first | (at_builtin; refine print_append_of (w0 := w) id 0 rfl (.tmp 41) (.tmp 43) 36 22 (.slice none 0 0) 24 rfl Try.underlying36 info22 rfl (by decide) _ M _ rfl rfl rfl H.out.rl (Below.refl _ _) (Nat.zero_le _) (by omega) ?_; intro v1 w1 hown1 hb1 hg1 hat1; rw [List.length_append, List.length_singleton] at hown1; obtain ⟨A1, k1, rfl⟩ := own_slice hown1; obtain ⟨hcb, hfb, hcb1, hA⟩ := ref_app1 H.out hown1 hg1; have HA := Lib.hid hA; have Hat1 := Lib.hid hat1; clear hA hown1 hb1 hg1 hat1; have hnb := blk_new (w1.setCell ⟨C, 0, none⟩ (Value.slice A1 (M.length + 1) k1)) (.cells #[.bool true] 4); rw [World.size_setCell] at hnb; have Hnb := Lib.hid hnb; clear hnb) | (at_builtin; refine wpList_append_lies _ rfl _ _ _ rfl 0 4 i4 _ 1 1 Try.underlying26 hi4 z41 z42 z43 rfl (by omega) _ M.length _ rfl (HA.out.2.2.1.alloc _) ⟨w1.heap.size, 0, none⟩ 1 1 [.bool true] rfl rfl (World.news_of_block Hnb.out) (by simp [Value.oneCell']) (by omega) (by simp [maxLen]; omega) (by omega) (Nat.zero_le _) _ rfl ?_; intro g2 cap2 w3 hown2 hg2 hat2 hlt2; obtain ⟨hd1, hR⟩ := ref_app2 H.out hE hd Hm.out HA.out.1 HA.out.2.1 HA.out.2.2.1 HA.out.2.2.2 Hat1.out (v2 := .slice (some ⟨g2, 0, none⟩) (M.length + 1) cap2) (by rw [encs_append]; exact hown2) (World.grownBy.trans (World.grownBy_alloc _ _ _) hg2) (hat2.elim (fun e => .inl (Eq.symm e)) (fun e => .inr ⟨g2, rfl, by rw [e]; simp⟩)); obtain ⟨hd1a, hd1b, hd1c⟩ := hd1; have HR := Lib.hid hR; clear hR hg2 hown2 hat2))
      go_ret
      rw [show addX M T _ = M ++ [_] from if_pos Hlow.out, show addT T = T ++ [true] from if_pos Hlow.out, show addX X T xs = X ++ [xs] from if_pos Hlow.out]
      exact ⟨congrArg (fun n : Nat => Ending.returned (Value.int .i64 (n : Int))) HlM.out.symm, ⟨_, _, HR.out.1⟩, HR.out.2⟩
  · obtain ⟨g, c', hfe, _, _⟩ := H.out.rl.form hM0
    injection hfe with e1 _ e3
    subst e1; subst e3
    obtain ⟨gt, ct', hfe, _, _⟩ := H.out.rt.form hM0
    injection hfe with e1 _ e3
    subst e1; subst e3
    go_enter Try.func42, Try.ntmps42
    go_wp2
    go_loop [5] (fun iv => ∃ i : Nat, i ≤ M.length ∧ iv = .int .i64 i ∧ Hid (∀ j : Nat, j < i → T[j]? = some true)) (fun iv => M.length - (intOf iv).toNat)
    case atStart => exact ⟨0, Nat.zero_le _, rfl, Lib.hid (fun j hj => by omega)⟩
    case round =>
      obtain ⟨i, hi, rfl, hall⟩ := hrel
      by_cases hlt : i < M.length
      · obtain ⟨hu, huf⟩ := own_at_of (d := false) H.out.rt (i : Int) (by omega) (by omega)
        rw [Int.toNat_natCast] at hu huf
        have p0 : (0 : Int) ≤ (i : Int) := by omega
        have p1 : (i : Int) < (M.length : Int) := by omega
        have hiT : i < T.length := by rw [Hlen.out]; exact hlt
        have hget : T[i]? = some (rdOf false T (i : Int)) := by rw [List.getElem?_eq_getElem hiT]; simp [rdOf, List.getD, List.getElem?_eq_getElem hiT]
        have Hget := Lib.hid hget
        clear hget hiT
        cases hb : rdOf false T (i : Int)
        · rw [hb] at hu Hget
          clear hb
          have hlow : lowest T = i := lowest_is T i hall.out (.inr Hget.out)
          obtain ⟨hv, hvf⟩ := own_at_of (d := Value.slice none 0 0) H.out.rl (i : Int) p0 p1
          rw [Int.toNat_natCast] at hv hvf
          obtain ⟨hp, hk1⟩ := ref_put H.out hE hd i hlt _ xs Hm.out
          have hp' : RefAt (w.setCell ⟨g, i, none⟩ (.slice Am xs.length cm)) C ok okE' (.slice (some ⟨g, 0, none⟩) M.length c) (.slice (some ⟨gt, 0, none⟩) (M.set i (.slice Am xs.length cm)).length ct) (M.set i (.slice Am xs.length cm)) T (X.set i xs) := by simpa using hp
          obtain ⟨hq, hk2⟩ := ref_mark hp' hd i true
          have hc1' : (w.setCell ⟨g, i, none⟩ (.slice Am xs.length cm)).cell? ⟨C, 1, none⟩ = some (.slice (some ⟨gt, 0, none⟩) M.length ct) := blk_cell hp.blk 1
          obtain ⟨hu2, huf2⟩ := own_at_of (d := false) (n := M.length) (by simpa using hp.rt) (i : Int) p0 p1
          rw [Int.toNat_natCast] at hu2 huf2
          have Hq := Lib.hid hq; have Hk1 := Lib.hid hk1; have Hk2 := Lib.hid hk2; have Hlow := Lib.hid hlow
          clear hq hk1 hk2 hp hp' hlow
          go_wp2
          go_ret
          have hne : lowest T ≠ T.length := by rw [Hlow.out, Hlen.out]; omega
          have hfin := Hq.out.mono (ok' := fun k => ok k ∨ w.heap.size ≤ k) (fun k e => .inl e) (fun _ e => e)
          rw [show addX M T _ = M.set (lowest T) _ from if_neg hne, show addT T = T.set (lowest T) true from if_neg hne, show addX X T xs = X.set (lowest T) xs from if_neg hne, Hlow.out]
          exact ⟨rfl, ⟨_, _, hfin⟩, Hk1.out.trans (Hk2.out.mono (fun k e _ => .inl e))⟩
        · rw [hb] at hu Hget
          clear hb
          go_wp2
          go_round
          case rel =>
            refine ⟨i + 1, by omega, by go_num, Lib.hid (fun j hj => ?_)⟩
            by_cases e : j = i
            · subst e; exact Hget.out
            · exact hall.out j (by omega)
          case measure => simp [intOf]; omega
      · have hlow : lowest T = M.length := lowest_is T M.length (fun j hj => hall.out j (by omega)) (.inl Hlen.out.symm)
        have hlow2 : lowest T = T.length := by rw [hlow]; exact Hlen.out.symm
        have Hlow := Lib.hid hlow2
        have hz : ¬ (i : Int) < (M.length : Int) := by omega
        have HlM := Lib.hid hlow
        clear hlow hlow2
        go_wp2_with (first | (at_builtin; refine print_append_of (w0 := w) id 0 rfl (.tmp 41) (.tmp 43) 36 22 (.slice none 0 0) 24 rfl Try.underlying36 info22 rfl (by decide) _ M _ rfl rfl rfl H.out.rl (Below.refl _ _) (Nat.zero_le _) (by omega) ?_; intro v1 w1 hown1 hb1 hg1 hat1; rw [List.length_append, List.length_singleton] at hown1; obtain ⟨A1, k1, rfl⟩ := own_slice hown1; obtain ⟨hcb, hfb, hcb1, hA⟩ := ref_app1 H.out hown1 hg1; have HA := Lib.hid hA; have Hat1 := Lib.hid hat1; clear hA hown1 hb1 hg1 hat1; have hnb := blk_new (w1.setCell ⟨C, 0, none⟩ (Value.slice A1 (M.length + 1) k1)) (.cells #[.bool true] 4); rw [World.size_setCell] at hnb; have Hnb := Lib.hid hnb; clear hnb) | (at_builtin; refine wpList_append_lies _ rfl _ _ _ rfl 0 4 i4 _ 1 1 Try.underlying26 hi4 z41 z42 z43 rfl (by omega) _ M.length _ rfl (HA.out.2.2.1.alloc _) ⟨w1.heap.size, 0, none⟩ 1 1 [.bool true] rfl rfl (World.news_of_block Hnb.out) (by simp [Value.oneCell']) (by omega) (by simp [maxLen]; omega) (by omega) (Nat.zero_le _) _ rfl ?_; intro g2 cap2 w3 hown2 hg2 hat2 hlt2; obtain ⟨hd1, hR⟩ := ref_app2 H.out hE hd Hm.out HA.out.1 HA.out.2.1 HA.out.2.2.1 HA.out.2.2.2 Hat1.out (v2 := .slice (some ⟨g2, 0, none⟩) (M.length + 1) cap2) (by rw [encs_append]; exact hown2) (World.grownBy.trans (World.grownBy_alloc _ _ _) hg2) (hat2.elim (fun e => .inl (Eq.symm e)) (fun e => .inr ⟨g2, rfl, by rw [e]; simp⟩)); obtain ⟨hd1a, hd1b, hd1c⟩ := hd1; have HR := Lib.hid hR; clear hR hg2 hown2 hat2))
        go_ret
        rw [show addX M T _ = M ++ [_] from if_pos Hlow.out, show addT T = T ++ [true] from if_pos Hlow.out, show addX X T xs = X ++ [xs] from if_pos Hlow.out]
        exact ⟨congrArg (fun n : Nat => Ending.returned (Value.int .i64 (n : Int))) HlM.out.symm, ⟨_, _, HR.out.1⟩, HR.out.2⟩
end Go.Proofs.Ytgchgkffoplogaa
