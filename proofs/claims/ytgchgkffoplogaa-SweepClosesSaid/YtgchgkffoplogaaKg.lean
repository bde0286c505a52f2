/- Plain laws of SweepCloses, and the two rows of bools. -/
import Derived.Test.YtgchgkffoplogaaKf
namespace Go.Proofs.Ytgchgkffoplogaa
open Go.RowKit Go.Proofs.YtgchgkffoplogaaW.PrintWords
set_option linter.unusedVariables false
set_option linter.unusedSimpArgs false

/-! ### The marks stand in order -/
theorem takes_order (S : List Bool) : ∀ n : Nat, (takesTo S n).Pairwise (· < ·)
  | 0 => List.Pairwise.nil
  | n + 1 => by
    rw [takesTo, List.pairwise_append]
    refine ⟨takes_order S n, by split <;> simp, fun a ha b hb => ?_⟩
    obtain ⟨j, hj, rfl, _⟩ := takes_mem S n a ha
    split at hb
    · simp at hb; omega
    · cases hb
theorem rd_get2 (l : List Int) (k : Nat) (hk : k < l.length) : rd l (k : Int) = l[k] := by
  unfold rd
  rw [List.getD_eq_getElem?_getD, Int.toNat_natCast, List.getElem?_eq_getElem hk]; rfl
theorem marks_order (T : List Bool) (X : List (List Int)) (rl : List Int) {i j : Nat} (hi : i < j) (hj : j < (marks T X rl).length) : rd (marks T X rl) (i : Int) < rd (marks T X rl) (j : Int) := by
  rw [rd_get2 _ i (by omega), rd_get2 _ j hj]
  exact List.pairwise_iff_getElem.1 (takes_order _ _) i j (Nat.lt_trans hi hj) hj hi
theorem marks_at_ (T : List Bool) (X : List (List Int)) (rl : List Int) {i : Nat} (hi : i < (marks T X rl).length) : ∃ x : Nat, rd (marks T X rl) (i : Int) = (x : Int) ∧ x < T.length ∧ Reach T X rl (x : Int) := by
  obtain ⟨j, hj, e, h⟩ := takes_mem _ _ _ (rd_mem (marks T X rl) i hi)
  exact ⟨j, e, hj, (markB_get T X rl j hj).1 h⟩
theorem marks_has (T : List Bool) (X : List (List Int)) (rl : List Int) {x : Nat} (h : Reach T X rl (x : Int)) : ∃ i : Nat, i < (marks T X rl).length ∧ rd (marks T X rl) (i : Int) = (x : Int) := by
  obtain ⟨n, e, hn⟩ := isT_ofNat h.taken
  have : x = n := by omega
  subst this
  have hm : (x : Int) ∈ marks T X rl := mem_takes hn ((markB_get T X rl x hn).2 h)
  obtain ⟨i, hi, e⟩ := List.getElem_of_mem hm
  exact ⟨i, hi, by rw [rd_get2 _ i hi]; exact e⟩

/-! ### What is marked so far -/
structure InOk (T : List Bool) (X : List (List Int)) (rl : List Int) (i : Nat) (P : List Bool) : Prop where
  len : P.length = T.length
  is : ∀ j : Nat, fR P j = true ↔ ∃ i' : Nat, i' < i ∧ rd (marks T X rl) (i' : Int) = (j : Int)
theorem InOk.start (T : List Bool) (X : List (List Int)) (rl : List Int) : InOk T X rl 0 (List.replicate T.length false) :=
  ⟨by simp, fun j => ⟨fun h => by simp [fR, List.getD_eq_getElem?_getD, List.getElem?_replicate] at h; split at h <;> simp at h, fun ⟨_, h, _⟩ => by omega⟩⟩
theorem InOk.not_yet {T : List Bool} {X : List (List Int)} {rl : List Int} {i : Nat} {P : List Bool} (h : InOk T X rl i P) (hi : i < (marks T X rl).length) {x : Nat} (hx : rd (marks T X rl) (i : Int) = (x : Int)) : fR P x = false := by
  cases hb : fR P x
  · rfl
  · obtain ⟨i', h1, h2⟩ := (h.is x).1 hb
    have := marks_order T X rl h1 hi
    omega
theorem InOk.step {T : List Bool} {X : List (List Int)} {rl : List Int} {i : Nat} {P : List Bool} (h : InOk T X rl i P) (hi : i < (marks T X rl).length) {x : Nat} (hx : rd (marks T X rl) (i : Int) = (x : Int)) (hn : x < T.length) : InOk T X rl (i + 1) (P.set x true) := by
  refine ⟨by rw [List.length_set]; exact h.len, fun j => ?_⟩
  rw [fR_set P x (by rw [h.len]; exact hn)]
  show (fR P j || decide (x = j)) = true ↔ _
  rw [Bool.or_eq_true, h.is j, decide_eq_true_eq]
  constructor
  · rintro (⟨i', h1, h2⟩ | rfl)
    · exact ⟨i', by omega, h2⟩
    · exact ⟨i, by omega, hx⟩
  · rintro ⟨i', h1, h2⟩
    by_cases e : i' = i
    · subst e; right; omega
    · left; exact ⟨i', by omega, h2⟩
theorem InOk.all {T : List Bool} {X : List (List Int)} {rl : List Int} {P : List Bool} (h : InOk T X rl (marks T X rl).length P) {x : Nat} (hx : Reach T X rl (x : Int)) : fR P x = true :=
  (h.is x).2 (marks_has T X rl hx)

/-! ### What is led to so far -/
structure LedOk (T : List Bool) (X : List (List Int)) (rl : List Int) (P : List Bool) : Prop where
  len : P.length = T.length
  sound : ∀ j : Nat, fR P j = true → Reach T X rl (j : Int)
theorem LedOk.start (T : List Bool) (X : List (List Int)) (rl : List Int) : LedOk T X rl (List.replicate T.length false) :=
  ⟨by simp, fun j h => by simp [fR, List.getD_eq_getElem?_getD, List.getElem?_replicate] at h; split at h <;> simp at h⟩
theorem LedOk.put {T : List Bool} {X : List (List Int)} {rl : List Int} {P : List Bool} (h : LedOk T X rl P) {x : Nat} (hx : Reach T X rl (x : Int)) (hn : x < T.length) : LedOk T X rl (P.set x true) := by
  refine ⟨by rw [List.length_set]; exact h.len, fun j hj => ?_⟩
  rw [fR_set P x (by rw [h.len]; exact hn)] at hj
  have hj : (fR P j || decide (x = j)) = true := hj
  rw [Bool.or_eq_true, decide_eq_true_eq] at hj
  rcases hj with hj | rfl
  · exact h.sound j hj
  · exact hx
/-- The first of the roots. -/
def RootOk (T : List Bool) (X : List (List Int)) (rl : List Int) (i : Nat) (P : List Bool) : Prop := LedOk T X rl P ∧ ∀ i' : Nat, i' < i → isT T (rd rl (i' : Int)) = true → fR P (rd rl (i' : Int)).toNat = true
theorem RootOk.skip {T : List Bool} {X : List (List Int)} {rl : List Int} {i : Nat} {P : List Bool} (h : RootOk T X rl i P) (hn : isT T (rd rl (i : Int)) = false) : RootOk T X rl (i + 1) P :=
  ⟨h.1, fun i' hi ht => by
    by_cases e : i' = i
    · subst e; rw [hn] at ht; cases ht
    · exact h.2 i' (by omega) ht⟩
theorem RootOk.put {T : List Bool} {X : List (List Int)} {rl : List Int} {i : Nat} {P : List Bool} (h : RootOk T X rl i P) {x : Nat} (hx : rd rl (i : Int) = (x : Int)) (hr : Reach T X rl (x : Int)) (hn : x < T.length) : RootOk T X rl (i + 1) (P.set x true) := by
  refine ⟨h.1.put hr hn, fun i' hi ht => ?_⟩
  have hl : x < P.length := by rw [h.1.len]; exact hn
  by_cases e : i' = i
  · subst e; rw [hx, Int.toNat_natCast]; exact fR_set_same P x hl
  · exact fR_set_keep P x _ hl (h.2 i' (by omega) ht)

theorem cnt_mono : ∀ (Q P : List Bool), Q.length = P.length → (∀ j : Nat, fR Q j = true → fR P j = true) → cnt Q ≤ cnt P ∧ ((∃ j : Nat, fR P j = true ∧ fR Q j = false) → cnt Q < cnt P)
  | [], [], _, _ => ⟨Nat.le_refl _, fun ⟨j, h, _⟩ => by simp [fR] at h⟩
  | [], _ :: _, h, _ => by simp at h
  | _ :: _, [], h, _ => by simp at h
  | q :: Q, p :: P, hl, h => by
    obtain ⟨h1, h2⟩ := cnt_mono Q P (by simpa using hl) (fun j hj => by have := h (j + 1); simpa [fR] using this (by simpa [fR] using hj))
    have h0 := h 0
    simp only [fR, List.getD_cons_zero] at h0
    have ec : ∀ (b : Bool) (l : List Bool), cnt (b :: l) = cnt l + if b then 1 else 0 := fun b l => by unfold cnt; rw [List.countP_cons]; cases b <;> rfl
    rw [ec, ec]
    refine ⟨by cases q <;> cases p <;> simp_all <;> omega, fun ⟨j, hp, hq⟩ => ?_⟩
    cases j with
    | zero =>
      simp only [fR, List.getD_cons_zero] at hp hq
      rw [hp, hq]; simp; omega
    | succ j =>
      have := h2 ⟨j, by simpa [fR] using hp, by simpa [fR] using hq⟩
      cases q <;> cases p <;> simp_all <;> omega

def FullOk (T : List Bool) (X : List (List Int)) (rl : List Int) (P : List Bool) : Prop := ∀ j : Nat, Reach T X rl (j : Int) → fR P j = true
/-- At the head of the turns. -/
structure TurnOk (T : List Bool) (X : List (List Int)) (rl : List Int) (t : Nat) (P : List Bool) : Prop where
  led : LedOk T X rl P
  roots : ∀ r ∈ rl, isT T r = true → fR P r.toNat = true
  go : FullOk T X rl P ∨ t ≤ cnt P
theorem TurnOk.start {T : List Bool} {X : List (List Int)} {rl : List Int} {P : List Bool} (h : RootOk T X rl rl.length P) : TurnOk T X rl 0 P :=
  ⟨h.1, fun r hr ht => by
    obtain ⟨i, hi, rfl⟩ := List.getElem_of_mem hr
    have := h.2 i hi
    rw [rd_get2 rl i hi] at this
    exact this ht, .inr (Nat.zero_le _)⟩
/-- Within a turn that began at Q. -/
structure RoundOk (T : List Bool) (X : List (List Int)) (rl : List Int) (Q : List Bool) (i : Nat) (P : List Bool) : Prop where
  led : LedOk T X rl P
  up : ∀ j : Nat, fR Q j = true → fR P j = true
  done : ∀ i' : Nat, i' < i → fR Q (rd (marks T X rl) (i' : Int)).toNat = true → ∀ y ∈ X.getD (rd (marks T X rl) (i' : Int)).toNat [], isT T y = true → fR P y.toNat = true
theorem RoundOk.start {T : List Bool} {X : List (List Int)} {rl : List Int} {Q : List Bool} (h : LedOk T X rl Q) : RoundOk T X rl Q 0 Q := ⟨h, fun _ h => h, fun _ h => by omega⟩
theorem LedOk.cnt_le {T : List Bool} {X : List (List Int)} {rl : List Int} {P : List Bool} (h : LedOk T X rl P) : cnt P ≤ (marks T X rl).length ∧ (¬ FullOk T X rl P → cnt P < (marks T X rl).length) := by
  have e : (marks T X rl).length = cnt (markB T X rl) := by rw [← takes_len2]; unfold marks; rw [markB_len]
  obtain ⟨h1, h2⟩ := cnt_mono P (markB T X rl) (by rw [h.len, markB_len]) (fun j hj => by
    have hr := h.sound j hj
    obtain ⟨n, e, hn⟩ := isT_ofNat hr.taken
    have : j = n := by omega
    subst this
    exact (markB_get T X rl j hn).2 hr)
  rw [e]
  refine ⟨h1, fun hf => ?_⟩
  by_cases hc : cnt P < cnt (markB T X rl)
  · exact hc
  · exfalso
    refine hf (fun j hj => ?_)
    cases hb : fR P j
    · obtain ⟨n, e, hn⟩ := isT_ofNat hj.taken
      have : j = n := by omega
      subst this
      exact absurd (h2 ⟨j, (markB_get T X rl j hn).2 hj, hb⟩) hc
    · rfl
theorem RoundOk.turn {T : List Bool} {X : List (List Int)} {rl : List Int} {Q P : List Bool} {t : Nat} (hQ : TurnOk T X rl t Q) (h : RoundOk T X rl Q (marks T X rl).length P) : TurnOk T X rl (t + 1) P := by
  refine ⟨h.led, fun r hr ht => h.up _ (hQ.roots r hr ht), ?_⟩
  by_cases hF : FullOk T X rl Q
  · exact .inl (fun j hj => h.up j (hF j hj))
  · have ht : t ≤ cnt Q := hQ.go.elim (fun h => absurd h hF) id
    by_cases hC : ∀ x : Nat, fR Q x = true → ∀ y ∈ X.getD x [], isT T y = true → fR Q y.toNat = true
    · exfalso
      refine hF (fun j hj => ?_)
      have key : ∀ k : Int, Reach T X rl k → fR Q k.toNat = true := by
        intro k hk
        induction hk with
        | root h1 h2 => exact hQ.roots _ h1 h2
        | step h1 h2 h3 ih => exact hC _ ih _ h2 h3
      simpa using key (j : Int) hj
    · refine .inr ?_
      have : ∃ x : Nat, fR Q x = true ∧ ∃ y, y ∈ X.getD x [] ∧ isT T y = true ∧ fR Q y.toNat = false := by
        apply Classical.byContradiction
        intro hn
        refine hC (fun x hx y hy ht => ?_)
        cases hb : fR Q y.toNat
        · exact absurd ⟨x, hx, y, hy, ht, hb⟩ hn
        · rfl
      obtain ⟨x, hx, y, hy, hty, hb⟩ := this
      obtain ⟨i, hi, e⟩ := marks_has T X rl (hQ.led.sound x hx)
      have hd := h.done i hi (by rw [e, Int.toNat_natCast]; exact hx) y (by rw [e, Int.toNat_natCast]; exact hy) hty
      have := (cnt_mono Q P (by rw [hQ.led.len, h.led.len]) h.up).2 ⟨_, hd, hb⟩
      omega
theorem TurnOk.full {T : List Bool} {X : List (List Int)} {rl : List Int} {P : List Bool} (h : TurnOk T X rl (marks T X rl).length P) : FullOk T X rl P := by
  rcases h.go with h1 | h1
  · exact h1
  · by_cases hF : FullOk T X rl P
    · exact hF
    · have := h.led.cnt_le.2 hF
      omega
/-- Within a slot's list. -/
structure InnerOk (T : List Bool) (X : List (List Int)) (rl : List Int) (Q : List Bool) (i x k : Nat) (P : List Bool) : Prop where
  rnd : RoundOk T X rl Q i P
  on : k = 0 ∨ fR P x = true
  before : ∀ k' : Nat, k' < k → isT T (rd (X.getD x []) (k' : Int)) = true → fR P (rd (X.getD x []) (k' : Int)).toNat = true
theorem InnerOk.start {T : List Bool} {X : List (List Int)} {rl : List Int} {Q P : List Bool} {i : Nat} (h : RoundOk T X rl Q i P) (x : Nat) : InnerOk T X rl Q i x 0 P := ⟨h, .inl rfl, fun _ h => by omega⟩
theorem InnerOk.skip {T : List Bool} {X : List (List Int)} {rl : List Int} {Q P : List Bool} {i x k : Nat} (h : InnerOk T X rl Q i x k P) (hx : fR P x = true) (ht : isT T (rd (X.getD x []) (k : Int)) = false) : InnerOk T X rl Q i x (k + 1) P :=
  ⟨h.rnd, .inr hx, fun k' hk hy => by
    by_cases e : k' = k
    · subst e; rw [ht] at hy; cases hy
    · exact h.before k' (by omega) hy⟩
theorem InnerOk.put {T : List Bool} {X : List (List Int)} {rl : List Int} {Q P : List Bool} {i x k y : Nat} (h : InnerOk T X rl Q i x k P) (hx : fR P x = true) (hy : rd (X.getD x []) (k : Int) = (y : Int)) (hr : Reach T X rl (y : Int)) (hn : y < T.length) : InnerOk T X rl Q i x (k + 1) (P.set y true) := by
  have hl : y < P.length := by rw [h.rnd.led.len]; exact hn
  refine ⟨⟨h.rnd.led.put hr hn, fun j hj => fR_set_keep P y j hl (h.rnd.up j hj), fun i' hi hq z hz ht => fR_set_keep P y _ hl (h.rnd.done i' hi hq z hz ht)⟩, .inr (fR_set_keep P y x hl hx), fun k' hk ht => ?_⟩
  by_cases e : k' = k
  · subst e; rw [hy, Int.toNat_natCast]; exact fR_set_same P y hl
  · exact fR_set_keep P y _ hl (h.before k' (by omega) ht)
theorem InnerOk.leave {T : List Bool} {X : List (List Int)} {rl : List Int} {Q P : List Bool} {i x k : Nat} (h : InnerOk T X rl Q i x k P) (hx : rd (marks T X rl) (i : Int) = (x : Int)) (he : fR P x = false ∨ (X.getD x []).length ≤ k) : RoundOk T X rl Q (i + 1) P := by
  refine ⟨h.rnd.led, h.rnd.up, fun i' hi hq y hy ht => ?_⟩
  by_cases e : i' = i
  · subst e
    rw [hx, Int.toNat_natCast] at hq hy
    rcases he with he | he
    · rw [h.rnd.up x hq] at he; cases he
    · obtain ⟨k', hk', rfl⟩ := List.getElem_of_mem hy
      have := h.before k' (by omega)
      rw [rd_get2 _ k' hk'] at this
      exact this ht
  · exact h.rnd.done i' (by omega) hq y hy ht

/-! ### A taken slot has what came in -/
theorem laid_same (X : List (List Int)) (fr : List Int) (i : Nat) (h : (laidTX X fr).1.getD i false = true) : (laidTX X fr).2.getD i [] = X.getD i [] := by
  have e : laidTX X fr = freesTX (List.replicate X.length true, X) (fr.take 200) := rfl
  rw [e] at h ⊢
  obtain ⟨h1, h2⟩ := freesTX_get (fr.take 200) (List.replicate X.length true, X) i
  rw [h1] at h
  rw [h2]
  rw [Bool.and_eq_true] at h
  have : decide ((i : Int) ∈ fr.take 200) = false := by have := h.2; revert this; cases decide ((i : Int) ∈ fr.take 200) <;> simp
  rw [this]; simp

/-! ### Two rows of bools -/
structure TwoAt (w W : World) (gi gl n : Nat) (I D : List Bool) : Prop where
  rI : W.ownsRow w.heap.size 4 1 (.slice (some ⟨gi, 0, none⟩) n n) n (encs Value.bool I)
  rD : W.ownsRow w.heap.size 4 1 (.slice (some ⟨gl, 0, none⟩) n n) n (encs Value.bool D)
  bel : Below w.heap.size w W
  ne : gi ≠ gl
namespace TwoAt
variable {w W : World} {gi gl n : Nat} {I D : List Bool}
theorem lenI (h : TwoAt w W gi gl n I D) : I.length = n := by have := h.rI.1; rw [encs_length] at this; omega
theorem lenD (h : TwoAt w W gi gl n I D) : D.length = n := by have := h.rD.1; rw [encs_length] at this; omega
theorem setI (h : TwoAt w W gi gl n I D) (j : Nat) : TwoAt w (W.setCell ⟨gi, j, none⟩ (.bool true)) gi gl n (I.set j true) D := by
  have := own_store_of h.rI (j : Int) true
  rw [Int.toNat_natCast] at this
  exact ⟨this.1, own_setCell h.rD (p := ⟨gi, j, none⟩) (by simp [Value.ownBlock]; exact h.ne) _, h.bel.setCell (p := ⟨gi, j, none⟩) (own_base h.rI gi rfl) _, h.ne⟩
theorem setD (h : TwoAt w W gi gl n I D) (j : Nat) : TwoAt w (W.setCell ⟨gl, j, none⟩ (.bool true)) gi gl n I (D.set j true) := by
  have := own_store_of h.rD (j : Int) true
  rw [Int.toNat_natCast] at this
  exact ⟨own_setCell h.rI (p := ⟨gl, j, none⟩) (by simp [Value.ownBlock]; exact fun e => h.ne e.symm) _, this.1, h.bel.setCell (p := ⟨gl, j, none⟩) (own_base h.rD gl rfl) _, h.ne⟩
theorem atI (h : TwoAt w W gi gl n I D) (j : Nat) (hj : j < n) : W.cell? ⟨gi, j, none⟩ = some (.bool (fR I j)) ∧ W.frozen? ⟨gi, j, none⟩ = false := by
  have := own_at_of (d := false) h.rI (j : Int) (by omega) (by omega)
  rw [Int.toNat_natCast] at this
  have e : rdOf false I (j : Int) = fR I j := by simp [rdOf]
  rw [e] at this; exact this
theorem atD (h : TwoAt w W gi gl n I D) (j : Nat) (hj : j < n) : W.cell? ⟨gl, j, none⟩ = some (.bool (fR D j)) ∧ W.frozen? ⟨gl, j, none⟩ = false := by
  have := own_at_of (d := false) h.rD (j : Int) (by omega) (by omega)
  rw [Int.toNat_natCast] at this
  have e : rdOf false D (j : Int) = fR D j := by simp [rdOf]
  rw [e] at this; exact this
theorem drew (h : TwoAt w W gi gl n I D) (q : Nat) : TwoAt w (W.drewN q) gi gl n I D := ⟨own_move h.rI (fun _ _ => rfl), own_move h.rD (fun _ _ => rfl), pw_below_drewN h.bel q, h.ne⟩
end TwoAt
theorem two_start (w : World) (n : Nat) (hn : n ≤ 100000) : TwoAt w ((w.alloc (.cells (madeCells #[.bool false] n) 4)).alloc (.cells (madeCells #[.bool false] n) 4)) w.heap.size (w.heap.size + 1) n (List.replicate n false) (List.replicate n false) := by
  have h1 := own_made_of (enc := Value.bool) (d := false) w w.heap.size 4 n (Nat.le_refl _) (by omega)
  obtain ⟨W1, hW⟩ : ∃ W1, W1 = w.alloc (.cells (madeCells #[.bool false] n) 4) := ⟨_, rfl⟩
  have hs : W1.heap.size = w.heap.size + 1 := by rw [hW]; simp
  have h1' : W1.ownsRow w.heap.size 4 1 (.slice (some ⟨w.heap.size, 0, none⟩) n n) n (encs Value.bool (List.replicate n false)) := by rw [hW]; exact h1
  have h2 := own_made_of (enc := Value.bool) (d := false) W1 w.heap.size 4 n (by omega) (by omega)
  rw [hs] at h2
  rw [← hW]
  refine ⟨pw_own_below h1' (below_alloc (Below.refl _ _) _), h2, ?_, by omega⟩
  rw [hW]
  exact below_alloc (below_alloc (Below.refl _ _) _) _
end Go.Proofs.Ytgchgkffoplogaa
