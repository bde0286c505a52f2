/- The document's own slots: what they are in a world; Is, Get, Set, Free. -/
import Derived.Test.YtgchgkffoplogaaSk
namespace Go.Proofs.Ytgchgkffoplogaa
open Go.RowKit Go.Proofs.YtgchgkffoplogaaW.PrintWords
set_option linter.unusedVariables false
set_option linter.unusedSimpArgs false

/-- A slice of numbers that is only read. -/
def Elem (w : World) (okE : Nat → Prop) (m : Value) (xs : List Int) : Prop := ∃ A c, m = .slice A xs.length c ∧ xs.length ≤ c ∧ ReadsInt w .i64 A xs.length xs ∧ (0 < xs.length → ∀ ad, A = some ad → okE ad.block)
theorem Elem.nil (w : World) (okE : Nat → Prop) : Elem w okE (.slice none 0 0) [] := ⟨none, 0, rfl, Nat.le_refl _, ReadsInt.nil _ _, fun h => absurd h (Nat.lt_irrefl 0)⟩
theorem Elem.move {w w' : World} {okE okE' : Nat → Prop} {m : Value} {xs : List Int} (h : Elem w okE m xs) (hm : ∀ k, okE k → k < w.heap.size → w'.heap[k]? = w.heap[k]?) (hk : ∀ k, okE k → okE' k) : Elem w' okE' m xs := by
  obtain ⟨A, c, rfl, hc, hr, ho⟩ := h
  refine ⟨A, c, rfl, hc, ⟨hr.1, hr.2.1, fun hp => ?_⟩, fun hp ad e => hk _ (ho hp ad e)⟩
  obtain ⟨ad, e, hcell⟩ := hr.2.2 hp
  refine ⟨ad, e, fun j hj => ?_⟩
  have hlt := World.block_lt_of_cell? w _ (hcell j hj)
  have hb : (ad.add j).block = ad.block := by unfold Addr.add; split <;> rfl
  rw [World.cell?_of_block (hm (ad.add j).block (by rw [hb]; exact ho hp ad e) hlt)]
  exact hcell j hj

structure RefAt (w : World) (C : Nat) (ok okE : Nat → Prop) (vL vT : Value) (M : List Value) (T : List Bool) (X : List (List Int)) : Prop where
  blk : w.heap[C]? = some (.cells #[vL, vT] 38 (0, 0))
  rl : w.ownsRow 0 22 1 vL M.length (encs id M)
  rt : w.ownsRow 0 4 1 vT M.length (encs .bool T)
  len : T.length = M.length
  lenX : X.length = M.length
  el : ∀ i : Nat, ∀ m xs, M[i]? = some m → X[i]? = some xs → Elem w okE m xs
  okC : ok C
  okl : ∀ k, vL.ownBlock = some k → ok k
  okt : ∀ k, vT.ownBlock = some k → ok k
namespace RefAt
variable {w w' : World} {C : Nat} {ok ok' okE okE' : Nat → Prop} {vL vT : Value} {M : List Value} {T : List Bool} {X : List (List Int)}
theorem mono (h : RefAt w C ok okE vL vT M T X) (hk : ∀ k, ok k → ok' k) (hE : ∀ k, okE k → okE' k) : RefAt w C ok' okE' vL vT M T X :=
  ⟨h.blk, h.rl, h.rt, h.len, h.lenX, fun i m xs h1 h2 => (h.el i m xs h1 h2).move (fun _ _ _ => rfl) hE, hk _ h.okC, fun k e => hk _ (h.okl k e), fun k e => hk _ (h.okt k e)⟩
theorem bound (h : RefAt w C ok okE vL vT M T X) : RefAt w C (fun k => ok k ∧ k < w.heap.size) okE vL vT M T X :=
  ⟨h.blk, h.rl, h.rt, h.len, h.lenX, h.el, ⟨h.okC, blk_lt h.blk⟩, fun k e => ⟨h.okl k e, own_lt h.rl k e⟩, fun k e => ⟨h.okt k e, own_lt h.rt k e⟩⟩
theorem move (h : RefAt w C ok okE vL vT M T X) (hm : ∀ k, ok k → k < w.heap.size → w'.heap[k]? = w.heap[k]?) (hE : ∀ k, okE k → k < w.heap.size → w'.heap[k]? = w.heap[k]?) : RefAt w' C ok okE vL vT M T X := by
  have h' := h.bound
  exact ⟨(hm _ h.okC (blk_lt h.blk)).trans h.blk, own_move h.rl (fun k e => hm k (h'.okl k e).1 (h'.okl k e).2), own_move h.rt (fun k e => hm k (h'.okt k e).1 (h'.okt k e).2), h.len, h.lenX, fun i m xs h1 h2 => (h.el i m xs h1 h2).move hE (fun _ e => e), h.okC, h.okl, h.okt⟩
theorem drewN (h : RefAt w C ok okE vL vT M T X) (q : Nat) : RefAt (w.drewN q) C ok okE vL vT M T X := h.move (fun _ _ _ => rfl) (fun _ _ _ => rfl)
end RefAt

theorem one_any {w : World} {okE : Nat → Prop} {m : Value} {xs : List Int} (h : Elem w okE m xs) : Calls Try.prog 44 #[m] w fun e w' => e = .returned (.int .i64 (rd xs 0)) ∧ w = w' := by
  obtain ⟨A, c, rfl, hc, hr, _⟩ := h
  by_cases h0 : xs = []
  · subst h0
    go_enter Try.func44, Try.ntmps44
    go_wp2
    go_ret
    exact ⟨rfl, rfl⟩
  · have hp : 0 < xs.length := List.length_pos_iff.2 h0
    obtain ⟨ad, rfl, hcell⟩ := hr.at_ 0 (by omega) (by omega)
    simp only [Int.toNat_zero] at hcell
    have p0 : (0 : Int) < (xs.length : Int) := by omega
    have hnz : ((xs.length : Int) == 0) = false := beq_eq_false_iff_ne.2 (by omega)
    have hadd : ad.add 0 = ad := by cases ad with | mk b o i => unfold Addr.add; cases i <;> simp
    have hcell0 := hcell
    rw [hadd] at hcell0
    clear hadd
    go_enter Try.func44, Try.ntmps44
    go_wp2
    go_ret
    exact ⟨rfl, rfl⟩

theorem is_any {w : World} {C : Nat} {ok okE : Nat → Prop} {vL vT : Value} {M : List Value} {T : List Bool} {X : List (List Int)} (h : RefAt w C ok okE vL vT M T X) (hl : M.length ≤ 100000) (i : Int) :
    Calls Try.prog 35 #[.pointer (some ⟨C, 0, none⟩), .int .i64 i] w fun e w' => e = .returned (.bool (isT T i)) ∧ w = w' := by
  have hc : w.cell? ⟨C, 0, none⟩ = some vL := blk_cell h.blk 0
  have hc1 : w.cell? ⟨C, 1, none⟩ = some vT := blk_cell h.blk 1
  obtain ⟨A, c, rfl⟩ := own_slice h.rl
  by_cases h0 : 0 ≤ i
  · by_cases h1 : i < M.length
    · obtain ⟨g, c1, rfl, _, _⟩ := h.rt.form (by omega)
      obtain ⟨hv, _⟩ := own_at_of (d := false) h.rt i h0 h1
      have he : isT T i = rdOf false T i := by simp [isT, h0]
      rw [he]
      go_enter Try.func35, Try.ntmps35
      go_wp2
      go_ret
      exact ⟨rfl, rfl⟩
    · have he : isT T i = false := by
        have : T.length ≤ i.toNat := by have := h.len; omega
        simp [isT, rdOf, List.getD, List.getElem?_eq_none this]
      rw [he]
      go_enter Try.func35, Try.ntmps35
      go_wp2
      go_ret
      exact ⟨rfl, rfl⟩
  · have he : isT T i = false := by simp [isT, h0]
    rw [he]
    go_enter Try.func35, Try.ntmps35
    go_wp2
    go_ret
    exact ⟨rfl, rfl⟩

/-- An element of the row, and what it reads. -/
theorem ref_elem {w : World} {C : Nat} {ok okE : Nat → Prop} {vL vT : Value} {M : List Value} {T : List Bool} {X : List (List Int)} (h : RefAt w C ok okE vL vT M T X) (i : Int) (h0 : 0 ≤ i) (h1 : i < M.length) :
    ∃ g c, vL = .slice (some ⟨g, 0, none⟩) M.length c ∧ w.cell? ⟨g, i.toNat, none⟩ = some (rdOf (.slice none 0 0) M i) ∧ w.frozen? ⟨g, i.toNat, none⟩ = false ∧ Elem w okE (rdOf (.slice none 0 0) M i) (rdOf [] X i) := by
  obtain ⟨g, c, rfl, _, _⟩ := h.rl.form (by omega)
  obtain ⟨hv, hf⟩ := own_at_of (d := Value.slice none 0 0) h.rl i h0 h1
  refine ⟨g, c, rfl, hv, hf, h.el i.toNat _ _ ?_ ?_⟩
  · have hlt : i.toNat < M.length := by omega
    rw [List.getElem?_eq_getElem hlt]; simp [rdOf, List.getD, List.getElem?_eq_getElem hlt]
  · have hlt : i.toNat < X.length := by rw [h.lenX]; omega
    rw [List.getElem?_eq_getElem hlt]; simp [rdOf, List.getD, List.getElem?_eq_getElem hlt]

theorem refGet_any {w : World} {C : Nat} {ok okE : Nat → Prop} {vL vT : Value} {M : List Value} {T : List Bool} {X : List (List Int)} (h : RefAt w C ok okE vL vT M T X) (hl : M.length ≤ 100000) (i : Int) :
    Calls Try.prog 43 #[.pointer (some ⟨C, 0, none⟩), .int .i64 i] w fun e w' => ∃ m, e = .returned (.tuple #[m, .bool (isT T i)]) ∧ Elem w okE m (if isT T i then rdOf [] X i else []) ∧ w = w' := by
  have his := is_any h hl i
  have hc : w.cell? ⟨C, 0, none⟩ = some vL := blk_cell h.blk 0
  by_cases ht : isT T i = true
  · obtain ⟨h0, h1, _⟩ := isT_lt ht
    have hlen := h.len
    obtain ⟨g, c, rfl, hv, _, he⟩ := ref_elem h i h0 (by omega)
    have h1' : i < (M.length : Int) := by omega
    obtain ⟨A, cc, hm, _⟩ := id he
    rw [hm] at hv
    rw [ht] at his
    simp only [ht, if_true]
    have He := Lib.hid he; have Hm := Lib.hid hm
    clear he hm hlen
    go_enter Try.func43, Try.ntmps43
    go_wp2_with (go_at_call 35; refine his.mono ?_; rintro e w1 ⟨rfl, rfl⟩)
    go_ret2
    exact ⟨_, rfl, by rw [← Hm.out]; exact He.out, rfl⟩
  · have ht' : isT T i = false := by simpa using ht
    rw [ht'] at his
    simp only [ht', if_false]
    go_enter Try.func43, Try.ntmps43
    go_wp2_with (go_at_call 35; refine his.mono ?_; rintro e w1 ⟨rfl, rfl⟩)
    go_ret2
    exact ⟨_, rfl, Elem.nil _ _, rfl⟩

/-- What is left of the reference where one element was put. -/
theorem ref_put {w : World} {C g c : Nat} {ok okE okE' : Nat → Prop} {vT : Value} {M : List Value} {T : List Bool} {X : List (List Int)} (h : RefAt w C ok okE (.slice (some ⟨g, 0, none⟩) M.length c) vT M T X) (hE : ∀ k, okE k → okE' k) (hd : ∀ k, ok k → ¬ okE' k) (i : Nat) (hi : i < M.length) (m : Value) (xs : List Int) (hm : Elem w okE' m xs) :
    RefAt (w.setCell ⟨g, i, none⟩ m) C ok okE' (.slice (some ⟨g, 0, none⟩) M.length c) vT (M.set i m) T (X.set i xs) ∧ Kept ok w (w.setCell ⟨g, i, none⟩ m) := by
  have hokg : ok g := h.okl g rfl
  have hCg : C ≠ g := fun e => own_ne h.rl h.blk (by decide) (by rw [e]; rfl)
  have hT : some g ≠ vT.ownBlock := fun e => (own_type_ne h.rt h.rl (by decide)).elim (fun k => by rw [k] at e; simp at e) (fun k => k e.symm)
  have hs := own_store_of (enc := id) h.rl (i : Int) m
  simp only [Int.toNat_natCast] at hs
  have hmv : ∀ m' xs', Elem w okE' m' xs' → Elem (w.setCell ⟨g, i, none⟩ m) okE' m' xs' := fun m' xs' h' => h'.move (fun k e _ => Below.heap_setCell _ _ _ _ (fun e2 => hd g hokg (by have e3 : k = g := e2; rw [← e3]; exact e))) (fun _ e => e)
  refine ⟨⟨blk_far h.blk hCg _, by simpa using hs.1, by simpa using own_setCell h.rt (p := ⟨g, i, none⟩) hT _, by simpa using h.len, by simpa using h.lenX, ?_, h.okC, h.okl, h.okt⟩, (Kept.refl ok w).setCell (p := ⟨g, i, none⟩) (.inl hokg) _⟩
  intro j m' xs' h1 h2
  rw [List.getElem?_set] at h1 h2
  by_cases e : i = j
  · subst e
    rw [if_pos rfl, if_pos hi] at h1
    rw [if_pos rfl, if_pos (by rw [h.lenX]; exact hi)] at h2
    injection h1 with h1; injection h2 with h2
    subst h1; subst h2
    exact hmv _ _ hm
  · rw [if_neg e] at h1 h2
    exact hmv _ _ ((h.el j m' xs' h1 h2).move (fun _ _ _ => rfl) hE)

theorem refSet_any {w : World} {C : Nat} {ok okE okE' : Nat → Prop} {vL vT : Value} {M : List Value} {T : List Bool} {X : List (List Int)} (h : RefAt w C ok okE vL vT M T X) (hE : ∀ k, okE k → okE' k) (hd : ∀ k, ok k → ¬ okE' k) (hl : M.length ≤ 100000) (i : Int) (m : Value) (xs : List Int) (hm : Elem w okE' m xs) :
    Calls Try.prog 45 #[.pointer (some ⟨C, 0, none⟩), .int .i64 i, m] w fun e w' => e = .returned (.bool (isT T i)) ∧ RefAt w' C ok okE' vL vT (if isT T i then M.set i.toNat m else M) T (if isT T i then X.set i.toNat xs else X) ∧ Kept ok w w' := by
  have his := is_any h hl i
  have hc : w.cell? ⟨C, 0, none⟩ = some vL := blk_cell h.blk 0
  obtain ⟨Am, cm, rfl, _⟩ := id hm
  by_cases ht : isT T i = true
  · obtain ⟨h0, h1, _⟩ := isT_lt ht
    have hlen := h.len
    obtain ⟨k, rfl⟩ := Int.eq_ofNat_of_zero_le h0
    obtain ⟨g, c, rfl, hv, hf, _⟩ := ref_elem h (k : Int) h0 (by omega)
    rw [Int.toNat_natCast] at hv hf
    have p0 : (0 : Int) ≤ (k : Int) := by omega
    have h1' : (k : Int) < (M.length : Int) := by omega
    have hfin := ref_put h hE hd k (by omega) _ xs hm
    rw [ht] at his
    simp only [ht, if_true, Int.toNat_natCast]
    have Hf := Lib.hid hfin
    clear hfin hlen hm h
    go_enter Try.func45, Try.ntmps45
    go_wp2_with (go_at_call 35; refine his.mono ?_; rintro e w1 ⟨rfl, rfl⟩)
    go_ret
    exact ⟨rfl, Hf.out.1, Hf.out.2⟩
  · have ht' : isT T i = false := by simpa using ht
    rw [ht'] at his
    simp only [ht', if_false]
    have H := Lib.hid (h.mono (ok' := ok) (fun _ e => e) hE)
    clear h hm
    go_enter Try.func45, Try.ntmps45
    go_wp2_with (go_at_call 35; refine his.mono ?_; rintro e w1 ⟨rfl, rfl⟩)
    go_ret
    exact ⟨rfl, H.out, Kept.refl _ _⟩
end Go.Proofs.Ytgchgkffoplogaa
