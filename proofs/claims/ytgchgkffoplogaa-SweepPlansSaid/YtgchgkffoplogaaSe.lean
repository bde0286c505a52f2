/- What a table of slots is: its struct, its rows, its free numbers. -/
import Derived.Test.YtgchgkffoplogaaSd
namespace Go.Proofs.Ytgchgkffoplogaa
open Go.RowKit Go.Proofs.YtgchgkffoplogaaW.PrintWords
set_option linter.unusedVariables false

/-! ### Plain: the free numbers of a table -/
def freesFrom : Nat → List Bool → List Int
  | _, [] => []
  | k, b :: T => if b then freesFrom (k + 1) T else (k : Int) :: freesFrom (k + 1) T
theorem mem_frees : ∀ (T : List Bool) (k : Nat) (x : Int), x ∈ freesFrom k T ↔ ∃ i : Nat, x = ((k + i : Nat) : Int) ∧ T[i]? = some false
  | [], k, x => by simp [freesFrom]
  | b :: T, k, x => by
    have ih := mem_frees T (k + 1) x
    have hs : (∃ i : Nat, x = ((k + i : Nat) : Int) ∧ (b :: T)[i]? = some false) ↔ (x = (k : Int) ∧ b = false) ∨ ∃ i : Nat, x = ((k + 1 + i : Nat) : Int) ∧ T[i]? = some false := by
      constructor
      · rintro ⟨i, hi, hb⟩
        cases i with
        | zero => exact .inl ⟨by simpa using hi, by simpa using hb⟩
        | succ i => exact .inr ⟨i, by rw [hi]; omega, by simpa using hb⟩
      · rintro (⟨h, hb⟩ | ⟨i, hi, hb⟩)
        · exact ⟨0, by simpa using h, by simp [hb]⟩
        · exact ⟨i + 1, by rw [hi]; omega, by simpa using hb⟩
    rw [hs]
    cases b
    · simp only [freesFrom, Bool.false_eq_true, if_false, List.mem_cons, ih, and_true]
    · simp only [freesFrom, if_true, ih, Bool.true_eq_false, and_false, false_or]
theorem frees_set_false : ∀ (T : List Bool) (k i : Nat), T[i]? = some true → (freesFrom k (T.set i false)).Perm (((k + i : Nat) : Int) :: freesFrom k T)
  | [], k, i, h => by simp at h
  | b :: T, k, 0, h => by
    obtain rfl : b = true := by simpa using h
    simp [freesFrom]
  | b :: T, k, i + 1, h => by
    have ih := frees_set_false T (k + 1) i (by simpa using h)
    rw [show k + 1 + i = k + (i + 1) by omega] at ih
    cases b
    · simp only [List.set_cons_succ, freesFrom, Bool.false_eq_true, if_false]
      exact (ih.cons _).trans (List.Perm.swap _ _ _)
    · simpa only [List.set_cons_succ, freesFrom, if_true] using ih
theorem frees_set_true : ∀ (T : List Bool) (k i : Nat), T[i]? = some false → (freesFrom k T).Perm (((k + i : Nat) : Int) :: freesFrom k (T.set i true))
  | [], k, i, h => by simp at h
  | b :: T, k, 0, h => by
    obtain rfl : b = false := by simpa using h
    simp [freesFrom]
  | b :: T, k, i + 1, h => by
    have ih := frees_set_true T (k + 1) i (by simpa using h)
    rw [show k + 1 + i = k + (i + 1) by omega] at ih
    cases b
    · simp only [List.set_cons_succ, freesFrom, Bool.false_eq_true, if_false]
      exact (ih.cons _).trans (List.Perm.swap _ _ _)
    · simpa only [List.set_cons_succ, freesFrom, if_true] using ih
theorem frees_snoc : ∀ (T : List Bool) (k : Nat), freesFrom k (T ++ [true]) = freesFrom k T
  | [], k => by simp [freesFrom]
  | b :: T, k => by simp [freesFrom, frees_snoc T (k + 1)]
/-- How many are taken. -/
def cnt (T : List Bool) : Nat := T.countP (· == true)
theorem frees_length : ∀ (T : List Bool) (k : Nat), (freesFrom k T).length + cnt T = T.length
  | [], k => rfl
  | b :: T, k => by
    have := frees_length T (k + 1)
    cases b <;> simp [freesFrom, cnt] at this ⊢ <;> omega
/-- The lowest free number. -/
def lowest (T : List Bool) : Nat := T.findIdx (fun b => !b)
theorem lowest_full (T : List Bool) (k : Nat) (h : freesFrom k T = []) : lowest T = T.length := by
  refine List.findIdx_eq_length.2 ?_
  intro b hb
  obtain ⟨i, hi, rfl⟩ := List.getElem_of_mem hb
  cases hv : T[i]
  · have : (((k + i : Nat) : Int)) ∈ freesFrom k T := (mem_frees T k _).2 ⟨i, rfl, by rw [List.getElem?_eq_getElem hi, hv]⟩
    rw [h] at this; simp at this
  · rfl
theorem lowest_least (T : List Bool) (m : Nat) (hm : T[m]? = some false) (hl : ∀ i : Nat, T[i]? = some false → m ≤ i) : lowest T = m := by
  obtain ⟨hm1, hm2⟩ := List.getElem?_eq_some_iff.1 hm
  refine (List.findIdx_eq hm1).2 ⟨by simp [hm2], fun j hj => ?_⟩
  cases hv : T[j]'(by omega)
  · have := hl j (by rw [List.getElem?_eq_getElem (by omega), hv]); omega
  · rfl

/-- The free numbers as they stand. -/
structure FreeOk (F : List Int) (T : List Bool) : Prop where
  heap : Heap F F.length
  perm : F.Perm (freesFrom 0 T)
theorem FreeOk.len {F : List Int} {T : List Bool} (h : FreeOk F T) : F.length + cnt T = T.length := by rw [h.perm.length_eq]; exact frees_length T 0
theorem FreeOk.mem {F : List Int} {T : List Bool} (h : FreeOk F T) (x : Int) : x ∈ F ↔ ∃ i : Nat, x = (i : Int) ∧ T[i]? = some false := by
  rw [h.perm.mem_iff, mem_frees]; simp
theorem FreeOk.full {F : List Int} {T : List Bool} (h : FreeOk F T) (h0 : F = []) : lowest T = T.length := by
  refine lowest_full T 0 ?_
  have := h.perm; rw [h0] at this; exact List.nil_perm.1 this
theorem FreeOk.low {F : List Int} {T : List Bool} (h : FreeOk F T) (h0 : F ≠ []) : rd F 0 = (lowest T : Int) ∧ T[lowest T]? = some false := by
  have hp : 0 < F.length := List.length_pos_iff.2 h0
  obtain ⟨m, hm, hT⟩ := (h.mem (rd F 0)).1 (by
    have := rd_get F 0 hp
    rw [show (0 : Int) = ((0 : Nat) : Int) from rfl, this]; exact List.getElem_mem hp)
  have hlow : lowest T = m := by
    refine lowest_least T m hT (fun i hi => ?_)
    obtain ⟨k, hk, hv⟩ := List.getElem_of_mem ((h.mem (i : Int)).2 ⟨i, rfl, hi⟩)
    have := h.heap.least k hk
    rw [rd_get F k hk, hv, hm] at this
    omega
  rw [hlow]; exact ⟨hm, hT⟩
theorem FreeOk.push {F F' : List Int} {T : List Bool} {i : Nat} (h : FreeOk F T) (hi : T[i]? = some true) (hp : F'.Perm (F ++ [(i : Int)])) (hh : Heap F' F'.length) : FreeOk F' (T.set i false) := by
  refine ⟨hh, hp.trans ?_⟩
  have h1 := frees_set_false T 0 i hi
  rw [Nat.zero_add] at h1
  exact (List.perm_append_singleton _ _).trans ((h.perm.cons _).trans h1.symm)
theorem FreeOk.pop {F F' : List Int} {T : List Bool} (h : FreeOk F T) (h0 : F ≠ []) (hp : (rd F 0 :: F').Perm F) (hh : Heap F' F'.length) : FreeOk F' (T.set (lowest T) true) := by
  refine ⟨hh, ?_⟩
  obtain ⟨e, hT⟩ := h.low h0
  have h1 := frees_set_true T 0 (lowest T) hT
  rw [Nat.zero_add] at h1
  rw [e] at hp
  exact ((hp.trans h.perm).trans h1).cons_inv
theorem FreeOk.snoc {F : List Int} {T : List Bool} (h : FreeOk F T) : FreeOk F (T ++ [true]) := ⟨h.heap, by rw [frees_snoc]; exact h.perm⟩

/-! ### The table in a world -/
structure SlotsAt {α : Type} (enc : α → Value) (eL tS : Nat) (w : World) (B : Nat) (ok : Nat → Prop) (vl vt vf : Value) (L : List α) (T : List Bool) (F : List Int) : Prop where
  blk : w.heap[B]? = some (.cells #[vl, vt, vf] tS (0, 0))
  rl : w.ownsRow 0 eL 1 vl L.length (encs enc L)
  rt : w.ownsRow 0 4 1 vt L.length (encs .bool T)
  rf : Row3 w vf F
  ne : NeRow vl vf
  fr : FreeOk F T
  len : T.length = L.length
  okB : ok B
  okl : ∀ k, vl.ownBlock = some k → ok k
  okt : ∀ k, vt.ownBlock = some k → ok k
  okf : ∀ k, vf.ownBlock = some k → ok k
namespace SlotsAt
variable {α : Type} {enc : α → Value} {eL tS : Nat} {w w' : World} {B : Nat} {ok ok' : Nat → Prop} {vl vt vf : Value} {L : List α} {T : List Bool} {F : List Int}
theorem mono (h : SlotsAt enc eL tS w B ok vl vt vf L T F) (hk : ∀ k, ok k → ok' k) : SlotsAt enc eL tS w B ok' vl vt vf L T F :=
  ⟨h.blk, h.rl, h.rt, h.rf, h.ne, h.fr, h.len, hk _ h.okB, fun k e => hk _ (h.okl k e), fun k e => hk _ (h.okt k e), fun k e => hk _ (h.okf k e)⟩
theorem bound (h : SlotsAt enc eL tS w B ok vl vt vf L T F) : SlotsAt enc eL tS w B (fun k => ok k ∧ k < w.heap.size) vl vt vf L T F :=
  ⟨h.blk, h.rl, h.rt, h.rf, h.ne, h.fr, h.len, ⟨h.okB, blk_lt h.blk⟩, fun k e => ⟨h.okl k e, own_lt h.rl k e⟩, fun k e => ⟨h.okt k e, own_lt h.rt k e⟩, fun k e => ⟨h.okf k e, own_lt h.rf k e⟩⟩
theorem move (h : SlotsAt enc eL tS w B ok vl vt vf L T F) (hm : ∀ k, ok k → w'.heap[k]? = w.heap[k]?) : SlotsAt enc eL tS w' B ok vl vt vf L T F :=
  ⟨(hm _ h.okB).trans h.blk, own_move h.rl (fun k e => hm k (h.okl k e)), own_move h.rt (fun k e => hm k (h.okt k e)), own_move h.rf (fun k e => hm k (h.okf k e)), h.ne, h.fr, h.len, h.okB, h.okl, h.okt, h.okf⟩
/-- What keeps to other blocks leaves the table. -/
theorem kept (h : SlotsAt enc eL tS w B ok vl vt vf L T F) (hk : Kept ok' w w') (hd : ∀ k, k < w.heap.size → ok k → ¬ ok' k) : SlotsAt enc eL tS w' B ok vl vt vf L T F :=
  (h.bound.move (fun k hk' => hk.block k hk'.2 (hd k hk'.2 hk'.1))).mono (fun k hk' => hk'.1)
theorem below (h : SlotsAt enc eL tS w B ok vl vt vf L T F) (hb : Below w.heap.size w w') : SlotsAt enc eL tS w' B ok vl vt vf L T F :=
  (h.bound.move (fun k hk' => hb.block k hk'.2)).mono (fun k hk' => hk'.1)
theorem third (h : SlotsAt enc eL tS w B ok vl vt vf L T F) : Third w B tS vl vt vf F := ⟨h.blk, h.rf⟩
theorem drewN (h : SlotsAt enc eL tS w B ok vl vt vf L T F) (q : Nat) : SlotsAt enc eL tS (w.drewN q) B ok vl vt vf L T F := h.move (fun _ _ => rfl)
theorem drew (h : SlotsAt enc eL tS w B ok vl vt vf L T F) : SlotsAt enc eL tS w.drew B ok vl vt vf L T F := h.move (fun _ _ => rfl)
end SlotsAt
end Go.Proofs.Ytgchgkffoplogaa
