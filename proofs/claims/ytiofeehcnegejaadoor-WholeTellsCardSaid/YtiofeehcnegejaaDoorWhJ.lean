/- Whole numbers: an answer in its form, or too big. -/
import Derived.Test.YtiofeehcnegejaaDoorWhI
namespace Go.Proofs.YtiofeehcnegejaaDoor
open Go.RowKit Go.Proofs.YtiofeehcnegejaaDoorW.PrintWords
set_option linter.unusedVariables false
set_option linter.unusedSimpArgs false

theorem trim_idem (xs : List Int) : trimLen (xs.take (trimLen xs)) = trimLen xs := by
  generalize hn : xs.length = n
  induction n generalizing xs with
  | zero => have : xs = [] := List.length_eq_zero_iff.1 hn; subst this; rfl
  | succ n ih =>
    rcases List.eq_nil_or_concat xs with rfl | ⟨ini, x, rfl⟩
    · simp at hn
    · rw [List.concat_eq_append] at hn ⊢
      by_cases hx : x = 0
      · subst hx
        rw [trimLen_zero, List.take_append_of_le_length (trimLen_le ini)]
        exact ih ini (by simpa using hn)
      · rw [trimLen_not _ _ hx, List.take_of_length_le (by simp), trimLen_not _ _ hx]
theorem pow_le (a b : Nat) (h : a ≤ b) : (2 : Int) ^ (32 * a) ≤ 2 ^ (32 * b) := by
  have e : 32 * b = 32 * a + (32 * b - 32 * a) := by omega
  rw [e, Int.pow_add]
  have p := Dv.pow_pos' (32 * a)
  have q := Dv.pow_pos' (32 * b - 32 * a)
  have : (2 : Int) ^ (32 * a) * 1 ≤ 2 ^ (32 * a) * 2 ^ (32 * b - 32 * a) := Int.mul_le_mul_of_nonneg_left (by omega) (by omega)
  omega
/-- The least size that is too big. -/
def tooBig : Int := 2 ^ (32 * 256)
theorem small_iff {xs : List Int} (hw : Dv.Wd xs) : (trimLen xs ≤ 256 → Dv.valW xs < tooBig) ∧ (256 < trimLen xs → tooBig ≤ Dv.valW xs) := by
  constructor
  · intro h
    exact Int.lt_of_lt_of_le (val_less xs hw) (pow_le _ _ h)
  · intro h
    obtain ⟨m, hm⟩ : ∃ m, trimLen xs = m + 1 := ⟨trimLen xs - 1, by omega⟩
    exact Int.le_trans (pow_le 256 m (by omega)) (val_great xs hw m hm)
/-- An answer: its form, or the error for what is too big. -/
def AnsIs (W : World) (s : Bool) (A : Option Addr) (n c : Nat) (er V : Int) : Prop :=
  (er = 3 ∧ s = false ∧ A = none ∧ n = 0 ∧ c = 0 ∧ (tooBig ≤ V ∨ tooBig ≤ -V)) ∨
  (er = 0 ∧ V < tooBig ∧ -V < tooBig ∧ ∃ zs : List Int, n = zs.length ∧ n ≤ c ∧ n ≤ 256 ∧ ReadsInt W .u32 A n zs ∧ Dv.Wd zs ∧ trimLen zs = n ∧ (s = true → 0 < n) ∧ vI s zs = V)
theorem AnsIs.below {W W' : World} {s : Bool} {A : Option Addr} {n c : Nat} {er V : Int} (h : AnsIs W s A n c er V) (hb : Below W.heap.size W W') : AnsIs W' s A n c er V := by
  rcases h with h | ⟨h1, h2, h3, zs, h4, h5, h6, h7, h8⟩
  · exact .inl h
  · exact .inr ⟨h1, h2, h3, zs, h4, h5, h6, h7.below hb, h8⟩

set_option maxRecDepth 100000 in
/-- fits of what form answers. -/
theorem fits_form (neg : Bool) (A1 : Option Addr) (c1 : Nat) (zs : List Int) (W : World) (hw : Dv.Wd zs) (hn : zs.length ≤ 1000000) (hc : trimLen zs ≤ c1) (hr : ReadsInt W .u32 A1 (trimLen zs) (zs.take (trimLen zs))) :
    Calls Tryd.prog 48 #[.agg #[.bool (neg && decide (0 < trimLen zs)), .slice A1 (trimLen zs) c1]] W fun e w' => ∃ s A n c er, e = .returned (.tuple #[.agg #[.bool s, .slice A n c], .int .i64 er]) ∧ AnsIs w' s A n c er (vI neg zs) ∧ (A = none ∨ A = A1) ∧ Below W.heap.size W w' := by
  have hl := trimLen_le zs
  refine (fits_any (neg && decide (0 < trimLen zs)) A1 (trimLen zs) c1 (zs.take (trimLen zs)) W hr hc (by omega)).mono ?_
  rintro e w' ⟨rfl, hb⟩
  rw [trim_idem]
  obtain ⟨hs1, hs2⟩ := small_iff hw
  have h0 := Dv.valW_nonneg hw
  by_cases h : 256 < trimLen zs
  · rw [if_pos h, if_pos h]
    have h3 := hs2 h
    exact ⟨false, none, 0, 0, 3, rfl, .inl ⟨rfl, rfl, rfl, rfl, rfl, by unfold vI; cases neg <;> simp <;> omega⟩, .inl rfl, hb⟩
  · rw [if_neg h, if_neg h]
    have h3 := hs1 (by omega)
    have hlen : (zs.take (trimLen zs)).length = trimLen zs := by rw [List.length_take]; omega
    refine ⟨_, A1, trimLen zs, c1, 0, rfl, .inr ⟨rfl, by unfold vI; cases neg <;> simp <;> omega, by unfold vI; cases neg <;> simp <;> omega, zs.take (trimLen zs), hlen.symm, hc, by omega, hr.below hb, hw.take _, trim_idem zs, ?_, ?_⟩, .inr rfl, hb⟩
    · intro e
      rw [Bool.and_eq_true] at e
      simpa using e.2
    · unfold vI
      rw [valW_trim]
      by_cases ht : trimLen zs = 0
      · rw [trim_zero ht]; simp
      · have : decide (0 < trimLen zs) = true := by simp; omega
        rw [this, Bool.and_true]
/-- What form answers of a row can be read. -/
theorem form_reads {W : World} {A A' : Option Addr} {c c' : Nat} {zs : List Int} (hr : ReadsInt W .u32 A zs.length zs) (h : (A' = none ∧ trimLen zs = 0) ∨ (A' = A ∧ c' = c)) : ReadsInt W .u32 A' (trimLen zs) (zs.take (trimLen zs)) := by
  have hl := trimLen_le zs
  rcases h with ⟨rfl, h⟩ | ⟨rfl, rfl⟩
  · rw [h]; exact ReadsInt.nil _ _
  · refine ⟨by rw [List.length_take]; omega, by have := hr.2.1; omega, fun hp => ?_⟩
    obtain ⟨ad, e, hc⟩ := hr.2.2 (by omega)
    refine ⟨ad, e, fun j hj => ?_⟩
    rw [hc j (by omega)]
    congr 2
    rw [List.getD_eq_getElem?_getD, List.getD_eq_getElem?_getD, List.getElem?_take, if_pos hj]
/-- A store elsewhere leaves an answer. -/
theorem AnsIs.set_ {W : World} {s : Bool} {A : Option Addr} {n c : Nat} {er V : Int} (h : AnsIs W s A n c er V) {p : Addr} (hp : ∀ ad, A = some ad → ad.block ≠ p.block) (v : Value) : AnsIs (W.setCell p v) s A n c er V := by
  rcases h with h | ⟨h1, h2, h3, zs, h4, h5, h6, h7, h8⟩
  · exact .inl h
  · refine .inr ⟨h1, h2, h3, zs, h4, h5, h6, ⟨h7.1, h7.2.1, fun hz => ?_⟩, h8⟩
    obtain ⟨ad, e, hc⟩ := h7.2.2 hz
    refine ⟨ad, e, fun j hj => ?_⟩
    have hbe : (ad.add j).block = ad.block := by unfold Addr.add; split <;> rfl
    rw [← hc j hj]
    exact World.cell?_of_block (Below.heap_setCell _ _ _ _ (by rw [hbe]; exact hp ad e))
end Go.Proofs.YtiofeehcnegejaaDoor
