/- Plain: a text read as a number. No program in sight. -/
import Derived.Test.YtiofeehcnegejaaDoorTm
import Derived.Test.YtiofeehcnegejaaDoorRfI
namespace Go.Proofs.YtiofeehcnegejaaDoor
open Go.RowKit Go.Proofs.YtiofeehcnegejaaDoorW.PrintWords
set_option linter.unusedVariables false
set_option linter.unusedSimpArgs false

/-- The first k signs of a text. -/
def sgD (d : ByteArray) (k : Nat) : List Int := (List.range k).map fun i => bt d (i : Nat)
theorem sgD_succ (d : ByteArray) (k : Nat) : sgD d (k + 1) = sgD d k ++ [bt d (k : Nat)] := by simp [sgD, List.range_succ]
/-- What they write. -/
def valD (d : ByteArray) (k : Nat) : Int := horner (sgD d k)
theorem valD_zero (d : ByteArray) : valD d 0 = 0 := rfl
theorem valD_succ (d : ByteArray) (k : Nat) : valD d (k + 1) = valD d k * 10 + (bt d (k : Nat) - 48) := by unfold valD; rw [sgD_succ, horner_snoc]
/-- The first k signs are digits. -/
def DigB (d : ByteArray) (k : Nat) : Prop := ∀ j : Nat, j < k → 48 ≤ bt d (j : Nat) ∧ bt d (j : Nat) ≤ 57
theorem DigB.digs {d : ByteArray} {k : Nat} (h : DigB d k) : Digs (sgD d k) := fun x hx => by
  obtain ⟨j, hj, rfl⟩ := List.mem_map.1 hx
  exact h j (List.mem_range.1 hj)
theorem DigB.mono {d : ByteArray} {j k : Nat} (h : DigB d k) (hj : j ≤ k) : DigB d j := fun i hi => h i (by omega)
theorem DigB.succ {d : ByteArray} {k : Nat} (h : DigB d k) (h0 : 48 ≤ bt d (k : Nat)) (h1 : bt d (k : Nat) ≤ 57) : DigB d (k + 1) := fun j hj => by
  by_cases e : j = k
  · subst e; exact ⟨h0, h1⟩
  · exact h j (by omega)
theorem valD_nonneg {d : ByteArray} {k : Nat} (h : DigB d k) : 0 ≤ valD d k := horner_nonneg _ h.digs
theorem valD_mono {d : ByteArray} {k : Nat} (j : Nat) (h : DigB d (k + j)) : valD d k ≤ valD d (k + j) := by
  induction j with
  | zero => exact Int.le_refl _
  | succ j ih =>
    have h1 := ih (h.mono (by omega))
    have h2 := valD_nonneg (h.mono (show k + j ≤ k + (j + 1) by omega))
    have h3 := h (k + j) (by omega)
    rw [show k + (j + 1) = k + j + 1 by omega, valD_succ]
    omega
theorem valD_great {d : ByteArray} (k : Nat) (h : DigB d (k + 1)) (h0 : bt d 0 ≠ 48) : 10 ^ k ≤ valD d (k + 1) := by
  induction k with
  | zero =>
    have := h 0 (by omega)
    rw [valD_succ, valD_zero]
    have e : bt d ((0 : Nat) : Int) = bt d 0 := rfl
    rw [e] at this ⊢
    simp; omega
  | succ k ih =>
    have h1 := ih (h.mono (by omega))
    have h2 := h (k + 1) (by omega)
    rw [valD_succ, Int.pow_succ]
    omega
theorem ten_big : tooBig ≤ 10 ^ 2467 := by
  have h1 : (2 : Int) ^ 93 ≤ 10 ^ 28 := by decide
  have h2 : ∀ n : Nat, ((2 : Int) ^ 93) ^ n ≤ (10 ^ 28) ^ n := fun n => by
    induction n with
    | zero => simp
    | succ n ih =>
      rw [Int.pow_succ, Int.pow_succ]
      exact Int.mul_le_mul ih h1 (by decide) (Int.le_of_lt (Int.pow_pos (by decide)))
  have h3 := h2 88
  rw [← Int.pow_mul, ← Int.pow_mul] at h3
  have e1 : (2 : Int) ^ (32 * 256) = 2 ^ (93 * 88) * 2 ^ 8 := by rw [← Int.pow_add]
  have e2 : (10 : Int) ^ 2467 = 10 ^ (28 * 88) * 10 ^ 3 := by rw [← Int.pow_add]
  unfold tooBig
  rw [e1, e2]
  exact Int.mul_le_mul h3 (by decide) (by decide) (Int.le_of_lt (Int.pow_pos (by decide)))
theorem valD_big {d : ByteArray} {k : Nat} (h : DigB d k) (h0 : bt d 0 ≠ 48) (hk : 2467 < k) : tooBig ≤ valD d k := by
  have h1 := valD_great 2467 (h.mono (by omega)) h0
  have h2 := valD_mono (k - 2468) (k := 2468) (by rw [show 2468 + (k - 2468) = k by omega]; exact h)
  rw [show 2468 + (k - 2468) = k by omega] at h2
  exact Int.le_trans ten_big (Int.le_trans h1 h2)
/-- A text that writes no number. -/
def BadD (d : ByteArray) (neg : Bool) : Prop := d.size = 0 ∨ (bt d 0 = 48 ∧ (neg = true ∨ 1 < d.size)) ∨ ¬ DigB d d.size
def sgnI (neg : Bool) (V : Int) : Int := if neg then -V else V
/-- What both readers answer. -/
def ParsePost (w : World) (d : ByteArray) (neg : Bool) (e : Ending) (w' : World) : Prop :=
  ∃ s A n c er, e = .returned (.tuple #[.agg #[.bool s, .slice A n c], .int .i64 er]) ∧ Below w.heap.size w w' ∧
    ((er = 4 ∧ s = false ∧ A = none ∧ n = 0 ∧ c = 0 ∧ BadD d neg) ∨ (¬ BadD d neg ∧ AnsIs w' s A n c er (sgnI neg (valD d d.size))))

/-! ### Times ten and a digit -/
structure DecIn (z0 zs : List Int) (dg : Int) (j : Nat) (k : Int) : Prop where
  len : zs.length = z0.length
  wd : Dv.Wd zs
  k0 : 0 ≤ k
  k1 : k ≤ 10
  same : ∀ m : Nat, j ≤ m → rd zs (m : Int) = rd z0 (m : Int)
  eq : Dv.valW (zs.take j) + 2 ^ (32 * j) * k = Dv.valW (z0.take j) * 10 + dg
theorem DecIn.start {zs : List Int} (hw : Dv.Wd zs) {dg : Int} (h0 : 0 ≤ dg) (h1 : dg ≤ 9) : DecIn zs zs dg 0 dg := ⟨rfl, hw, h0, by omega, fun _ _ => rfl, by simp [Dv.valW]⟩
theorem DecIn.step {z0 zs : List Int} {dg : Int} {j : Nat} {k T : Int} (h : DecIn z0 zs dg j k) (hw0 : Dv.Wd z0) (hj : j < z0.length) (hT : T = k + rd z0 (j : Int) * 10) : DecIn z0 (zs.set j (T % 4294967296)) dg (j + 1) (T / 4294967296) := by
  have hz := hw0.get (j : Int)
  have k0 := h.k0
  have k1 := h.k1
  have hl := h.len
  refine ⟨by rw [List.length_set]; exact hl, Wd_set h.wd _ (by omega) (by omega), by omega, by omega, fun m hm => ?_, ?_⟩
  · rw [rd_set _ _ _ _ (by omega), if_neg (by omega)]; exact h.same m (by omega)
  · rw [valW_put zs j _ (by omega), valW_step z0 j hj, show 32 * (j + 1) = 32 * j + 32 by omega, Int.pow_add]
    have e := h.eq
    have e32 : (2 : Int) ^ 32 = 4294967296 := by decide
    rw [e32]
    obtain ⟨P, hP⟩ : ∃ P : Int, P = 2 ^ (32 * j) := ⟨_, rfl⟩
    rw [← hP] at e ⊢
    have e3 : P * (T % 4294967296) + P * 4294967296 * (T / 4294967296) = P * T := by
      rw [Int.mul_assoc, ← Int.mul_add, Int.emod_add_mul_ediv]
    have e4 : P * T = P * k + P * rd z0 (j : Int) * 10 := by rw [hT, Int.mul_add, Int.mul_assoc]
    rw [Int.add_mul]
    omega
theorem DecIn.last {z0 zs : List Int} {dg k : Int} (h : DecIn z0 zs dg z0.length k) : Dv.valW zs + 2 ^ (32 * zs.length) * k = Dv.valW z0 * 10 + dg := by
  have e := h.eq
  have hl := h.len
  rw [List.take_of_length_le (by omega), List.take_of_length_le (Nat.le_refl _)] at e
  rw [hl]; exact e
theorem AnsIs.sgn {W : World} {s : Bool} {A : Option Addr} {n c : Nat} {er : Int} {neg : Bool} {zs : List Int} {V : Int} (h : AnsIs W s A n c er (vI neg zs)) (hv : Dv.valW zs = V) : AnsIs W s A n c er (sgnI neg V) := by
  unfold vI at h; rw [hv] at h; exact h
theorem ansBig (W : World) (neg : Bool) (V : Int) (h : tooBig ≤ V) : AnsIs W false none 0 0 3 (sgnI neg V) := .inl ⟨rfl, rfl, rfl, rfl, rfl, by unfold sgnI; cases neg <;> simp <;> omega⟩
end Go.Proofs.YtiofeehcnegejaaDoor
