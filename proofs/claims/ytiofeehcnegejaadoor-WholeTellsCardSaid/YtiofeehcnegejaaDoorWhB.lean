/- Words: sizes compared, signs. -/
import Derived.Test.YtiofeehcnegejaaDoorWhA
namespace Go.Proofs.YtiofeehcnegejaaDoor
open Go.RowKit Go.Proofs.YtiofeehcnegejaaDoorW.PrintWords
set_option linter.unusedVariables false
set_option linter.unusedSimpArgs false

theorem valW_trim (xs : List Int) : Dv.valW (xs.take (trimLen xs)) = Dv.valW xs := by
  generalize hn : xs.length = n
  induction n generalizing xs with
  | zero => have : xs = [] := List.length_eq_zero_iff.1 hn; subst this; rfl
  | succ n ih =>
    rcases List.eq_nil_or_concat xs with rfl | ⟨ini, x, rfl⟩
    · simp at hn
    · rw [List.concat_eq_append] at hn ⊢
      by_cases hx : x = 0
      · subst hx
        rw [trimLen_zero, List.take_append_of_le_length (trimLen_le ini), ih ini (by simpa using hn), Dv.valW_snoc, Int.mul_zero, Int.add_zero]
      · rw [trimLen_not _ _ hx, List.take_of_length_le (by simp)]

theorem trim_top (xs : List Int) (m : Nat) (h : trimLen xs = m + 1) : rd xs m ≠ 0 := by
  generalize hn : xs.length = n
  induction n generalizing xs with
  | zero => have : xs = [] := List.length_eq_zero_iff.1 hn; subst this; simp [trimLen] at h
  | succ n ih =>
    rcases List.eq_nil_or_concat xs with rfl | ⟨ini, x, rfl⟩
    · simp at hn
    · rw [List.concat_eq_append] at hn h ⊢
      by_cases hx : x = 0
      · subst hx
        rw [trimLen_zero] at h
        have hl := trimLen_le ini
        have := ih ini h (by simpa using hn)
        unfold rd at this ⊢
        rw [Int.toNat_natCast] at this ⊢
        rw [List.getD_eq_getElem?_getD, List.getElem?_append_left (by omega), ← List.getD_eq_getElem?_getD]
        exact this
      · rw [trimLen_not _ _ hx] at h
        unfold rd
        rw [Int.toNat_natCast, show m = ini.length by omega]
        simp [hx]

theorem val_great (xs : List Int) (hw : Dv.Wd xs) (m : Nat) (h : trimLen xs = m + 1) : 2 ^ (32 * m) ≤ Dv.valW xs := by
  have hl := trimLen_le xs
  have ht := trim_top xs m h
  have hx := hw.get (m : Int)
  have e := take_succ_rd xs m (by omega)
  have hv := valW_trim xs
  rw [h, e, Dv.valW_snoc, List.length_take, Nat.min_eq_left (by omega)] at hv
  have h0 := Dv.valW_nonneg (hw.take m)
  have : (2 : Int) ^ (32 * m) * 1 ≤ 2 ^ (32 * m) * rd xs m := Int.mul_le_mul_of_nonneg_left (by omega) (by have := Dv.pow_pos' (32 * m); omega)
  omega


/-! ### Comparing, plain -/
def cmpI (a b : Int) : Int := if a < b then -1 else if b < a then 1 else 0
theorem cmpI_lt {a b : Int} (h : a < b) : cmpI a b = -1 := by simp [cmpI, h]
theorem cmpI_gt {a b : Int} (h : b < a) : cmpI a b = 1 := by unfold cmpI; rw [if_neg (by omega), if_pos h]
theorem cmpI_eq {a b : Int} (h : a = b) : cmpI a b = 0 := by unfold cmpI; rw [if_neg (by omega), if_neg (by omega)]
theorem val_less (xs : List Int) (hw : Dv.Wd xs) : Dv.valW xs < 2 ^ (32 * trimLen xs) := by
  have h := Dv.valW_lt (hw.take (trimLen xs))
  rw [valW_trim, List.length_take, Nat.min_eq_left (trimLen_le xs)] at h
  exact h
theorem val_len {xs ys : List Int} (hx : Dv.Wd xs) (hy : Dv.Wd ys) (h : trimLen xs < trimLen ys) : Dv.valW xs < Dv.valW ys := by
  obtain ⟨m, hm⟩ : ∃ m, trimLen ys = m + 1 := ⟨trimLen ys - 1, by omega⟩
  have h1 := val_less xs hx
  have h2 := val_great ys hy m hm
  have h3 : (2 : Int) ^ (32 * trimLen xs) ≤ 2 ^ (32 * m) := by
    have e : 32 * m = 32 * trimLen xs + (32 * m - 32 * trimLen xs) := by omega
    rw [e, Int.pow_add]
    have p := Dv.pow_pos' (32 * trimLen xs)
    have q := Dv.pow_pos' (32 * m - 32 * trimLen xs)
    have : (2 : Int) ^ (32 * trimLen xs) * 1 ≤ 2 ^ (32 * trimLen xs) * 2 ^ (32 * m - 32 * trimLen xs) := Int.mul_le_mul_of_nonneg_left (by omega) (by omega)
    omega
  omega
theorem take_val (xs : List Int) (hw : Dv.Wd xs) (k : Nat) (hk : k ≤ xs.length) : ∃ r, Dv.valW xs = r + 2 ^ (32 * k) * Dv.valW (xs.drop k) ∧ 0 ≤ r ∧ r < 2 ^ (32 * k) := by
  have e := Dv.valW_append (xs.take k) (xs.drop k)
  rw [List.take_append_drop, List.length_take, Nat.min_eq_left hk] at e
  have h1 := Dv.valW_nonneg (hw.take k)
  have h2 := Dv.valW_lt (hw.take k)
  rw [List.length_take, Nat.min_eq_left hk] at h2
  exact ⟨_, e, h1, h2⟩
/-- The highest word in which two rows of one length part tells which is less. -/
theorem val_word {xs ys : List Int} (hx : Dv.Wd xs) (hy : Dv.Wd ys) {k : Nat} (hkx : k < xs.length) (hky : k < ys.length) (he : Dv.valW (xs.drop (k + 1)) = Dv.valW (ys.drop (k + 1))) (h : rd xs k < rd ys k) : Dv.valW xs < Dv.valW ys := by
  obtain ⟨r, e1, r0, r1⟩ := take_val xs hx k (by omega)
  obtain ⟨s, e2, s0, s1⟩ := take_val ys hy k (by omega)
  rw [Dv.valW_drop hkx] at e1
  rw [Dv.valW_drop hky] at e2
  rw [he] at e1
  have : (2 : Int) ^ (32 * k) * (Dv.valW (ys.drop (k + 1)) * 4294967296 + rd xs k + 1) ≤ 2 ^ (32 * k) * (Dv.valW (ys.drop (k + 1)) * 4294967296 + rd ys k) := Int.mul_le_mul_of_nonneg_left (by omega) (by have := Dv.pow_pos' (32 * k); omega)
  rw [Int.mul_add, Int.mul_one] at this
  omega

/-! ### Walks -/
set_option maxRecDepth 100000 in
theorem few_any (neg : Bool) (A : Option Addr) (n c : Nat) (w : World) : Calls Tryd.prog 11 #[.agg #[.bool neg, .slice A n c]] w fun e w' => e = .returned (.bool (decide ((n : Int) ≤ 80))) ∧ Below w.heap.size w w' := by
  go_enter Tryd.func11, Tryd.ntmps11
  go_wp2
  go_ret
  exact ⟨rfl, below_alloc (Below.refl _ _) _⟩

/-- The sign of a whole number. -/
def signI (neg : Bool) (xs : List Int) : Int := if trimLen xs = 0 then 0 else if neg then -1 else 1
set_option maxRecDepth 100000 in
theorem long_any (neg : Bool) (A : Option Addr) (n c : Nat) (xs : List Int) (w : World) (hr : ReadsInt w .u32 A n xs) (hc : n ≤ c) (hn : n ≤ 9223372036854775807) :
    Calls Tryd.prog 61 #[.agg #[.bool neg, .slice A n c]] w fun e w' => e = .returned (.bool (decide (256 < trimLen xs))) ∧ Below w.heap.size w w' := by
  have htrim := trim_any A n c xs (w.alloc (.cells #[.bool neg, .slice A n c] 24)) (hr.below (below_alloc (Below.refl _ _) _)) hc hn
  have htl : trimLen xs ≤ n := by have := trimLen_le xs; have := hr.1; omega
  obtain ⟨t, ht⟩ : ∃ t, t = trimLen xs := ⟨_, rfl⟩
  rw [← ht] at htrim htl ⊢
  have Htrim := Lib.hid htrim
  clear htrim hr ht
  go_enter Tryd.func61, Tryd.ntmps61
  go_wp2_with (go_at_call 54; refine Htrim.out.mono ?_; rintro e w1 ⟨rfl, q, hW⟩; have hb : Below w.heap.size w w1 := (by rw [hW]; exact pw_below_drewN (below_alloc (Below.refl _ _) _) q); have HB := Lib.hid hb; clear hW hb)
  go_ret
  refine ⟨?_, HB.out⟩
  simp
  omega
set_option maxRecDepth 100000 in
theorem sign_any (neg : Bool) (A : Option Addr) (n c : Nat) (xs : List Int) (w : World) (hr : ReadsInt w .u32 A n xs) (hc : n ≤ c) (hn : n ≤ 9223372036854775807) :
    Calls Tryd.prog 43 #[.agg #[.bool neg, .slice A n c]] w fun e w' => e = .returned (.int .i64 (signI neg xs)) ∧ Below w.heap.size w w' := by
  have htrim := trim_any A n c xs (w.alloc (.cells #[.bool neg, .slice A n c] 24)) (hr.below (below_alloc (Below.refl _ _) _)) hc hn
  have htl : trimLen xs ≤ n := by have := trimLen_le xs; have := hr.1; omega
  obtain ⟨t, ht⟩ : ∃ t, t = trimLen xs := ⟨_, rfl⟩
  obtain ⟨sg, hsg⟩ : ∃ sg, sg = signI neg xs := ⟨_, rfl⟩
  have hs0 : sg = if t = 0 then 0 else if neg then -1 else 1 := by rw [hsg, ht]; rfl
  rw [← ht] at htrim htl
  rw [← hsg]
  have Htrim := Lib.hid htrim
  clear htrim hr ht hsg
  have hcell : ∀ (w1 : World) q, w1 = (w.alloc (.cells #[.bool neg, .slice A n c] 24)).drewN q → w1.cell? ⟨w.heap.size, 0, none⟩ = some (.bool neg) := fun w1 q e => by
    rw [e]; exact blk_cell (blk_new w (.cells #[.bool neg, .slice A n c] 24)) 0
  have Hcell := Lib.hid hcell
  clear hcell
  by_cases h0 : t = 0
  · subst h0
    have e : sg = 0 := by simpa using hs0
    subst e
    clear hs0
    go_enter Tryd.func43, Tryd.ntmps43
    go_wp2_with (go_at_call 54; refine Htrim.out.mono ?_; rintro e w1 ⟨rfl, q, hW⟩; have hb : Below w.heap.size w w1 := (by rw [hW]; exact pw_below_drewN (below_alloc (Below.refl _ _) _) q); have HB := Lib.hid hb; clear hW hb)
    go_ret
    exact ⟨rfl, HB.out⟩
  · have hb0 : ((t : Int) == 0) = false := beq_eq_false_iff_ne.2 (by omega)
    rw [if_neg h0] at hs0
    clear h0
    cases neg
    · have e : sg = 1 := by simpa using hs0
      subst e
      clear hs0
      go_enter Tryd.func43, Tryd.ntmps43
      go_wp2_with (go_at_call 54; refine Htrim.out.mono ?_; rintro e w1 ⟨rfl, q, hW⟩; have hcl := Hcell.out w1 q hW; have hb : Below w.heap.size w w1 := (by rw [hW]; exact pw_below_drewN (below_alloc (Below.refl _ _) _) q); have HB := Lib.hid hb; clear hW hb)
      go_ret
      exact ⟨rfl, HB.out⟩
    · have e : sg = -1 := by simpa using hs0
      subst e
      clear hs0
      go_enter Tryd.func43, Tryd.ntmps43
      go_wp2_with (go_at_call 54; refine Htrim.out.mono ?_; rintro e w1 ⟨rfl, q, hW⟩; have hcl := Hcell.out w1 q hW; have hb : Below w.heap.size w w1 := (by rw [hW]; exact pw_below_drewN (below_alloc (Below.refl _ _) _) q); have HB := Lib.hid hb; clear hW hb)
      go_ret
      exact ⟨rfl, HB.out⟩
end Go.Proofs.YtiofeehcnegejaaDoor
