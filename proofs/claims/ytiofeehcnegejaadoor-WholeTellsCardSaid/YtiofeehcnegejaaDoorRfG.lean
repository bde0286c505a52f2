/- The document's own Rest of a number below 0; what is refused; the law WholeRests. -/
import Derived.Test.YtiofeehcnegejaaDoorRfB
namespace Go.Proofs.YtiofeehcnegejaaDoor
open Go.RowKit Go.Proofs.YtiofeehcnegejaaDoorW.PrintWords
set_option linter.unusedVariables false
set_option linter.unusedSimpArgs false

set_option maxHeartbeats 1600000 in
set_option maxRecDepth 100000 in
theorem refRest_neg (A : Option Addr) (n c : Nat) (xs : List Int) (m : Int) (w : World) (hw : Dv.Wd xs) (hr : ReadsInt w .u32 A n xs) (hn : n * 4 ≤ 140737488355328) (hm0 : 1 ≤ m) (hm1 : m ≤ 4611686018427387904) (res : Int) (hres : res = if Dv.valW xs % m = 0 then 0 else m - Dv.valW xs % m) :
    Calls Tryd.prog 40 #[.agg #[.bool true, .slice A n c], .int .i64 m] w fun e w' => e = .returned (.tuple #[.int .i64 res, .int .i64 0]) ∧ Below w.heap.size w w' := by
  have hl : xs.length = n := hr.1
  have hlt0 := Dv.valW_lt hw
  rw [hl] at hlt0
  have hv0 := Dv.valW_nonneg hw
  have hbw := Dv.bit_word hw
  have Hl := Lib.hid hl; clear hl
  have hr2 := hr.below ((Below.refl _ w).alloc (Nat.le_refl _) (.cells #[.bool true, .slice A n c] 24))
  have Hr := Lib.hid hr2; clear hr hr2
  have Hw := Lib.hid hw; clear hw
  have Hbw := Lib.hid hbw; clear hbw
  generalize Dv.valW xs = V at *
  have Hres := Lib.hid hres; clear hres
  have k0 := World.cell?_alloc_new w #[.bool true, .slice A n c] 24 0
  have k1 := World.cell?_alloc_new w #[.bool true, .slice A n c] 24 1
  have hstart : (V / 2 ^ (32 * n)) % m = 0 := by rw [Int.ediv_eq_zero_of_lt hv0 hlt0]; simp
  have Hst := Lib.hid hstart; clear hstart hlt0
  go_enter Tryd.func40, Tryd.ntmps40
  go_wp2
  go_loop [6, 7] (fun a i => ∃ j : Nat, j ≤ 32 * n ∧ i = .int .i64 ((j : Int) - 1) ∧ a = .int .u64 ((V / 2 ^ j) % m)) (fun _ i => (intOf i + 1).toNat)
  case atStart => exact ⟨32 * n, Nat.le_refl _, by go_num, by rw [Hst.out]⟩
  case round =>
    obtain ⟨j, hj, rfl, rfl⟩ := hrel
    by_cases h0 : j = 0
    · subst h0
      have hf : (V / 2 ^ 0) % m = V % m := by simp
      have b0 : 0 ≤ V % m := Int.emod_nonneg _ (by omega)
      have b1 : V % m < m := Int.emod_lt_of_pos _ (by omega)
      rw [hf]
      clear hf
      have hRes := Hres.out
      obtain ⟨r, hr⟩ : ∃ r, V % m = r := ⟨_, rfl⟩
      rw [hr] at b0 b1 hRes ⊢
      clear hr Hres
      by_cases hz : r = 0
      · rw [if_pos hz] at hRes
        subst hz hRes
        have q0 : decide ((0 : Int) < 0) = false := rfl
        go_wp2
        go_ret2
        exact ⟨rfl, (Below.refl _ _).alloc (Nat.le_refl _) _⟩
      · rw [if_neg hz] at hRes
        subst hRes
        have hgt : 0 < r := by omega
        have q0 : decide (0 < r) = true := by simpa using hgt
        clear hz
        go_wp2
        go_ret2
        exact ⟨rfl, (Below.refl _ _).alloc (Nat.le_refl _) _⟩
    · obtain ⟨j, rfl⟩ : ∃ k, j = k + 1 := ⟨j - 1, by omega⟩
      obtain ⟨ad, rfl, hcell⟩ := Hr.out.at_ ((j / 32 : Nat) : Int) (by omega) (by omega)
      rw [Int.toNat_natCast] at hcell
      have hx := Hw.out.get ((j / 32 : Nat) : Int)
      have hbit := Hbw.out j
      obtain ⟨x, hx'⟩ : ∃ x, rd xs ((j / 32 : Nat) : Int) = x := ⟨_, rfl⟩
      rw [hx'] at hcell hx hbit
      clear hx'
      obtain ⟨hx0, hx1⟩ := hx
      have hq0 : 0 ≤ x / 2 ^ (j % 32) := Int.ediv_nonneg hx0 (by have := Dv.pow_pos' (j % 32); omega)
      have hq1 : x / 2 ^ (j % 32) < 4294967296 := by
        have h1 : x / 2 ^ (j % 32) ≤ x := Int.ediv_le_self _ hx0
        omega
      have hand := and_one32 _ hq0 hq1
      rw [← hbit] at hand
      have hst := bit_step V m j hm0 _ rfl
      have b0 : 0 ≤ (V / 2 ^ (j + 1)) % m := Int.emod_nonneg _ (by omega)
      have b1 : (V / 2 ^ (j + 1)) % m < m := Int.emod_lt_of_pos _ (by omega)
      have c0 : 0 ≤ (V / 2 ^ j) % 2 := Int.emod_nonneg _ (by omega)
      have c1 : (V / 2 ^ j) % 2 < 2 := Int.emod_lt_of_pos _ (by omega)
      generalize (V / 2 ^ j) % 2 = b at *
      generalize (V / 2 ^ (j + 1)) % m = r at *
      have Hstep := Lib.hid hst; clear hst hbit
      rw [show ((j + 1 : Nat) : Int) - 1 = (j : Int) by omega]
      by_cases hge : m ≤ 2 * r + b
      · have he := emod_hi hge (by omega)
        rw [Hstep.out] at he
        have He := Lib.hid he; clear he
        go_wp2
        go_round
        case rel => exact ⟨j, by omega, rfl, by rw [He.out]⟩
        case measure => simp [intOf]
      · have he : (2 * r + b) % m = 2 * r + b := Int.emod_eq_of_lt (by omega) (by omega)
        rw [Hstep.out] at he
        have He := Lib.hid he; clear he
        go_wp2
        go_round
        case rel => exact ⟨j, by omega, rfl, by rw [He.out]⟩
        case measure => simp [intOf]

/-- The document's own Rest of any number. -/
theorem refRest_all (neg : Bool) (A : Option Addr) (n c : Nat) (xs : List Int) (m : Int) (w : World) (hw : Dv.Wd xs) (hr : ReadsInt w .u32 A n xs) (hn : n * 4 ≤ 140737488355328) (hm0 : 1 ≤ m) (hm1 : m ≤ 4611686018427387904) :
    Calls Tryd.prog 40 #[.agg #[.bool neg, .slice A n c], .int .i64 m] w fun e w' => e = .returned (.tuple #[.int .i64 (vI neg xs % m), .int .i64 0]) ∧ Below w.heap.size w w' := by
  cases neg
  · exact refRest_any A n c xs m w hw hr hn hm0 hm1
  · refine (refRest_neg A n c xs m w hw hr hn hm0 hm1 _ rfl).mono ?_
    rintro e w' ⟨rfl, hb⟩
    exact ⟨by rw [neg_emod _ _ hm0]; rfl, hb⟩
set_option maxRecDepth 100000 in
theorem Rest_bad (neg : Bool) (A : Option Addr) (n c : Nat) (m : Int) (w : World) (hm : m < 1 ∨ 4611686018427387904 < m) :
    Calls Tryd.prog 39 #[.agg #[.bool neg, .slice A n c], .int .i64 m] w fun e w' => e = .returned (.tuple #[.int .i64 0, .int .i64 1]) ∧ Below w.heap.size w w' := by
  by_cases h1 : m < 1
  · have q : decide (m < 1) = true := by simpa using h1
    clear hm
    go_enter Tryd.func39, Tryd.ntmps39
    go_wp2
    go_ret2
    exact ⟨rfl, below_alloc (below_alloc (Below.refl _ _) _) _⟩
  · have h2 : 4611686018427387904 < m := by omega
    have q : decide (m < 1) = false := by simpa using h1
    have q2 : decide (4611686018427387904 < m) = true := by simpa using h2
    clear hm
    go_enter Tryd.func39, Tryd.ntmps39
    go_wp2
    go_ret2
    exact ⟨rfl, below_alloc (below_alloc (Below.refl _ _) _) _⟩
set_option maxRecDepth 100000 in
theorem refRest_bad (neg : Bool) (A : Option Addr) (n c : Nat) (m : Int) (w : World) (hm : m < 1 ∨ 4611686018427387904 < m) :
    Calls Tryd.prog 40 #[.agg #[.bool neg, .slice A n c], .int .i64 m] w fun e w' => e = .returned (.tuple #[.int .i64 0, .int .i64 1]) ∧ Below w.heap.size w w' := by
  by_cases h1 : m < 1
  · have q : decide (m < 1) = true := by simpa using h1
    clear hm
    go_enter Tryd.func40, Tryd.ntmps40
    go_wp2
    go_ret2
    exact ⟨rfl, below_alloc (Below.refl _ _) _⟩
  · have h2 : 4611686018427387904 < m := by omega
    have q : decide (m < 1) = false := by simpa using h1
    have q2 : decide (4611686018427387904 < m) = true := by simpa using h2
    clear hm
    go_enter Tryd.func40, Tryd.ntmps40
    go_wp2
    go_ret2
    exact ⟨rfl, below_alloc (Below.refl _ _) _⟩
set_option maxRecDepth 100000 in
theorem large_any (neg : Bool) (A : Option Addr) (n c : Nat) (w : World) : Calls Tryd.prog 20 #[.agg #[.bool neg, .slice A n c]] w fun e w' => e = .returned (.bool (decide (600 < (n : Int)))) ∧ Below w.heap.size w w' := by
  go_enter Tryd.func20, Tryd.ntmps20
  go_wp2
  go_ret
  exact ⟨rfl, below_alloc (Below.refl _ _) _⟩

set_option maxRecDepth 100000 in
set_option maxHeartbeats 1000000 in
/-- The law WholeRests. -/
theorem rests_law (neg : Bool) (A : Option Addr) (n c : Nat) (xs : List Int) (m : Int) (w : World) (hw : Dv.Wd xs) (hr : ReadsInt w .u32 A n xs) (hc : n ≤ c) :
    Calls Tryd.prog 8 #[.agg #[.bool neg, .slice A n c], .int .i64 m] w fun e w' => e = .returned (.bool true) ∧ Below w.heap.size w w' := by
  obtain ⟨W0, hW0⟩ : ∃ W0, W0 = w.alloc (.cells #[.bool neg, .slice A n c] 24) := ⟨_, rfl⟩
  have hb0 : Below w.heap.size w W0 := by rw [hW0]; exact below_alloc (Below.refl _ _) _
  have hk0 : W0.heap[w.heap.size]? = some (.cells #[.bool neg, .slice A n c] 24 (0, 0)) := by rw [hW0]; exact blk_new _ _
  have a0 := blk_cell hk0 0; have a1 := blk_cell hk0 1
  have HW0 := Lib.hid hW0; have HB0 := Lib.hid hb0; have HK0 := Lib.hid hk0
  clear hW0 hb0 hk0
  by_cases hl : (600 : Int) < (n : Int)
  · have q : decide ((600 : Int) < (n : Int)) = true := by simpa using hl
    clear hr hw
    go_enter Tryd.func8, Tryd.ntmps8
    go_upto_region 1 with (fail)
    rw [← HW0.out]
    go_wp2_with (first | (go_at_call 20; refine (large_any neg A n c W0).mono ?_; rintro e W1 ⟨rfl, hb1⟩; have HB1 := Lib.hid (below_then HB0.out HB0.out.size hb1); clear hb1) | (go_at_call 12; refine (awake_any _).mono ?_; rintro e Wz ⟨rfl, hbz⟩; have HZ := Lib.hid hbz; clear hbz))
    go_ret
    exact ⟨rfl, below_then HB1.out HB1.out.size HZ.out⟩
  · have q : decide ((600 : Int) < (n : Int)) = false := by simpa using hl
    obtain ⟨r, er, hR, hF⟩ : ∃ r er : Int, (∀ W, Below w.heap.size w W → Calls Tryd.prog 39 #[.agg #[.bool neg, .slice A n c], .int .i64 m] W fun e w' => e = .returned (.tuple #[.int .i64 r, .int .i64 er]) ∧ Below W.heap.size W w') ∧ (∀ W, Below w.heap.size w W → Calls Tryd.prog 40 #[.agg #[.bool neg, .slice A n c], .int .i64 m] W fun e w' => e = .returned (.tuple #[.int .i64 r, .int .i64 er]) ∧ Below W.heap.size W w') := by
      by_cases hm : m < 1 ∨ 4611686018427387904 < m
      · exact ⟨0, 1, fun W _ => Rest_bad neg A n c m W hm, fun W _ => refRest_bad neg A n c m W hm⟩
      · exact ⟨vI neg xs % m, 0, fun W h => Rest_any neg A n c xs m W hw (hr.below h) hc (by omega) (by omega) (by omega), fun W h => refRest_all neg A n c xs m W hw (hr.below h) (by omega) (by omega) (by omega)⟩
    have HR := Lib.hid hR; have HF := Lib.hid hF
    clear hR hF hr hw
    go_enter Tryd.func8, Tryd.ntmps8
    go_upto_region 1 with (fail)
    rw [← HW0.out]
    go_wp2_with (first | (go_at_call 20; refine (large_any neg A n c W0).mono ?_; rintro e W1 ⟨rfl, hb1⟩; have HB1 := Lib.hid (below_then HB0.out HB0.out.size hb1); have HK1 := Lib.hid (blk_below HK0.out hb1); have b0 := blk_cell HK1.out 0; have b1 := blk_cell HK1.out 1; clear hb1) | (go_at_call 12; refine (awake_any _).mono ?_; rintro e Wz ⟨rfl, hbz⟩; have HZ := Lib.hid hbz; clear hbz) | (go_at_call 39; refine (HR.out _ HB1.out).mono ?_; rintro e W2 ⟨rfl, hb2⟩; have HB2 := Lib.hid (below_then HB1.out HB1.out.size hb2); have HK2 := Lib.hid (blk_below HK1.out hb2); have c0 := blk_cell HK2.out 0; have c1 := blk_cell HK2.out 1; clear hb2) | (go_at_call 40; refine (HF.out _ HB2.out).mono ?_; rintro e W3 ⟨rfl, hb3⟩; have HB3 := Lib.hid (below_then HB2.out HB2.out.size hb3); clear hb3))
    go_ret
    exact ⟨rfl, below_then HB3.out HB3.out.size HZ.out⟩
end Go.Proofs.YtiofeehcnegejaaDoor
