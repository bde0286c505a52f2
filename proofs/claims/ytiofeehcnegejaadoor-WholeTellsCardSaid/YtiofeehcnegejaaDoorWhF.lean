/- Words: Add32, the sum of sizes. (Written by wip/tools/gen_whadd.py.) -/
import Derived.Test.YtiofeehcnegejaaDoorWhE
namespace Go.Proofs.YtiofeehcnegejaaDoor
open Go.RowKit Go.Proofs.YtiofeehcnegejaaDoorW.PrintWords
set_option linter.unusedVariables false
set_option linter.unusedSimpArgs false

set_option maxRecDepth 100000 in
theorem add32_any (x y c : Int) (w : World) (x0 : 0 ≤ x) (x1 : x < 4294967296) (y0 : 0 ≤ y) (y1 : y < 4294967296) (c0 : 0 ≤ c) (c1 : c ≤ 1) :
    Calls Tryd.prog 78 #[.int .u32 x, .int .u32 y, .int .u32 c] w fun e w' => e = .returned (.tuple #[.int .u32 ((x + y + c) % 4294967296), .int .u32 ((x + y + c) / 4294967296)]) ∧ w = w' := by
  have h1 : IntKind.u32.wrap (x + y + c) = (x + y + c) % 4294967296 := by rw [IntKind.wrap_u32]
  have h2 : IntKind.u32.wrap ((x + y + c) / 4294967296) = (x + y + c) / 4294967296 := by rw [IntKind.wrap_u32]; omega
  go_enter Tryd.func78, Tryd.ntmps78
  go_wp2
  go_ret2
  exact ⟨rfl, rfl⟩

theorem valW_step (xs : List Int) (i : Nat) (h : i < xs.length) : Dv.valW (xs.take (i + 1)) = Dv.valW (xs.take i) + 2 ^ (32 * i) * rd xs (i : Int) := by
  rw [take_succ_rd xs i h, Dv.valW_snoc, List.length_take, Nat.min_eq_left (by omega)]
/-- The word at i, or 0. -/
def wordAt (xs : List Int) (i : Nat) : Int := if i < xs.length then rd xs (i : Int) else 0
theorem valW_word (xs : List Int) (i : Nat) : Dv.valW (xs.take (i + 1)) = Dv.valW (xs.take i) + 2 ^ (32 * i) * wordAt xs i := by
  unfold wordAt
  by_cases h : i < xs.length
  · rw [if_pos h]; exact valW_step xs i h
  · rw [if_neg h, List.take_of_length_le (by omega), List.take_of_length_le (by omega)]; omega
theorem valW_put (zs : List Int) (i : Nat) (d : Int) (h : i < zs.length) : Dv.valW ((zs.set i d).take (i + 1)) = Dv.valW (zs.take i) + 2 ^ (32 * i) * d := by
  rw [valW_step _ i (by rw [List.length_set]; exact h), List.take_set_of_le (by omega)]
  have : rd (zs.set i d) (i : Int) = d := by simp [rd, List.getD_eq_getElem?_getD, h]
  rw [this]
theorem Wd_set {zs : List Int} (h : Dv.Wd zs) (i : Nat) {d : Int} (d0 : 0 ≤ d) (d1 : d < 4294967296) : Dv.Wd (zs.set i d) := fun x hx => by
  rcases List.mem_or_eq_of_mem_set hx with h1 | rfl
  · exact h x h1
  · exact ⟨d0, d1⟩
/-- At the sum's loop's head. -/
structure SumAt (L S zs : List Int) (i : Nat) (k : Int) : Prop where
  len : zs.length = L.length + 1
  wd : Dv.Wd zs
  k0 : 0 ≤ k
  k1 : k ≤ 1
  eq : Dv.valW (zs.take i) + 2 ^ (32 * i) * k = Dv.valW (L.take i) + Dv.valW (S.take i)
theorem SumAt.step {L S zs : List Int} {i : Nat} {k : Int} (h : SumAt L S zs i k) (hL : Dv.Wd L) (hS : Dv.Wd S) (hi : i < L.length) :
    SumAt L S (zs.set i ((rd L (i : Int) + wordAt S i + k) % 4294967296)) (i + 1) ((rd L (i : Int) + wordAt S i + k) / 4294967296) := by
  have hx := hL.get (i : Int)
  have hy : 0 ≤ wordAt S i ∧ wordAt S i < 4294967296 := by unfold wordAt; split; exact hS.get _; omega
  have h0 := h.k0
  have h1 := h.k1
  refine ⟨by rw [List.length_set]; exact h.len, Wd_set h.wd i (by omega) (by omega), by omega, by omega, ?_⟩
  rw [valW_put zs i _ (by rw [h.len]; omega), valW_step L i hi, valW_word S i, show 32 * (i + 1) = 32 * i + 32 by omega, Int.pow_add]
  have e := h.eq
  have e2 : (2 : Int) ^ 32 = 4294967296 := by decide
  rw [e2]
  obtain ⟨p, hp⟩ : ∃ p : Int, p = 2 ^ (32 * i) := ⟨_, rfl⟩
  rw [← hp] at e ⊢
  obtain ⟨x, hxx⟩ : ∃ x, x = rd L (i : Int) := ⟨_, rfl⟩
  obtain ⟨y, hyy⟩ : ∃ y, y = wordAt S i := ⟨_, rfl⟩
  rw [← hxx, ← hyy]
  have ht : (x + y + k) % 4294967296 + 4294967296 * ((x + y + k) / 4294967296) = x + y + k := Int.emod_add_mul_ediv _ _
  have h5 : p * ((x + y + k) % 4294967296) + p * 4294967296 * ((x + y + k) / 4294967296) = p * (x + y + k) := by rw [Int.mul_assoc, ← Int.mul_add, ht]
  have h6 : p * (x + y + k) = p * x + p * y + p * k := by rw [Int.mul_add, Int.mul_add]
  omega
theorem SumAt.last {L S zs : List Int} {k : Int} (h : SumAt L S zs L.length k) (hs : S.length ≤ L.length) : (zs.set L.length k).length = L.length + 1 ∧ Dv.Wd (zs.set L.length k) ∧ Dv.valW (zs.set L.length k) = Dv.valW L + Dv.valW S := by
  have h0 := h.k0
  have h1 := h.k1
  have hl : (zs.set L.length k).length = L.length + 1 := by rw [List.length_set]; exact h.len
  refine ⟨hl, Wd_set h.wd _ (by omega) (by omega), ?_⟩
  have e := valW_put zs L.length k (by rw [h.len]; omega)
  rw [List.take_of_length_le (by omega), h.eq, List.take_of_length_le (Nat.le_refl _), List.take_of_length_le hs] at e
  exact e
theorem SumAt.start (L S : List Int) : SumAt L S (List.replicate (L.length + 1) 0) 0 0 :=
  ⟨by simp, fun x hx => by rw [List.eq_of_mem_replicate hx]; omega, by omega, by omega, by simp [Dv.valW]⟩

/-- A sum of sizes: a row of the call's own. -/
def AddPost (w : World) (xs ys : List Int) (e : Ending) (w' : World) : Prop :=
  ∃ A' c' zs, e = .returned (.slice A' zs.length c') ∧ zs.length ≤ c' ∧ w'.ownsRow w.heap.size 62 1 (.slice A' zs.length c') zs.length (nums .u32 zs) ∧ Below w.heap.size w w' ∧ zs.length ≤ xs.length + ys.length + 1 ∧ Dv.Wd zs ∧ Dv.valW zs = Dv.valW xs + Dv.valW ys

set_option maxRecDepth 100000 in
set_option maxHeartbeats 1600000 in
theorem add_any (A B : Option Addr) (c c' : Nat) (xs ys : List Int) (w : World) (hx : Dv.Wd xs) (hy : Dv.Wd ys) (hr : ReadsInt w .u32 A xs.length xs) (hr' : ReadsInt w .u32 B ys.length ys) (hc : xs.length ≤ c) (hc' : ys.length ≤ c') (hn : xs.length ≤ 100000) (hn' : ys.length ≤ 100000) :
    Calls Tryd.prog 62 #[.slice A xs.length c, .slice B ys.length c'] w fun e w' => AddPost w xs ys e w' := by
  have Hr := Lib.hid hr; have Hr' := Lib.hid hr'; have Hx := Lib.hid hx; have Hy := Lib.hid hy
  clear hr hr' hx hy
  by_cases hlt : xs.length < ys.length
  · have p0 : (xs.length : Int) < (ys.length : Int) := by omega
    go_enter Tryd.func62, Tryd.ntmps62
    go_upto_region 3 with (fail)
    obtain ⟨ll, hll⟩ : ∃ ll, ll = ys.length := ⟨_, rfl⟩
    obtain ⟨sl, hsl⟩ : ∃ sl, sl = xs.length := ⟨_, rfl⟩
    have hle : sl ≤ ll := by omega
    have hl1 : ll ≤ 100000 := by omega
    have hmake := print_make_of (P := Tryd.prog) 22 62 (.int .u32 0) 4 Tryd.underlying22 info62 rfl (by decide) (ll + 1) (by omega)
    have hcast : ((ll + 1 : Nat) : Int) = (ll : Int) + 1 := by omega
    rw [hcast] at hmake
    rw [← hll, ← hsl]
    have hown0 := own_made w w.heap.size 62 .u32 (ll + 1) (Nat.le_refl _) (by omega)
    have Hll := Lib.hid hll; have Hsl := Lib.hid hsl; have Hown0 := Lib.hid hown0
    clear hll hsl hown0 hlt hcast p0
    have hS0 : SumAt ys xs (List.replicate (ll + 1) 0) 0 0 := by rw [Hll.out]; exact SumAt.start _ _
    have HS0 := Lib.hid hS0
    have hba : Below w.heap.size w (w.alloc (.cells (madeCells #[.int .u32 0] (ll + 1)) 62)) := below_alloc (Below.refl _ _) _
    have HBa := Lib.hid hba
    clear hS0 hba
    go_wp2
    clear hmake
    obtain ⟨g, hg⟩ : ∃ g, g = w.heap.size := ⟨_, rfl⟩
    rw [← hg]
    have hown0 := Hown0.out
    rw [← hg] at hown0
    have Hown0 := Lib.hid hown0; have Hg := Lib.hid hg
    clear hown0 hg
    go_loopw [6, 23] (fun kv iv wr => ∃ (i : Nat) (k : Int) (zs : List Int), i ≤ ll ∧ kv = .int .u32 k ∧ iv = .int .i64 i ∧ Hid (wr.ownsRow g 62 1 (.slice (some ⟨g, 0, none⟩) (ll + 1) (ll + 1)) (ll + 1) (nums .u32 zs)) ∧ Hid (Below w.heap.size w wr) ∧ Hid (SumAt ys xs zs i k)) (fun _ iv _ => ll - (intOf iv).toNat)
    case atStart => exact ⟨0, 0, _, Nat.zero_le _, rfl, rfl, Hown0, HBa, HS0⟩
    case round =>
      obtain ⟨i, k, zs, hi, rfl, rfl, HO, HB, HS⟩ := hrel
      clear Hown0 HBa HS0
      by_cases hil : i < ll
      · obtain ⟨ad, hae, hcx⟩ := (Hr'.out.below HB.out).at_ (i : Int) (by omega) (by have := Hll.out; omega)
        subst hae
        rw [Int.toNat_natCast] at hcx
        have hst := HS.out.step Hy.out Hx.out (by rw [← Hll.out]; exact hil)
        have hxb := Hy.out.get (i : Int)
        have k0 := HS.out.k0
        have k1 := HS.out.k1
        obtain ⟨hoc, hof⟩ := own_at HO.out (i : Int) (by omega) (by omega)
        rw [Int.toNat_natCast] at hoc hof
        have hput := fun d : Int => own_store HO.out (i : Int) d
        simp only [Int.toNat_natCast] at hput
        obtain ⟨x, hxx⟩ : ∃ x, x = rd ys (i : Int) := ⟨_, rfl⟩
        rw [← hxx] at hcx hst hxb
        have p0 : (0 : Int) ≤ (i : Int) := by omega
        have p1 : (i : Int) < (ll : Int) := by omega
        have p2 : (i : Int) < (ll : Int) + 1 := by omega
        obtain ⟨d, hd⟩ : ∃ d, d = (x + wordAt xs i + k) % 4294967296 := ⟨_, rfl⟩
        obtain ⟨k', hk'⟩ : ∃ k', k' = (x + wordAt xs i + k) / 4294967296 := ⟨_, rfl⟩
        rw [← hd, ← hk'] at hst
        have Hst := Lib.hid hst; have Hput := Lib.hid hput
        clear hxx hst hput
        by_cases his : i < sl
        · have hwd : wordAt xs i = rd xs (i : Int) := by unfold wordAt; rw [if_pos (by rw [← Hsl.out]; exact his)]
          obtain ⟨bd, hbe, hcy⟩ := (Hr.out.below HB.out).at_ (i : Int) (by omega) (by have := Hsl.out; omega)
          subst hbe
          rw [Int.toNat_natCast] at hcy
          have hyb := Hx.out.get (i : Int)
          rw [hwd] at hd hk'
          have hadd := fun W : World => add32_any x (rd xs (i : Int)) k W hxb.1 hxb.2 hyb.1 hyb.2 k0 k1
          rw [← hd, ← hk'] at hadd
          have Hadd := Lib.hid hadd
          have p3 : (i : Int) < (sl : Int) := by omega
          clear hd hk' hwd hadd hxb hyb k0 k1
          generalize rd xs (i : Int) = y at *
          go_wp2_with (go_at_call 78; refine (Hadd.out _).mono ?_; rintro e w5 ⟨rfl, rfl⟩)
          go_roundw
          case rel => exact ⟨i + 1, k', zs.set i d, by omega, rfl, by go_num, Lib.hid (Hput.out d).1, Lib.hid (HB.out.setCell (p := ⟨g, i, none⟩) (by rw [Hg.out]; exact Nat.le_refl _) _), Hst⟩
          case measure => simp [intOf]; omega
        · have hwd : wordAt xs i = 0 := by unfold wordAt; rw [if_neg (by rw [← Hsl.out]; exact his)]
          rw [hwd] at hd hk'
          have hadd := fun W : World => add32_any x 0 k W hxb.1 hxb.2 (by omega) (by omega) k0 k1
          rw [← hd, ← hk'] at hadd
          have Hadd := Lib.hid hadd
          have p3 : ¬ (i : Int) < (sl : Int) := by omega
          clear hd hk' hwd hadd hxb k0 k1
          go_wp2_with (go_at_call 78; refine (Hadd.out _).mono ?_; rintro e w5 ⟨rfl, rfl⟩)
          go_roundw
          case rel => exact ⟨i + 1, k', zs.set i d, by omega, rfl, by go_num, Lib.hid (Hput.out d).1, Lib.hid (HB.out.setCell (p := ⟨g, i, none⟩) (by rw [Hg.out]; exact Nat.le_refl _) _), Hst⟩
          case measure => simp [intOf]; omega
      · have hil2 : i = ll := by omega
        subst hil2
        have hlast : (zs.set i k).length = i + 1 ∧ Dv.Wd (zs.set i k) ∧ Dv.valW (zs.set i k) = Dv.valW ys + Dv.valW xs := by
          have h := HS.out
          have e := Hll.out
          rw [e] at h ⊢
          exact h.last (by rw [← e, ← Hsl.out]; exact hle)
        obtain ⟨hoc, hof⟩ := own_at HO.out (i : Int) (by omega) (by omega)
        rw [Int.toNat_natCast] at hoc hof
        have hput := own_store HO.out (i : Int) k
        simp only [Int.toNat_natCast] at hput
        have p1 : ¬ (i : Int) < (i : Int) := by omega
        have p2 : (i : Int) < (i : Int) + 1 := by omega
        have p0 : (0 : Int) ≤ (i : Int) := by omega
        have Hput := Lib.hid hput.1; have Hlast := Lib.hid hlast
        clear hput hlast hil
        go_wp2
        go_ret
        obtain ⟨h1, h2, h3⟩ := Hlast.out
        refine ⟨some ⟨g, 0, none⟩, i + 1, zs.set i k, by rw [h1]; rfl, by omega, by rw [h1, ← Hg.out]; exact Hput.out, HB.out.setCell (p := ⟨g, i, none⟩) (by rw [Hg.out]; exact Nat.le_refl _) _, by have := Hll.out; have := Hsl.out; omega, h2, by omega⟩
  · have p0 : ¬ (xs.length : Int) < (ys.length : Int) := by omega
    go_enter Tryd.func62, Tryd.ntmps62
    go_upto_region 3 with (fail)
    obtain ⟨ll, hll⟩ : ∃ ll, ll = xs.length := ⟨_, rfl⟩
    obtain ⟨sl, hsl⟩ : ∃ sl, sl = ys.length := ⟨_, rfl⟩
    have hle : sl ≤ ll := by omega
    have hl1 : ll ≤ 100000 := by omega
    have hmake := print_make_of (P := Tryd.prog) 22 62 (.int .u32 0) 4 Tryd.underlying22 info62 rfl (by decide) (ll + 1) (by omega)
    have hcast : ((ll + 1 : Nat) : Int) = (ll : Int) + 1 := by omega
    rw [hcast] at hmake
    rw [← hll, ← hsl]
    have hown0 := own_made w w.heap.size 62 .u32 (ll + 1) (Nat.le_refl _) (by omega)
    have Hll := Lib.hid hll; have Hsl := Lib.hid hsl; have Hown0 := Lib.hid hown0
    clear hll hsl hown0 hlt hcast p0
    have hS0 : SumAt xs ys (List.replicate (ll + 1) 0) 0 0 := by rw [Hll.out]; exact SumAt.start _ _
    have HS0 := Lib.hid hS0
    have hba : Below w.heap.size w (w.alloc (.cells (madeCells #[.int .u32 0] (ll + 1)) 62)) := below_alloc (Below.refl _ _) _
    have HBa := Lib.hid hba
    clear hS0 hba
    go_wp2
    clear hmake
    obtain ⟨g, hg⟩ : ∃ g, g = w.heap.size := ⟨_, rfl⟩
    rw [← hg]
    have hown0 := Hown0.out
    rw [← hg] at hown0
    have Hown0 := Lib.hid hown0; have Hg := Lib.hid hg
    clear hown0 hg
    go_loopw [6, 23] (fun kv iv wr => ∃ (i : Nat) (k : Int) (zs : List Int), i ≤ ll ∧ kv = .int .u32 k ∧ iv = .int .i64 i ∧ Hid (wr.ownsRow g 62 1 (.slice (some ⟨g, 0, none⟩) (ll + 1) (ll + 1)) (ll + 1) (nums .u32 zs)) ∧ Hid (Below w.heap.size w wr) ∧ Hid (SumAt xs ys zs i k)) (fun _ iv _ => ll - (intOf iv).toNat)
    case atStart => exact ⟨0, 0, _, Nat.zero_le _, rfl, rfl, Hown0, HBa, HS0⟩
    case round =>
      obtain ⟨i, k, zs, hi, rfl, rfl, HO, HB, HS⟩ := hrel
      clear Hown0 HBa HS0
      by_cases hil : i < ll
      · obtain ⟨ad, hae, hcx⟩ := (Hr.out.below HB.out).at_ (i : Int) (by omega) (by have := Hll.out; omega)
        subst hae
        rw [Int.toNat_natCast] at hcx
        have hst := HS.out.step Hx.out Hy.out (by rw [← Hll.out]; exact hil)
        have hxb := Hx.out.get (i : Int)
        have k0 := HS.out.k0
        have k1 := HS.out.k1
        obtain ⟨hoc, hof⟩ := own_at HO.out (i : Int) (by omega) (by omega)
        rw [Int.toNat_natCast] at hoc hof
        have hput := fun d : Int => own_store HO.out (i : Int) d
        simp only [Int.toNat_natCast] at hput
        obtain ⟨x, hxx⟩ : ∃ x, x = rd xs (i : Int) := ⟨_, rfl⟩
        rw [← hxx] at hcx hst hxb
        have p0 : (0 : Int) ≤ (i : Int) := by omega
        have p1 : (i : Int) < (ll : Int) := by omega
        have p2 : (i : Int) < (ll : Int) + 1 := by omega
        obtain ⟨d, hd⟩ : ∃ d, d = (x + wordAt ys i + k) % 4294967296 := ⟨_, rfl⟩
        obtain ⟨k', hk'⟩ : ∃ k', k' = (x + wordAt ys i + k) / 4294967296 := ⟨_, rfl⟩
        rw [← hd, ← hk'] at hst
        have Hst := Lib.hid hst; have Hput := Lib.hid hput
        clear hxx hst hput
        by_cases his : i < sl
        · have hwd : wordAt ys i = rd ys (i : Int) := by unfold wordAt; rw [if_pos (by rw [← Hsl.out]; exact his)]
          obtain ⟨bd, hbe, hcy⟩ := (Hr'.out.below HB.out).at_ (i : Int) (by omega) (by have := Hsl.out; omega)
          subst hbe
          rw [Int.toNat_natCast] at hcy
          have hyb := Hy.out.get (i : Int)
          rw [hwd] at hd hk'
          have hadd := fun W : World => add32_any x (rd ys (i : Int)) k W hxb.1 hxb.2 hyb.1 hyb.2 k0 k1
          rw [← hd, ← hk'] at hadd
          have Hadd := Lib.hid hadd
          have p3 : (i : Int) < (sl : Int) := by omega
          clear hd hk' hwd hadd hxb hyb k0 k1
          generalize rd ys (i : Int) = y at *
          go_wp2_with (go_at_call 78; refine (Hadd.out _).mono ?_; rintro e w5 ⟨rfl, rfl⟩)
          go_roundw
          case rel => exact ⟨i + 1, k', zs.set i d, by omega, rfl, by go_num, Lib.hid (Hput.out d).1, Lib.hid (HB.out.setCell (p := ⟨g, i, none⟩) (by rw [Hg.out]; exact Nat.le_refl _) _), Hst⟩
          case measure => simp [intOf]; omega
        · have hwd : wordAt ys i = 0 := by unfold wordAt; rw [if_neg (by rw [← Hsl.out]; exact his)]
          rw [hwd] at hd hk'
          have hadd := fun W : World => add32_any x 0 k W hxb.1 hxb.2 (by omega) (by omega) k0 k1
          rw [← hd, ← hk'] at hadd
          have Hadd := Lib.hid hadd
          have p3 : ¬ (i : Int) < (sl : Int) := by omega
          clear hd hk' hwd hadd hxb k0 k1
          go_wp2_with (go_at_call 78; refine (Hadd.out _).mono ?_; rintro e w5 ⟨rfl, rfl⟩)
          go_roundw
          case rel => exact ⟨i + 1, k', zs.set i d, by omega, rfl, by go_num, Lib.hid (Hput.out d).1, Lib.hid (HB.out.setCell (p := ⟨g, i, none⟩) (by rw [Hg.out]; exact Nat.le_refl _) _), Hst⟩
          case measure => simp [intOf]; omega
      · have hil2 : i = ll := by omega
        subst hil2
        have hlast : (zs.set i k).length = i + 1 ∧ Dv.Wd (zs.set i k) ∧ Dv.valW (zs.set i k) = Dv.valW xs + Dv.valW ys := by
          have h := HS.out
          have e := Hll.out
          rw [e] at h ⊢
          exact h.last (by rw [← e, ← Hsl.out]; exact hle)
        obtain ⟨hoc, hof⟩ := own_at HO.out (i : Int) (by omega) (by omega)
        rw [Int.toNat_natCast] at hoc hof
        have hput := own_store HO.out (i : Int) k
        simp only [Int.toNat_natCast] at hput
        have p1 : ¬ (i : Int) < (i : Int) := by omega
        have p2 : (i : Int) < (i : Int) + 1 := by omega
        have p0 : (0 : Int) ≤ (i : Int) := by omega
        have Hput := Lib.hid hput.1; have Hlast := Lib.hid hlast
        clear hput hlast hil
        go_wp2
        go_ret
        obtain ⟨h1, h2, h3⟩ := Hlast.out
        refine ⟨some ⟨g, 0, none⟩, i + 1, zs.set i k, by rw [h1]; rfl, by omega, by rw [h1, ← Hg.out]; exact Hput.out, HB.out.setCell (p := ⟨g, i, none⟩) (by rw [Hg.out]; exact Nat.le_refl _) _, by have := Hll.out; have := Hsl.out; omega, h2, by omega⟩
end Go.Proofs.YtiofeehcnegejaaDoor
