/- Words: the difference of sizes. -/
import Derived.Test.YtiofeehcnegejaaDoorWhG
namespace Go.Proofs.YtiofeehcnegejaaDoor
open Go.RowKit Go.Proofs.YtiofeehcnegejaaDoorW.PrintWords
set_option linter.unusedVariables false
set_option linter.unusedSimpArgs false

/-- At the difference's loop's head. -/
structure SubAt (L S zs : List Int) (i : Nat) (k : Int) : Prop where
  len : zs.length = L.length
  wd : Dv.Wd zs
  k0 : 0 ≤ k
  k1 : k ≤ 1
  eq : Dv.valW (zs.take i) + Dv.valW (S.take i) = Dv.valW (L.take i) + 2 ^ (32 * i) * k
theorem SubAt.step {L S zs : List Int} {i : Nat} {k : Int} (h : SubAt L S zs i k) (hL : Dv.Wd L) (hS : Dv.Wd S) (hi : i < L.length) :
    SubAt L S (zs.set i ((rd L (i : Int) - wordAt S i - k) % 4294967296)) (i + 1) (if rd L (i : Int) < wordAt S i + k then 1 else 0) := by
  have hx := hL.get (i : Int)
  have hy : 0 ≤ wordAt S i ∧ wordAt S i < 4294967296 := by unfold wordAt; split; exact hS.get _; omega
  have h0 := h.k0
  have h1 := h.k1
  refine ⟨by rw [List.length_set]; exact h.len, Wd_set h.wd i (by omega) (by omega), by split <;> omega, by split <;> omega, ?_⟩
  rw [valW_put zs i _ (by rw [h.len]; omega), valW_step L i hi, valW_word S i, show 32 * (i + 1) = 32 * i + 32 by omega, Int.pow_add]
  have e := h.eq
  have e2 : (2 : Int) ^ 32 = 4294967296 := by decide
  rw [e2]
  obtain ⟨p, hp⟩ : ∃ p : Int, p = 2 ^ (32 * i) := ⟨_, rfl⟩
  rw [← hp] at e ⊢
  obtain ⟨x, hxx⟩ : ∃ x, x = rd L (i : Int) := ⟨_, rfl⟩
  obtain ⟨y, hyy⟩ : ∃ y, y = wordAt S i := ⟨_, rfl⟩
  rw [← hxx] at hx ⊢
  rw [← hyy] at hy ⊢
  obtain ⟨q, hq⟩ : ∃ q : Int, q = if x < y + k then 1 else 0 := ⟨_, rfl⟩
  obtain ⟨d, hd⟩ : ∃ d : Int, d = (x - y - k) % 4294967296 := ⟨_, rfl⟩
  rw [← hq, ← hd]
  have ht : d + y + k = x + 4294967296 * q := by rw [hq, hd]; split <;> omega
  have h5 : p * (d + y + k) = p * (x + 4294967296 * q) := by rw [ht]
  rw [Int.mul_add, Int.mul_add, Int.mul_add, ← Int.mul_assoc] at h5
  omega
theorem SubAt.last {L S zs : List Int} {k : Int} (h : SubAt L S zs L.length k) (hs : S.length ≤ L.length) (hv : Dv.valW S ≤ Dv.valW L) : Dv.valW zs = Dv.valW L - Dv.valW S := by
  have e := h.eq
  have hl := h.len
  rw [List.take_of_length_le (by omega), List.take_of_length_le (Nat.le_refl _), List.take_of_length_le hs] at e
  have hz := Dv.valW_lt h.wd
  rw [hl] at hz
  have h0 := h.k0
  have h1 := h.k1
  rcases (by omega : k = 0 ∨ k = 1) with rfl | rfl
  · omega
  · omega
theorem SubAt.start (L S : List Int) : SubAt L S (List.replicate L.length 0) 0 0 :=
  ⟨by simp, fun x hx => by rw [List.eq_of_mem_replicate hx]; omega, by omega, by omega, by simp [Dv.valW]⟩

/-- A difference of sizes: a row of the call's own. -/
def SubPost (w : World) (xs ys : List Int) (e : Ending) (w' : World) : Prop :=
  ∃ A' c' zs, e = .returned (.slice A' zs.length c') ∧ zs.length ≤ c' ∧ w'.ownsRow w.heap.size 62 1 (.slice A' zs.length c') zs.length (nums .u32 zs) ∧ Below w.heap.size w w' ∧ zs.length = xs.length ∧ Dv.Wd zs ∧ Dv.valW zs = Dv.valW xs - Dv.valW ys

set_option maxRecDepth 100000 in
set_option maxHeartbeats 1600000 in
theorem sub_any (A B : Option Addr) (c c' : Nat) (xs ys : List Int) (w : World) (hx : Dv.Wd xs) (hy : Dv.Wd ys) (hr : ReadsInt w .u32 A xs.length xs) (hr' : ReadsInt w .u32 B ys.length ys) (hc : xs.length ≤ c) (hc' : ys.length ≤ c') (hn : xs.length ≤ 100000) (hle : ys.length ≤ xs.length) (hv : Dv.valW ys ≤ Dv.valW xs) :
    Calls Tryd.prog 63 #[.slice A xs.length c, .slice B ys.length c'] w fun e w' => SubPost w xs ys e w' := by
  have Hr := Lib.hid hr; have Hr' := Lib.hid hr'; have Hx := Lib.hid hx; have Hy := Lib.hid hy; have Hv := Lib.hid hv
  clear hr hr' hx hy hv
  obtain ⟨ll, hll⟩ : ∃ ll, ll = xs.length := ⟨_, rfl⟩
  obtain ⟨sl, hsl⟩ : ∃ sl, sl = ys.length := ⟨_, rfl⟩
  rw [← hll, ← hsl] at hle
  rw [← hll] at hn
  have hmake := print_make_of (P := Tryd.prog) 22 62 (.int .u32 0) 4 Tryd.underlying22 info62 rfl (by decide) ll (by omega)
  rw [← hll, ← hsl]
  have hown0 := own_made w w.heap.size 62 .u32 ll (Nat.le_refl _) (by omega)
  have Hll := Lib.hid hll; have Hsl := Lib.hid hsl; have Hown0 := Lib.hid hown0
  clear hll hsl hown0
  have hS0 : SubAt xs ys (List.replicate ll 0) 0 0 := by rw [Hll.out]; exact SubAt.start _ _
  have HS0 := Lib.hid hS0
  have hba : Below w.heap.size w (w.alloc (.cells (madeCells #[.int .u32 0] ll) 62)) := below_alloc (Below.refl _ _) _
  have HBa := Lib.hid hba
  clear hS0 hba
  go_enter Tryd.func63, Tryd.ntmps63
  go_wp2
  clear hmake
  obtain ⟨g, hg⟩ : ∃ g, g = w.heap.size := ⟨_, rfl⟩
  rw [← hg]
  have hown0 := Hown0.out
  rw [← hg] at hown0
  have Hown0 := Lib.hid hown0; have Hg := Lib.hid hg
  clear hown0 hg
  go_loopw [6, 15] (fun kv iv wr => ∃ (i : Nat) (k : Int) (zs : List Int), i ≤ ll ∧ kv = .int .u32 k ∧ iv = .int .i64 i ∧ Hid (wr.ownsRow g 62 1 (.slice (some ⟨g, 0, none⟩) ll ll) ll (nums .u32 zs)) ∧ Hid (Below w.heap.size w wr) ∧ Hid (SubAt xs ys zs i k)) (fun _ iv _ => ll - (intOf iv).toNat)
  case atStart => exact ⟨0, 0, _, Nat.zero_le _, rfl, rfl, Hown0, HBa, HS0⟩
  case round =>
    obtain ⟨i, k, zs, hi, rfl, rfl, HO, HB, HS⟩ := hrel
    clear Hown0 HBa HS0
    by_cases hil : i < ll
    · obtain ⟨ad, hae, hcx⟩ := (Hr.out.below HB.out).at_ (i : Int) (by omega) (by have := Hll.out; omega)
      subst hae
      rw [Int.toNat_natCast] at hcx
      have hst := HS.out.step Hx.out Hy.out (by rw [← Hll.out]; exact hil)
      have hxb := Hx.out.get (i : Int)
      have k0 := HS.out.k0
      have k1 := HS.out.k1
      obtain ⟨hoc, hof⟩ := own_at HO.out (i : Int) (by omega) (by omega)
      rw [Int.toNat_natCast] at hoc hof
      have hput := fun d : Int => own_store HO.out (i : Int) d
      simp only [Int.toNat_natCast] at hput
      obtain ⟨x, hxx⟩ : ∃ x, x = rd xs (i : Int) := ⟨_, rfl⟩
      rw [← hxx] at hcx hst hxb
      have p0 : (0 : Int) ≤ (i : Int) := by omega
      have p1 : (i : Int) < (ll : Int) := by omega
      obtain ⟨d, hd⟩ : ∃ d, d = (x - wordAt ys i - k) % 4294967296 := ⟨_, rfl⟩
      obtain ⟨k', hk'⟩ : ∃ k' : Int, k' = if x < wordAt ys i + k then 1 else 0 := ⟨_, rfl⟩
      rw [← hd, ← hk'] at hst
      have Hst := Lib.hid hst; have Hput := Lib.hid hput
      clear hxx hst hput
      by_cases his : i < sl
      · have hwd : wordAt ys i = rd ys (i : Int) := by unfold wordAt; rw [if_pos (by rw [← Hsl.out]; exact his)]
        obtain ⟨bd, hbe, hcy⟩ := (Hr'.out.below HB.out).at_ (i : Int) (by omega) (by have := Hsl.out; omega)
        subst hbe
        rw [Int.toNat_natCast] at hcy
        have hyb := Hy.out.get (i : Int)
        rw [hwd] at hd hk'
        have hadd := fun W : World => sub32_any x (rd ys (i : Int)) k W hxb.1 hxb.2 hyb.1 hyb.2 k0 k1
        rw [← hd, ← hk'] at hadd
        have Hadd := Lib.hid hadd
        have p3 : (i : Int) < (sl : Int) := by omega
        clear hd hk' hwd hadd hxb hyb k0 k1
        generalize rd ys (i : Int) = y at *
        go_wp2_with (go_at_call 79; refine (Hadd.out _).mono ?_; rintro e w5 ⟨rfl, rfl⟩)
        go_roundw
        case rel => exact ⟨i + 1, k', zs.set i d, by omega, rfl, by go_num, Lib.hid (Hput.out d).1, Lib.hid (HB.out.setCell (p := ⟨g, i, none⟩) (by rw [Hg.out]; exact Nat.le_refl _) _), Hst⟩
        case measure => simp [intOf]; omega
      · have hwd : wordAt ys i = 0 := by unfold wordAt; rw [if_neg (by rw [← Hsl.out]; exact his)]
        rw [hwd] at hd hk'
        have hadd := fun W : World => sub32_any x 0 k W hxb.1 hxb.2 (by omega) (by omega) k0 k1
        rw [← hd, ← hk'] at hadd
        have Hadd := Lib.hid hadd
        have p3 : ¬ (i : Int) < (sl : Int) := by omega
        clear hd hk' hwd hadd hxb k0 k1
        go_wp2_with (go_at_call 79; refine (Hadd.out _).mono ?_; rintro e w5 ⟨rfl, rfl⟩)
        go_roundw
        case rel => exact ⟨i + 1, k', zs.set i d, by omega, rfl, by go_num, Lib.hid (Hput.out d).1, Lib.hid (HB.out.setCell (p := ⟨g, i, none⟩) (by rw [Hg.out]; exact Nat.le_refl _) _), Hst⟩
        case measure => simp [intOf]; omega
    · have hil2 : i = ll := by omega
      subst hil2
      have hz : Dv.valW zs = Dv.valW xs - Dv.valW ys := by
        have h := HS.out
        have e := Hll.out
        rw [e] at h
        exact h.last (by rw [← e, ← Hsl.out]; exact hle) Hv.out
      have hzl : zs.length = i := by rw [HS.out.len]; exact Hll.out.symm
      have Hz := Lib.hid hz; have Hzl := Lib.hid hzl
      have p1 : ¬ (i : Int) < (i : Int) := by omega
      clear hz hzl hil
      go_wp2
      go_ret
      exact ⟨some ⟨g, 0, none⟩, i, zs, by rw [Hzl.out]; rfl, by have := Hzl.out; omega, by rw [Hzl.out, ← Hg.out]; exact HO.out, HB.out, by rw [HS.out.len], HS.out.wd, Hz.out⟩
end Go.Proofs.YtiofeehcnegejaaDoor
