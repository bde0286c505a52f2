/- The document's own product of sizes. -/
import Derived.Test.YtiofeehcnegejaaDoorRfH
import Derived.IntWalk
namespace Go.Proofs.YtiofeehcnegejaaDoor
open Go.RowKit Go.Proofs.YtiofeehcnegejaaDoorW.PrintWords
set_option linter.unusedVariables false
set_option linter.unusedSimpArgs false

structure TimW (w : World) (g l : Nat) (X Y zs : List Int) (i : Nat) (wr : World) : Prop where
  own : wr.ownsRow w.heap.size 62 1 (.slice (some ⟨g, 0, none⟩) l l) l (nums .u32 zs)
  bel : Below w.heap.size w wr
  mul : MulAt X Y zs i
structure TimJ (w : World) (g l : Nat) (Y z0 zs : List Int) (p : Int) (i j : Nat) (k : Int) (wr : World) : Prop where
  own : wr.ownsRow w.heap.size 62 1 (.slice (some ⟨g, 0, none⟩) l l) l (nums .u32 zs)
  bel : Below w.heap.size w wr
  mul : MulIn Y z0 zs p i j k
/-- A product of sizes: a row of the call's own. -/
def TimesPost (w : World) (xs ys : List Int) (e : Ending) (w' : World) : Prop :=
  ∃ v zs, e = .returned v ∧ Own32 w' w.heap.size v zs ∧ Below w.heap.size w w' ∧ Dv.Wd zs ∧ Dv.valW zs = Dv.valW xs * Dv.valW ys ∧ zs.length = xs.length + ys.length
set_option maxRecDepth 100000 in
set_option maxHeartbeats 4000000 in
theorem times_any (A B : Option Addr) (s t c c' : Nat) (X Y : List Int) (w : World) (hx : Dv.Wd X) (hy : Dv.Wd Y) (hr : ReadsInt w .u32 A s X) (hr' : ReadsInt w .u32 B t Y) (hn : s ≤ 100000) (hn' : t ≤ 100000) :
    Calls Tryd.prog 51 #[.slice A s c, .slice B t c'] w (TimesPost w X Y) := by
  have hl := hr.1
  have hl' := hr'.1
  have hmake : ∀ W : World, (Instr.makeSlice 22 (.int .i64 ((s : Int) + (t : Int))) (.int .i64 ((s : Int) + (t : Int)))).run Tryd.prog W = .ok (.slice (some ⟨W.heap.size, 0, none⟩) (s + t) (s + t)) (W.alloc (.cells (madeCells #[.int .u32 0] (s + t)) 62)) := by
    have h := print_make_of (P := Tryd.prog) 22 62 (.int .u32 0) 4 Tryd.underlying22 info62 rfl (by decide) (s + t) (by omega)
    rw [Int.natCast_add] at h
    exact h
  have hown0 := own_made w w.heap.size 62 .u32 (s + t) (Nat.le_refl _) (by omega)
  have hb0 : Below w.heap.size w (w.alloc (.cells (madeCells #[.int .u32 0] (s + t)) 62)) := below_alloc (Below.refl _ _) _
  have hm0 : MulAt X Y (List.replicate (s + t) 0) 0 := by rw [← hl, ← hl']; exact MulAt.start X Y
  have Hst := Lib.hid (show TimW w w.heap.size (s + t) X Y (List.replicate (s + t) 0) 0 (w.alloc (.cells (madeCells #[.int .u32 0] (s + t)) 62)) from ⟨hown0, hb0, hm0⟩)
  have HXl := Lib.hid hl; have HYl := Lib.hid hl'; have Hrx := Lib.hid hr; have Hry := Lib.hid hr'; have HXw := Lib.hid hx; have HYw := Lib.hid hy
  clear hl hl' hr hr' hx hy hown0 hb0 hm0
  go_enter Tryd.func51, Tryd.ntmps51
  go_wp2
  clear hmake
  obtain ⟨g, hgg⟩ : ∃ g, g = w.heap.size := ⟨_, rfl⟩
  rw [show TimW w w.heap.size (s + t) X Y (List.replicate (s + t) 0) 0 (w.alloc (.cells (madeCells #[.int .u32 0] (s + t)) 62)) = TimW w g (s + t) X Y (List.replicate (s + t) 0) 0 (w.alloc (.cells (madeCells #[.int .u32 0] (s + t)) 62)) by rw [hgg]] at Hst
  have Hg := Lib.hid (show w.heap.size ≤ g by omega)
  rw [← hgg]
  clear hgg
  go_loopw [6] (fun iv wr => ∃ (i : Nat) (zs : List Int), i ≤ s ∧ iv = .int .i64 i ∧ Hid (TimW w g (s + t) X Y zs i wr)) (fun iv _ => s - (intOf iv).toNat)
  case atStart => exact ⟨0, _, Nat.zero_le _, rfl, Hst⟩
  case round =>
    obtain ⟨i, zs, hi, rfl, HM⟩ := hrel
    clear Hst
    by_cases hil : i < s
    · have hpb := HXw.out.get (i : Int)
      obtain ⟨p, hp⟩ : ∃ p, p = rd X (i : Int) := ⟨_, rfl⟩
      rw [← hp] at hpb
      have Hp := Lib.hid hp
      have p0 : (0 : Int) ≤ (i : Int) := by omega
      have p1 : (i : Int) < (s : Int) := by omega
      have Hs2 := Lib.hid (show TimJ w g (s + t) Y zs zs p i 0 0 wr from ⟨HM.out.own, HM.out.bel, MulIn.start HM.out.mul p⟩)
      clear hp
      go_wp2
      go_loopw [7, 8] (fun kv jv wr => ∃ (j : Nat) (k : Int) (zs' : List Int), j ≤ t ∧ kv = .int .u64 k ∧ jv = .int .i64 j ∧ Hid (TimJ w g (s + t) Y zs zs' p i j k wr)) (fun _ jv _ => t - (intOf jv).toNat)
      case atStart => exact ⟨0, 0, zs, Nat.zero_le _, rfl, rfl, Hs2⟩
      case round =>
        obtain ⟨j, k, zs', hj, rfl, rfl, HJ⟩ := hrel
        clear Hs2
        have k0 := HJ.out.mul.k0
        have k1 := HJ.out.mul.k1
        by_cases hjl : j < t
        · obtain ⟨ad, hae, hcx⟩ := (Hrx.out.below HJ.out.bel).at_ (i : Int) (by omega) (by omega)
          subst hae
          rw [Int.toNat_natCast, ← Hp.out] at hcx
          obtain ⟨bd, hbe, hcy⟩ := (Hry.out.below HJ.out.bel).at_ (j : Int) (by omega) (by omega)
          subst hbe
          rw [Int.toNat_natCast] at hcy
          have hqb := HYw.out.get (j : Int)
          have hzw := HM.out.mul.wd.get ((i + j : Nat) : Int)
          obtain ⟨hoc, hof⟩ := own_at HJ.out.own ((i + j : Nat) : Int) (by omega) (by omega)
          have hsm := HJ.out.mul.same (i + j) (Nat.le_refl _)
          rw [Int.toNat_natCast, hsm] at hoc
          rw [Int.toNat_natCast] at hof
          have hstep := HJ.out.mul.step HM.out.mul.wd HYw.out hpb.1 hpb.2 (by rw [HYl.out]; exact hjl) (by rw [HM.out.mul.len, HXl.out, HYl.out]; omega)
          obtain ⟨q, hq⟩ : ∃ q, q = rd Y (j : Int) := ⟨_, rfl⟩
          obtain ⟨z, hz⟩ : ∃ z, z = rd zs ((i + j : Nat) : Int) := ⟨_, rfl⟩
          rw [← hq] at hcy hqb hstep
          rw [← hz] at hzw hoc hstep
          obtain ⟨m0, m1⟩ := mul_word hpb.1 hpb.2 hqb.1 hqb.2 hzw.1 hzw.2 k0 k1
          obtain ⟨m, hm⟩ : ∃ m, m = p * q := ⟨_, rfl⟩
          rw [← hm] at m0 m1 hstep
          have hpq : IntKind.u64.wrap (p * q) = m := by rw [← hm]; exact IntWalk.u64_in _ (by omega)
          obtain ⟨T, hT⟩ : ∃ T, T = k + (m + z) := ⟨_, rfl⟩
          rw [← hT] at hstep
          have hput := fun nq => own_store (pw_own_drewN HJ.out.own nq) ((i + j : Nat) : Int) (T % 4294967296)
          simp only [Int.toNat_natCast] at hput
          have Hput := Lib.hid hput; have Hstep := Lib.hid hstep; have HT := Lib.hid hT
          have hij : ((i : Int) + (j : Int)).toNat = i + j := by omega
          have e1 : IntKind.i64.wrap ((i : Int) + (j : Int)) = (i : Int) + (j : Int) := IntWalk.i64_in _ (by omega)
          have e2 : IntKind.u64.wrap (k + m) = k + m := IntWalk.u64_in _ (by omega)
          have e3 : IntKind.u64.wrap (k + m + z) = k + m + z := IntWalk.u64_in _ (by omega)
          have HT2 := Lib.hid (show T = k + m + z by omega)
          have p2 : (0 : Int) ≤ (j : Int) := by omega
          have p3 : (j : Int) < (t : Int) := by omega
          have p4 : (i : Int) + (j : Int) < ((s + t : Nat) : Int) := by omega
          clear hm hT hput hstep hq hz hsm
          go_upto_region 9 with (fail)
          go_quiet (fail)
          go_wp2
          go_roundw
          case rel =>
            have hT := HT2.out
            subst hT
            exact ⟨j + 1, _, _, by omega, rfl, by go_num, Lib.hid ⟨(Hput.out nq).1, (pw_below_drewN HJ.out.bel nq).setCell (p := ⟨g, i + j, none⟩) Hg.out _, Hstep.out⟩⟩
          case measure => simp [intOf]; omega
        · have hjt : j = t := by omega
          subst hjt
          obtain ⟨hoc, hof⟩ := own_at HJ.out.own ((i + j : Nat) : Int) (by omega) (by omega)
          rw [Int.toNat_natCast] at hoc hof
          have hput := own_store HJ.out.own ((i + j : Nat) : Int) k
          rw [Int.toNat_natCast] at hput
          have hlast : MulAt X Y (zs'.set (i + j) k) (i + 1) := by
            have h := HJ.out.mul
            rw [Hp.out, ← HYl.out] at h
            have h2 := MulIn.last HM.out.mul h (by rw [HXl.out]; exact hil)
            rw [HYl.out] at h2
            exact h2
          have Hput := Lib.hid hput; have Hlast := Lib.hid hlast
          have hij : ((i : Int) + (j : Int)).toNat = i + j := by omega
          have p4 : (i : Int) + (j : Int) < ((s + j : Nat) : Int) := by omega
          clear hput hlast
          go_wp2
          go_roundw
          case rel => exact ⟨i + 1, zs'.set (i + j) k, by omega, by go_num, Lib.hid ⟨Hput.out.1, HJ.out.bel.setCell (p := ⟨g, i + j, none⟩) Hg.out _, Hlast.out⟩⟩
          case measure => simp [intOf]; omega
    · have his : i = s := by omega
      subst his
      have hzl : zs.length = i + t := by rw [HM.out.mul.len, HXl.out, HYl.out]
      have hv : Dv.valW zs = Dv.valW X * Dv.valW Y := by
        have h := HM.out.mul
        rw [← HXl.out] at h
        exact h.last
      have hfin : TimesPost w X Y (.returned (.slice (some ⟨g, 0, none⟩) (i + t) (i + t))) wr := by
        refine ⟨_, zs, rfl, ?_, HM.out.bel, HM.out.mul.wd, hv, HM.out.mul.len⟩
        unfold Own32
        rw [hzl]
        exact HM.out.own
      have Hfin := Lib.hid hfin
      clear hfin hzl hv
      go_wp2
      go_ret
      exact Hfin.out
end Go.Proofs.YtiofeehcnegejaaDoor
