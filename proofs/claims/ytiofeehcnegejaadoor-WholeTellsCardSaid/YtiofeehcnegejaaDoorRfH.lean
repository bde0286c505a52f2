/- The document's own plus. -/
import Derived.Test.YtiofeehcnegejaaDoorRfD
namespace Go.Proofs.YtiofeehcnegejaaDoor
open Go.RowKit Go.Proofs.YtiofeehcnegejaaDoorW.PrintWords
set_option linter.unusedVariables false
set_option linter.unusedSimpArgs false

/-- At the loop's head. -/
structure PlusAt (xs ys zs : List Int) (i : Nat) (k : Int) : Prop where
  len : zs.length = i
  wd : Dv.Wd zs
  k0 : 0 ≤ k
  k1 : k ≤ 1
  eq : Dv.valW zs + 2 ^ (32 * i) * k = Dv.valW (xs.take i) + Dv.valW (ys.take i)
theorem PlusAt.start (xs ys : List Int) : PlusAt xs ys [] 0 0 := ⟨rfl, (fun x hx => by cases hx), by omega, by omega, by simp [Dv.valW]⟩
theorem Wd_snoc {zs : List Int} (h : Dv.Wd zs) {d : Int} (d0 : 0 ≤ d) (d1 : d < 4294967296) : Dv.Wd (zs ++ [d]) := fun x hx => by
  rcases List.mem_append.1 hx with hx | hx
  · exact h x hx
  · simp at hx; subst hx; exact ⟨d0, d1⟩
theorem wordAt_bd {xs : List Int} (h : Dv.Wd xs) (i : Nat) : 0 ≤ wordAt xs i ∧ wordAt xs i < 4294967296 := by unfold wordAt; split; exact h.get _; omega
theorem PlusAt.step {xs ys zs : List Int} {i : Nat} {k T : Int} (h : PlusAt xs ys zs i k) (hx : Dv.Wd xs) (hy : Dv.Wd ys) (hT : T = k + wordAt xs i + wordAt ys i) : PlusAt xs ys (zs ++ [T % 4294967296]) (i + 1) (T / 4294967296) := by
  have b1 := wordAt_bd hx i
  have b2 := wordAt_bd hy i
  have k0 := h.k0
  have k1 := h.k1
  refine ⟨by simp [h.len], Wd_snoc h.wd (by omega) (by omega), by omega, by omega, ?_⟩
  rw [Dv.valW_snoc, h.len, valW_word xs i, valW_word ys i, show 32 * (i + 1) = 32 * i + 32 by omega, Int.pow_add]
  have e := h.eq
  have e32 : (2 : Int) ^ 32 = 4294967296 := by decide
  rw [e32]
  obtain ⟨P, hP⟩ : ∃ P : Int, P = 2 ^ (32 * i) := ⟨_, rfl⟩
  rw [← hP] at e ⊢
  have e3 : P * (T % 4294967296) + P * 4294967296 * (T / 4294967296) = P * T := by
    rw [Int.mul_assoc, ← Int.mul_add, Int.emod_add_mul_ediv]
  have e4 : P * T = P * k + P * wordAt xs i + P * wordAt ys i := by rw [hT, Int.mul_add, Int.mul_add]
  omega
theorem PlusAt.last {xs ys zs : List Int} {i : Nat} {k : Int} (h : PlusAt xs ys zs i k) (h1 : xs.length ≤ i) (h2 : ys.length ≤ i) : Dv.Wd (zs ++ [k]) ∧ Dv.valW (zs ++ [k]) = Dv.valW xs + Dv.valW ys := by
  have e := h.eq
  rw [List.take_of_length_le h1, List.take_of_length_le h2] at e
  have := h.k0
  have := h.k1
  exact ⟨Wd_snoc h.wd (by omega) (by omega), by rw [Dv.valW_snoc, h.len]; exact e⟩

/-- A sum of sizes: a row of the call's own. -/
def PlusPost (w : World) (xs ys : List Int) (e : Ending) (w' : World) : Prop :=
  ∃ v zs, e = .returned v ∧ Own32 w' w.heap.size v zs ∧ Below w.heap.size w w' ∧ Dv.Wd zs ∧ Dv.valW zs = Dv.valW xs + Dv.valW ys ∧ zs.length ≤ xs.length + ys.length + 1
set_option maxRecDepth 100000 in
set_option maxHeartbeats 3200000 in
theorem plus_any (A B : Option Addr) (n n' c c' : Nat) (xs ys : List Int) (w : World) (hx : Dv.Wd xs) (hy : Dv.Wd ys) (hr : ReadsInt w .u32 A n xs) (hr' : ReadsInt w .u32 B n' ys) (hn : n ≤ 100000) (hn' : n' ≤ 100000) :
    Calls Tryd.prog 50 #[.slice A n c, .slice B n' c'] w (PlusPost w xs ys) := by
  have hl := hr.1
  have hl' := hr'.1
  have Hl := Lib.hid hl; have Hl' := Lib.hid hl'; have Hr := Lib.hid hr; have Hr' := Lib.hid hr'; have Hx := Lib.hid hx; have Hy := Lib.hid hy
  clear hl hl' hr hr' hx hy
  go_enter Tryd.func50, Tryd.ntmps50
  go_wp2
  go_loopw [5, 6, 7] (fun ov kv iv wr => ∃ (i c3 : Nat) (k : Int) (A3 : Option Addr) (zs : List Int), (i ≤ n ∨ i ≤ n') ∧ ov = .slice A3 zs.length c3 ∧ kv = .int .u64 k ∧ iv = .int .i64 i ∧ Hid (Own32 wr w.heap.size (.slice A3 zs.length c3) zs) ∧ Hid (Below w.heap.size w wr) ∧ Hid (PlusAt xs ys zs i k)) (fun _ _ iv _ => n + n' - (intOf iv).toNat)
  case atStart => exact ⟨0, 0, 0, none, [], .inl (Nat.zero_le _), rfl, rfl, rfl, Lib.hid (own_nil _ _ _ _), Lib.hid (Below.refl _ _), Lib.hid (PlusAt.start _ _)⟩
  case round =>
    obtain ⟨i, c3, k, A3, zs, hi, rfl, rfl, rfl, HO, HB, HP⟩ := hrel
    have k0 := HP.out.k0
    have k1 := HP.out.k1
    have hB := HB.out.size
    have hown := HO.out
    unfold Own32 at hown
    have hzl := HP.out.len
    obtain ⟨zl, hzz⟩ : ∃ zl, zl = zs.length := ⟨_, rfl⟩
    have hzi : zl = i := by rw [hzz, hzl]
    have Hzz := Lib.hid hzz; have Hzi := Lib.hid hzi
    have hb1 := wordAt_bd Hx.out i
    have hb2 := wordAt_bd Hy.out i
    have happ : ∀ T : Int, T = k + wordAt xs i + wordAt ys i → ∀ (v1 : Value) (W1 : World), W1.ownsRow w.heap.size 62 1 v1 (zs ++ [T % 4294967296]).length (nums .u32 (zs ++ [T % 4294967296])) → Below w.heap.size w W1 →
        ∃ c4 A4, v1 = .slice A4 (zs ++ [T % 4294967296]).length c4 ∧ Hid (Own32 W1 w.heap.size (.slice A4 (zs ++ [T % 4294967296]).length c4) (zs ++ [T % 4294967296])) ∧ Hid (Below w.heap.size w W1) ∧ Hid (PlusAt xs ys (zs ++ [T % 4294967296]) (i + 1) (T / 4294967296)) := fun T hT v1 W1 h1 h2 => by
      obtain ⟨A4, c4, rfl⟩ := own_slice h1
      exact ⟨c4, A4, rfl, Lib.hid h1, Lib.hid h2, Lib.hid (HP.out.step Hx.out Hy.out hT)⟩
    have Happ := Lib.hid happ
    have hfew : zs.length ≤ 100000 := by rw [hzl]; omega
    have Hfew := Lib.hid hfew
    clear happ hzl hzz hzi hfew
    by_cases hin : i < n
    · have p1 : (i : Int) < (n : Int) := by omega
      have q1 : decide ((i : Int) < (n : Int)) = true := by simpa using p1
      obtain ⟨ad, hae, hcx⟩ := (Hr.out.below HB.out).at_ (i : Int) (by omega) (by omega)
      subst hae
      rw [Int.toNat_natCast] at hcx
      have hwx : wordAt xs i = rd xs (i : Int) := by unfold wordAt; rw [if_pos (by rw [Hl.out]; exact hin)]
      rw [← hwx] at hcx
      by_cases hin' : i < n'
      · have p2 : (i : Int) < (n' : Int) := by omega
        have q2 : decide ((i : Int) < (n' : Int)) = true := by simpa using p2
        obtain ⟨bd, hbe, hcy⟩ := (Hr'.out.below HB.out).at_ (i : Int) (by omega) (by omega)
        subst hbe
        rw [Int.toNat_natCast] at hcy
        have hwy : wordAt ys i = rd ys (i : Int) := by unfold wordAt; rw [if_pos (by rw [Hl'.out]; exact hin')]
        rw [← hwy] at hcy
        clear hwx hwy
        have hap := Happ.out (k + wordAt xs i + wordAt ys i) (by rfl)
        have Hap := Lib.hid hap
        clear hap
        generalize wordAt xs i = x at *
        generalize wordAt ys i = y at *
        go_wp2_with (at_builtin; refine print_append_num (w0 := w) w.heap.size rfl _ _ 22 62 .u32 4 rfl Tryd.underlying22 info62 (by decide) (.slice A3 zs.length c3) zs ((k + x + y) % 4294967296) rfl rfl hown HB.out hB (by have := Hfew.out; omega) ?_; intro v1 W1 h1 h2 h3 h4; obtain ⟨c4, A4, rfl, HO4, HB4, HP4⟩ := Hap.out v1 W1 h1 h2; clear h1 h2 h3 h4)
        go_roundw
        case rel => exact ⟨i + 1, c4, _, A4, _, .inl (by omega), by simp, rfl, by go_num, HO4, HB4, HP4⟩
        case measure => simp [intOf]; omega
      · have p2 : ¬ (i : Int) < (n' : Int) := by omega
        have q2 : decide ((i : Int) < (n' : Int)) = false := by simpa using p2
        have hwy : wordAt ys i = 0 := by unfold wordAt; rw [if_neg (by rw [Hl'.out]; exact hin')]
        clear hwx
        have hap := Happ.out (k + wordAt xs i) (by rw [hwy, Int.add_zero])
        have Hap := Lib.hid hap
        clear hap hwy
        generalize wordAt xs i = x at *
        go_wp2_with (at_builtin; refine print_append_num (w0 := w) w.heap.size rfl _ _ 22 62 .u32 4 rfl Tryd.underlying22 info62 (by decide) (.slice A3 zs.length c3) zs ((k + x) % 4294967296) rfl rfl hown HB.out hB (by have := Hfew.out; omega) ?_; intro v1 W1 h1 h2 h3 h4; obtain ⟨c4, A4, rfl, HO4, HB4, HP4⟩ := Hap.out v1 W1 h1 h2; clear h1 h2 h3 h4)
        go_roundw
        case rel => exact ⟨i + 1, c4, _, A4, _, .inl (by omega), by simp, rfl, by go_num, HO4, HB4, HP4⟩
        case measure => simp [intOf]; omega
    · have p1 : ¬ (i : Int) < (n : Int) := by omega
      have q1 : decide ((i : Int) < (n : Int)) = false := by simpa using p1
      by_cases hin' : i < n'
      · have p2 : (i : Int) < (n' : Int) := by omega
        have q2 : decide ((i : Int) < (n' : Int)) = true := by simpa using p2
        obtain ⟨bd, hbe, hcy⟩ := (Hr'.out.below HB.out).at_ (i : Int) (by omega) (by omega)
        subst hbe
        rw [Int.toNat_natCast] at hcy
        have hwy : wordAt ys i = rd ys (i : Int) := by unfold wordAt; rw [if_pos (by rw [Hl'.out]; exact hin')]
        rw [← hwy] at hcy
        have hwx : wordAt xs i = 0 := by unfold wordAt; rw [if_neg (by rw [Hl.out]; exact hin)]
        clear hwy
        have hap := Happ.out (k + wordAt ys i) (by rw [hwx, Int.add_zero])
        have Hap := Lib.hid hap
        clear hap hwx
        generalize wordAt ys i = y at *
        go_wp2_with (at_builtin; refine print_append_num (w0 := w) w.heap.size rfl _ _ 22 62 .u32 4 rfl Tryd.underlying22 info62 (by decide) (.slice A3 zs.length c3) zs ((k + y) % 4294967296) rfl rfl hown HB.out hB (by have := Hfew.out; omega) ?_; intro v1 W1 h1 h2 h3 h4; obtain ⟨c4, A4, rfl, HO4, HB4, HP4⟩ := Hap.out v1 W1 h1 h2; clear h1 h2 h3 h4)
        go_roundw
        case rel => exact ⟨i + 1, c4, _, A4, _, .inr (by omega), by simp, rfl, by go_num, HO4, HB4, HP4⟩
        case measure => simp [intOf]; omega
      · have p2 : ¬ (i : Int) < (n' : Int) := by omega
        have q2 : decide ((i : Int) < (n' : Int)) = false := by simpa using p2
        have hlast := HP.out.last (by rw [Hl.out]; omega) (by rw [Hl'.out]; omega)
        have hfin : ∀ (v1 : Value) (W1 : World), W1.ownsRow w.heap.size 62 1 v1 (zs ++ [k]).length (nums .u32 (zs ++ [k])) → Below w.heap.size w W1 → PlusPost w xs ys (.returned v1) W1 := fun v1 W1 h1 h2 =>
          ⟨v1, zs ++ [k], rfl, h1, h2, hlast.1, hlast.2, by rw [List.length_append, List.length_singleton]; have := Hzz.out; have := Hzi.out; have := Hl.out; have := Hl'.out; omega⟩
        have Hfin := Lib.hid hfin
        clear hfin hlast
        go_wp2_with (at_builtin; refine print_append_num (w0 := w) w.heap.size rfl _ _ 22 62 .u32 4 rfl Tryd.underlying22 info62 (by decide) (.slice A3 zs.length c3) zs k rfl rfl hown HB.out hB (by have := Hfew.out; omega) ?_; intro v1 W1 h1 h2 h3 h4; have HE := Lib.hid (Hfin.out v1 W1 h1 h2); clear h1 h2 h3 h4)
        go_ret
        exact HE.out
end Go.Proofs.YtiofeehcnegejaaDoor
