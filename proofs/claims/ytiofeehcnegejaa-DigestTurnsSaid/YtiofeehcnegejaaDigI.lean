/- The walks of digest.Whole and of the document's own answers beside it. -/
import Derived.Test.YtiofeehcnegejaaDigH
import Derived.Test.YtiofeehcnegejaaMc
namespace Go.Proofs.Ytiofeehcnegejaa
open Go.RowKit Go.Proofs.YtiofeehcnegejaaW.PrintWords
set_option linter.unusedVariables false

theorem valW_trim (xs : List Int) : Dv.valW (xs.take (trimLen xs)) = Dv.valW xs := by
  generalize hn : xs.length = n
  induction n generalizing xs with
  | zero => have : xs = [] := List.length_eq_zero_iff.1 hn; subst this; rfl
  | succ n ih =>
    rcases List.eq_nil_or_concat xs with rfl | ⟨ini, x, rfl⟩
    · simp at hn
    · rw [List.concat_eq_append] at hn ⊢
      by_cases hx : x = 0
      · subst hx
        rw [trimLen_zero, List.take_append_of_le_length (trimLen_le ini), ih ini (by simpa using hn), Dv.valW_snoc, Int.mul_zero, Int.add_zero]
      · rw [trimLen_not _ _ hx, List.take_of_length_le (by simp)]

theorem rF_val (m : Int) (ts : List Int) (hw : ∀ i, 0 ≤ rd ts i ∧ rd ts i < 4294967296) (k : Nat) (hk : k ≤ ts.length) : rF m (uptoF (backF ts hw) k) = Dv.valW (ts.drop (ts.length - k)) % m := by
  induction k with
  | zero => simp [rF, uptoF, Dv.valW]
  | succ k ih =>
    rw [uptoF_succ, rF_snoc, ih (by omega), Dv.rest_step]
    have h := Dv.valW_drop (xs := ts) (k := ts.length - (k + 1)) (by omega)
    rw [show ts.length - (k + 1) + 1 = ts.length - k by omega] at h
    rw [h]
    show (_ + rd ts ((ts.length : Int) - 1 - k)) % m = _
    rw [show (ts.length : Int) - 1 - k = ((ts.length - (k + 1) : Nat) : Int) by omega]

theorem rest_val (A : Option Addr) (n c : Nat) (zs : List Int) (m : Int) (w : World) (hw : Dv.Wd zs) (hr : ReadsInt w .u32 A n zs) (hc : n ≤ c) (hn : n ≤ 9223372036854775807) (hm0 : 1 ≤ m) (hm1 : m ≤ 4611686018427387904) :
    Calls Try.prog 23 #[.agg #[.bool false, .slice A n c], .int .i64 m] w fun e w' => e = .returned (.tuple #[.int .i64 (Dv.valW zs % m), .int .i64 0]) ∧ Below w.heap.size w w' := by
  refine (rest_any false A n c zs (zs.take (trimLen zs)) m w rfl (hw.take _).get hr hc hn hm0 hm1 rfl).mono ?_
  rintro e w' ⟨rfl, hb⟩
  refine ⟨?_, hb⟩
  have hl : (zs.take (trimLen zs)).length = trimLen zs := by rw [List.length_take]; have := trimLen_le zs; omega
  rw [rF_val _ _ _ _ (by omega), hl, Nat.sub_self, List.drop_zero, valW_trim]

/-- The hash of a whole number. -/
def wholeI (neg : Bool) (zs : List Int) : Int :=
  if neg then hashI (IntKind.u64.wrap (-(Dv.valW zs % 2305843009213693951))) (-2) else hashI (Dv.valW zs % 2305843009213693951) (-2)

set_option maxHeartbeats 400000 in
set_option maxRecDepth 100000 in
theorem whole_any (neg : Bool) (A : Option Addr) (n c : Nat) (zs : List Int) (w : World) (hw : Dv.Wd zs) (hr : ReadsInt w .u32 A n zs) (hc : n ≤ c) (hn : n ≤ 9223372036854775807) :
    Calls Try.prog 9 #[.agg #[.bool neg, .slice A n c]] w fun e w' => e = .returned (.int .i64 (wholeI neg zs)) ∧ Below w.heap.size w w' := by
  have hr' := fun o => hr.below ((Below.refl _ w).alloc (Nat.le_refl _) o)
  have Hr := Lib.hid hr'; clear hr' hr
  have hcell := fun v => World.cell?_alloc_new w #[.bool neg, .slice A n c] 24 v
  have h0 : 0 ≤ Dv.valW zs % 2305843009213693951 := Int.emod_nonneg _ (by omega)
  have h1 : Dv.valW zs % 2305843009213693951 < 2305843009213693951 := Int.emod_lt_of_pos _ (by omega)
  have hres := fun w hr => rest_val A n c zs 2305843009213693951 w hw hr hc hn (by omega) (by omega)
  have hI : wholeI neg zs = if neg then hashI (IntKind.u64.wrap (-(Dv.valW zs % 2305843009213693951))) (-2) else hashI (Dv.valW zs % 2305843009213693951) (-2) := rfl
  generalize wholeI neg zs = R at *
  generalize Dv.valW zs % 2305843009213693951 = r at *
  have Hres := Lib.hid hres; clear hres
  have HI := Lib.hid hI; clear hI hcell
  cases neg
  all_goals
    go_enter Try.func9, Try.ntmps9
    go_wp2_with (first | (go_at_call 23; refine (Hres.out _ (Hr.out _)).mono ?_; rintro e w' ⟨rfl, hb⟩; have hcc := (hb.cell (p := ⟨w.heap.size, 0, none⟩) (by simp)).trans (World.cell?_alloc_new w _ 24 0)) | (go_at_call 25; refine (stands_any _ _).mono ?_; rintro e w' ⟨rfl, rfl⟩) | (go_at_call 24; refine (hash_any _ _ _ _ (cellB _ _)).mono ?_; rintro e w' ⟨rfl, rfl⟩))
    go_ret
    have hz := hb.size
    rw [World.size_alloc] at hz
    exact ⟨by rw [HI.out]; rfl, (((Below.refl _ w).alloc (Nat.le_refl _) _).trans (hb.mono (by simp))).alloc (by omega) _⟩

/-- What the document's trim leaves: a row of its own. -/
def Own32 (W : World) (base : Nat) (v : Value) (xs : List Int) : Prop := W.ownsRow base 39 1 v xs.length (nums .u32 xs)
theorem info39 : (Try.prog.info? 39).map (fun i => (i.zero, i.size, i.bytes)) = some (some (.int .u32 0), 1, 4) := by kernel_rfl

set_option maxHeartbeats 400000 in
set_option maxRecDepth 100000 in
theorem refTrim_any (A : Option Addr) (n c : Nat) (xs : List Int) (w : World) (hr : ReadsInt w .u32 A n xs) (hc : n ≤ c) (hn : n * 4 ≤ 140737488355328) :
    Calls Try.prog 37 #[.slice A n c] w fun e w' => ∃ v, e = .returned v ∧ Own32 w' w.heap.size v (xs.take (trimLen xs)) ∧ Below w.heap.size w w' := by
  have hl : xs.length = n := hr.1
  have Hl := Lib.hid hl; clear hl
  have Hr := Lib.hid hr; clear hr
  obtain ⟨i0, hi0, _, _, _⟩ := info_parts info39
  go_enter Try.func37, Try.ntmps37
  go_wp2
  go_loopw [3] (fun v wr => ∃ m : Nat, m ≤ n ∧ v = .int .i64 m ∧ Hid (trimLen (xs.take m) = trimLen xs) ∧ ∃ q, wr = w.drewN q) (fun v _ => (intOf v).toNat)
  case atStart => exact ⟨n, Nat.le_refl _, rfl, Lib.hid (by rw [List.take_of_length_le (by rw [Hl.out]; omega)]), 0, rfl⟩
  case round =>
    obtain ⟨m, hm, rfl, HT, q, rfl⟩ := hrel
    have hstop : trimLen xs = m → True := fun _ => trivial
    by_cases h0 : m = 0
    · subst h0
      have hT : trimLen xs = 0 := by have := HT.out; simpa [trimLen_nil] using this.symm
      have HT' := Lib.hid hT; clear hT HT
      have hcut := cut_to (P := Try.prog) 22 39 .i64 Try.underlying22 hi0 A n c 0 (by omega) (by omega) hc
      have hT0 : xs.take 0 = xs.take (trimLen xs) := by rw [HT'.out]
      have HT0 := Lib.hid hT0; clear hT0
      go_wp2_with (at_builtin; refine print_append_row (w0 := w) w.heap.size rfl (.tmp 19) (.tmp 22) 22 39 .u32 4 rfl Try.underlying22 info39 (by decide) (.slice none 0 0) [] (xs.take 0) A 0 c rfl rfl (own_nil _ _ _ _) ((Hr.out.take_ 0 (by omega)).below (pw_below_drewN (Below.refl _ w) q)) (pw_below_drewN (Below.refl _ w) q) (Nat.le_refl _) (by simp) ?_; intro v1 w1 hown hb1 hg1 _)
      go_ret
      exact ⟨_, rfl, by rw [← HT0.out]; exact hown, hb1⟩
    · obtain ⟨m, rfl⟩ : ∃ k, m = k + 1 := ⟨m - 1, by omega⟩
      obtain ⟨ad, rfl, hcell⟩ := Hr.out.at_ (m : Int) (by omega) (by omega)
      rw [Int.toNat_natCast] at hcell
      have ht := take_succ_rd xs m (by rw [Hl.out]; omega)
      have HTk := Lib.hid ht; clear ht
      by_cases hz : rd xs m = 0
      · have hT : trimLen (xs.take m) = trimLen xs := by have := HT.out; rw [HTk.out, hz, trimLen_zero] at this; exact this
        have HT' := Lib.hid hT; clear hT HT HTk
        have hz' : (rd xs m == 0) = true := beq_iff_eq.2 hz
        clear hz h0
        go_wp2
        go_roundw
        case rel => exact ⟨m, by omega, by go_num, HT', q, rfl⟩
        case measure => simp [intOf]
      · have hT : trimLen xs = m + 1 := by have := HT.out; rw [HTk.out, trimLen_not _ _ hz, List.length_take, Nat.min_eq_left (by rw [Hl.out]; omega)] at this; exact this.symm
        have HT' := Lib.hid hT; clear hT HT HTk
        have hz' : (rd xs m == 0) = false := beq_eq_false_iff_ne.2 hz
        clear hz h0
        have hcut := cut_to (P := Try.prog) 22 39 .i64 Try.underlying22 hi0 (some ad) n c ((m : Int) + 1) (by omega) (by omega) hc
        rw [show ((m : Int) + 1).toNat = m + 1 by omega] at hcut
        have hT0 : xs.take (m + 1) = xs.take (trimLen xs) := by rw [HT'.out]
        have HT0 := Lib.hid hT0; clear hT0
        go_wp2_with (at_builtin; refine print_append_row (w0 := w) w.heap.size rfl (.tmp 19) (.tmp 22) 22 39 .u32 4 rfl Try.underlying22 info39 (by decide) (.slice none 0 0) [] (xs.take (m + 1)) (some ad) (m + 1) c rfl rfl (own_nil _ _ _ _) ((Hr.out.take_ (m + 1) hm).below (pw_below_drewN (Below.refl _ w) q)) (pw_below_drewN (Below.refl _ w) q) (Nat.le_refl _) (by simp; omega) ?_; intro v1 w1 hown hb1 hg1 _)
        go_ret
        exact ⟨_, rfl, by rw [← HT0.out]; exact hown, hb1⟩
end Go.Proofs.Ytiofeehcnegejaa
