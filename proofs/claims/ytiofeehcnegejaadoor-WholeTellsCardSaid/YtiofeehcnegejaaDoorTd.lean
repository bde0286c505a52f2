/- Plain: numbers in decimal digits; a row of words divided by a word, from the top. No program in sight. -/
import Derived.Test.YtiofeehcnegejaaDoorWhQ
namespace Go.Proofs.YtiofeehcnegejaaDoor
open Go.RowKit Go.Proofs.YtiofeehcnegejaaDoorW.PrintWords
set_option linter.unusedVariables false
set_option linter.unusedSimpArgs false

/-- What signs of digits write. -/
def horner (ds : List Int) : Int := ds.foldl (fun a d => a * 10 + (d - 48)) 0
theorem horner_nil : horner [] = 0 := rfl
theorem horner_snoc (ds : List Int) (d : Int) : horner (ds ++ [d]) = horner ds * 10 + (d - 48) := by simp [horner]
theorem horner_zero (ds : List Int) : horner (48 :: ds) = horner ds := by simp [horner]
/-- Each is a digit's sign. -/
def Digs (ds : List Int) : Prop := ∀ d ∈ ds, 48 ≤ d ∧ d ≤ 57
theorem Digs.snoc {ds : List Int} {d : Int} (h : Digs (ds ++ [d])) : Digs ds ∧ 48 ≤ d ∧ d ≤ 57 := ⟨fun x hx => h x (by simp [hx]), h d (by simp)⟩
theorem horner_nonneg (ds : List Int) (h : Digs ds) : 0 ≤ horner ds := by
  generalize hn : ds.length = n
  induction n generalizing ds with
  | zero => have : ds = [] := List.length_eq_zero_iff.1 hn; subst this; simp [horner]
  | succ n ih =>
    rcases List.eq_nil_or_concat ds with rfl | ⟨ini, d, rfl⟩
    · simp at hn
    · rw [List.concat_eq_append] at hn h ⊢
      have := ih ini h.snoc.1 (by simpa using hn)
      have := h.snoc.2
      rw [horner_snoc]; omega
/-- No nought stands ahead. -/
def NoLead (ds : List Int) : Prop := ds.head? ≠ some 48
theorem NoLead.snoc {ds : List Int} {d : Int} (h : NoLead (ds ++ [d])) (hne : ds ≠ []) : NoLead ds := by
  unfold NoLead at h ⊢
  cases ds with
  | nil => exact absurd rfl hne
  | cons x xs => simpa using h
theorem horner_pos (ds : List Int) (h : Digs ds) (hl : NoLead ds) (hne : ds ≠ []) : 1 ≤ horner ds := by
  generalize hn : ds.length = n
  induction n generalizing ds with
  | zero => exact absurd (List.length_eq_zero_iff.1 hn) hne
  | succ n ih =>
    rcases List.eq_nil_or_concat ds with rfl | ⟨ini, d, rfl⟩
    · simp at hn
    · rw [List.concat_eq_append] at hn h hl hne ⊢
      rw [horner_snoc]
      have hd := h.snoc.2
      by_cases hi : ini = []
      · subst hi
        unfold NoLead at hl
        simp at hl
        simp [horner]; omega
      · have := ih ini h.snoc.1 (hl.snoc hi) hi (by simpa using hn)
        omega
/-- The digits of a number, the highest first; of 0 there is none. -/
def decI (n : Nat) : List Int := if h : n = 0 then [] else decI (n / 10) ++ [48 + ((n % 10 : Nat) : Int)]
  termination_by n
  decreasing_by omega
theorem decI_zero : decI 0 = [] := by rw [decI]; simp
theorem decI_pos (n : Nat) (h : n ≠ 0) : decI n = decI (n / 10) ++ [48 + ((n % 10 : Nat) : Int)] := by rw [decI]; simp [h]
/-- There is just one way to write a number. -/
theorem dec_unique (ds : List Int) (h : Digs ds) (hl : NoLead ds) : decI (horner ds).toNat = ds := by
  generalize hn : ds.length = n
  induction n generalizing ds with
  | zero => have : ds = [] := List.length_eq_zero_iff.1 hn; subst this; exact decI_zero
  | succ n ih =>
    rcases List.eq_nil_or_concat ds with rfl | ⟨ini, d, rfl⟩
    · simp at hn
    · rw [List.concat_eq_append] at hn h hl ⊢
      have hp := horner_pos _ h hl (by simp)
      have hd := h.snoc.2
      have h0 := horner_nonneg ini h.snoc.1
      rw [horner_snoc] at hp ⊢
      rw [decI_pos _ (by omega)]
      rw [show (horner ini * 10 + (d - 48)).toNat / 10 = (horner ini).toNat by omega, show (((horner ini * 10 + (d - 48)).toNat % 10 : Nat) : Int) = d - 48 by omega, show 48 + (d - 48) = d by omega]
      by_cases hi : ini = []
      · subst hi; rw [horner_nil]; simp [decI_zero]
      · rw [ih ini h.snoc.1 (hl.snoc hi) (by simpa using hn)]
theorem decI_digs (n : Nat) : Digs (decI n) := by
  induction n using Nat.strongRecOn with
  | _ n ih =>
    by_cases h : n = 0
    · subst h; rw [decI_zero]; intro d hd; cases hd
    · rw [decI_pos n h]
      intro d hd
      rcases List.mem_append.1 hd with hd | hd
      · exact ih (n / 10) (by omega) d hd
      · simp at hd; omega
theorem decI_nolead (n : Nat) : NoLead (decI n) := by
  induction n using Nat.strongRecOn with
  | _ n ih =>
    by_cases h : n = 0
    · subst h; rw [decI_zero]; simp [NoLead]
    · rw [decI_pos n h]
      have := ih (n / 10) (by omega)
      unfold NoLead at this ⊢
      by_cases h1 : n / 10 = 0
      · rw [h1, decI_zero]; simp; omega
      · rw [decI_pos _ h1] at this ⊢
        cases hc : decI (n / 10 / 10) ++ [48 + ((n / 10 % 10 : Nat) : Int)] with
        | nil => simp at hc
        | cons x xs => rw [hc] at this; simpa using this
theorem decI_val (n : Nat) : horner (decI n) = n := by
  induction n using Nat.strongRecOn with
  | _ n ih =>
    by_cases h : n = 0
    · subst h; rw [decI_zero]; rfl
    · rw [decI_pos n h, horner_snoc, ih (n / 10) (by omega)]; omega
theorem drop0 (ds : List Int) (h : Digs ds) : Digs (ds.dropWhile (· == 48)) ∧ NoLead (ds.dropWhile (· == 48)) ∧ horner (ds.dropWhile (· == 48)) = horner ds := by
  induction ds with
  | nil => exact ⟨h, by simp [NoLead], rfl⟩
  | cons d ds ih =>
    rw [List.dropWhile_cons]
    by_cases hd : d = 48
    · subst hd
      have := ih fun x hx => h x (by simp [hx])
      rw [horner_zero]
      simpa using this
    · have e : (d == 48) = false := beq_eq_false_iff_ne.2 hd
      rw [e]
      exact ⟨h, by simpa [NoLead] using hd, rfl⟩
/-- Signs whose noughts ahead are left out are the number's digits. -/
theorem dec_of (ds : List Int) (h : Digs ds) : ds.dropWhile (· == 48) = decI (horner ds).toNat := by
  obtain ⟨h1, h2, h3⟩ := drop0 ds h
  rw [← h3, dec_unique _ h1 h2]

/-! ### Pieces of nine digits -/
def dig9 (n : Int) : List Int := [dgt n 0, dgt n 1, dgt n 2, dgt n 3, dgt n 4, dgt n 5, dgt n 6, dgt n 7, dgt n 8]
theorem dgs_dig9 (n : Int) : dgs n 9 = (nums .u8 (dig9 n)).toArray := by simp [dgs, dgc, dig9, nums]
theorem dig9_digs (n : Int) : Digs (dig9 n) := by
  intro d hd
  unfold dig9 dgt at hd
  simp at hd
  rcases hd with rfl | rfl | rfl | rfl | rfl | rfl | rfl | rfl | rfl <;> omega
theorem horner_dig9 (pre : List Int) (n : Int) (h0 : 0 ≤ n) (h1 : n < 1000000000) : horner (pre ++ dig9 n) = horner pre * 1000000000 + n := by
  have e : pre ++ dig9 n = ((((((((pre ++ [dgt n 0]) ++ [dgt n 1]) ++ [dgt n 2]) ++ [dgt n 3]) ++ [dgt n 4]) ++ [dgt n 5]) ++ [dgt n 6]) ++ [dgt n 7]) ++ [dgt n 8] := by simp [dig9]
  rw [e]
  simp only [horner_snoc]
  unfold dgt
  simp only [Nat.reduceSub, Int.reducePow]
  omega

/-! ### Bytes -/
def toB (ds : List Int) : List UInt8 := ds.map fun d => UInt8.ofNat d.toNat
/-- Each is a byte. -/
def Byt (ds : List Int) : Prop := ∀ d ∈ ds, 0 ≤ d ∧ d < 256
theorem Digs.byt {ds : List Int} (h : Digs ds) : Byt ds := fun d hd => by have := h d hd; omega
theorem byteCells_toB (ds : List Int) (h : Byt ds) : Lib.byteCells (toB ds) = nums .u8 ds := by
  induction ds with
  | nil => rfl
  | cons d ds ih =>
    have hd := h d (by simp)
    have := ih fun x hx => h x (by simp [hx])
    simp only [Lib.byteCells, toB, nums, List.map_cons, List.map_map] at this ⊢
    rw [List.cons.injEq]
    refine ⟨?_, this⟩
    congr 1
    rw [UInt8.toNat_ofNat']
    omega
theorem toB_drop (ds : List Int) (h : Byt ds) : Lib.trimLeftB (toB ds) 48 = toB (ds.dropWhile (· == 48)) := by
  unfold Lib.trimLeftB toB
  induction ds with
  | nil => rfl
  | cons d ds ih =>
    have hd := h d (by simp)
    rw [List.map_cons, List.dropWhile_cons, List.dropWhile_cons]
    have e : (UInt8.ofNat d.toNat == 48) = (d == 48) := by
      rw [Bool.eq_iff_iff]
      simp only [beq_iff_eq]
      constructor
      · intro h2
        have := congrArg UInt8.toNat h2
        rw [UInt8.toNat_ofNat'] at this
        simp at this
        omega
      · rintro rfl; rfl
    rw [e]
    by_cases hc : (d == 48) = true
    · rw [hc]; exact ih fun x hx => h x (by simp [hx])
    · rw [Bool.not_eq_true] at hc
      rw [hc]; rfl

/-! ### Division by a word, from the top -/
/-- At the loop's head: the words from i on are divided. -/
structure DivAt (d : Int) (z0 zs : List Int) (k i : Nat) (r : Int) : Prop where
  len : zs.length = z0.length
  wd : Dv.Wd zs
  r0 : 0 ≤ r
  r1 : r < d
  low : ∀ j : Nat, j < i → rd zs (j : Int) = rd z0 (j : Int)
  high : ∀ j : Nat, k ≤ j → rd zs (j : Int) = 0
  eq : Dv.valW (z0.drop i) = Dv.valW (zs.drop i) * d + r
theorem valW_none (zs : List Int) (h : ∀ j : Nat, rd zs (j : Int) = 0) : Dv.valW zs = 0 := by
  induction zs with
  | nil => rfl
  | cons x xs ih =>
    have h0 := h 0
    have h1 := ih fun j => by have := h (j + 1); simpa [rd] using this
    simp [rd] at h0
    simp [Dv.valW, h0, h1]
theorem rd_drop (zs : List Int) (k j : Nat) : rd (zs.drop k) (j : Int) = rd zs ((k + j : Nat) : Int) := by
  unfold rd
  rw [Int.toNat_natCast, Int.toNat_natCast, List.getD_eq_getElem?_getD, List.getD_eq_getElem?_getD, List.getElem?_drop]
theorem DivAt.start (d : Int) (hd : 0 < d) (zs : List Int) (k : Nat) (hw : Dv.Wd zs) (h : ∀ j : Nat, k ≤ j → rd zs (j : Int) = 0) : DivAt d zs zs k k 0 :=
  ⟨rfl, hw, by omega, hd, fun _ _ => rfl, h, by rw [valW_none (zs.drop k) fun j => by rw [rd_drop]; exact h _ (by omega)]; omega⟩
theorem rd_set (zs : List Int) (i j : Nat) (x : Int) (hi : i < zs.length) : rd (zs.set i x) (j : Int) = if i = j then x else rd zs (j : Int) := by
  unfold rd
  rw [Int.toNat_natCast, List.getD_eq_getElem?_getD, List.getElem?_set]
  by_cases h : i = j
  · subst h; simp [hi]
  · rw [if_neg h, if_neg h, List.getD_eq_getElem?_getD]
theorem DivAt.step {d : Int} {z0 zs : List Int} {k i : Nat} {r : Int} (h : DivAt d z0 zs k (i + 1) r) (hd1 : d ≤ 4294967296) (hk : i < k) (hi : i < z0.length) (hw0 : Dv.Wd z0) :
    DivAt d z0 (zs.set i ((r * 4294967296 + rd z0 (i : Int)) / d)) k i ((r * 4294967296 + rd z0 (i : Int)) % d) := by
  have hr0 := h.r0
  have hr1 := h.r1
  have hx := hw0.get (i : Int)
  have hi2 : i < zs.length := by rw [h.len]; exact hi
  obtain ⟨z, hz⟩ : ∃ z, z = r * 4294967296 + rd z0 (i : Int) := ⟨_, rfl⟩
  have z0' : 0 ≤ z := by omega
  have q0 : 0 ≤ z / d := Int.ediv_nonneg z0' (by omega)
  have q1 : z / d < 4294967296 := by
    apply Int.ediv_lt_of_lt_mul (by omega)
    have : (r + 1) * 4294967296 ≤ d * 4294967296 := Int.mul_le_mul_of_nonneg_right (by omega) (by omega)
    rw [Int.mul_comm 4294967296 d]; omega
  rw [← hz]
  refine ⟨by rw [List.length_set]; exact h.len, Wd_set h.wd i q0 q1, Int.emod_nonneg _ (by omega), Int.emod_lt_of_pos _ (by omega), fun j hj => ?_, fun j hj => ?_, ?_⟩
  · rw [rd_set _ _ _ _ hi2, if_neg (by omega)]; exact h.low j (by omega)
  · rw [rd_set _ _ _ _ hi2, if_neg (by omega)]; exact h.high j hj
  · have e1 : (zs.set i (z / d)).drop (i + 1) = zs.drop (i + 1) := by rw [List.drop_set_of_lt (by omega)]
    rw [Dv.valW_drop (xs := z0) (k := i) hi, Dv.valW_drop (xs := zs.set i (z / d)) (k := i) (by rw [List.length_set]; exact hi2), e1, h.eq, rd_set _ _ _ _ hi2, if_pos rfl, Int.add_mul, Int.add_mul]
    have e2 := Int.mul_ediv_add_emod z d
    rw [Int.mul_comm d (z / d)] at e2
    have e3 : Dv.valW (zs.drop (i + 1)) * d * 4294967296 = Dv.valW (zs.drop (i + 1)) * 4294967296 * d := by rw [Int.mul_assoc, Int.mul_comm d, Int.mul_assoc]
    omega
theorem DivAt.done {d : Int} {z0 zs : List Int} {k : Nat} {r : Int} (h : DivAt d z0 zs k 0 r) : Dv.valW z0 = Dv.valW zs * d + r ∧ Dv.valW zs = Dv.valW z0 / d ∧ r = Dv.valW z0 % d := by
  have e := h.eq
  rw [List.drop_zero, List.drop_zero] at e
  have r0 := h.r0
  have r1 := h.r1
  refine ⟨e, ?_, ?_⟩
  · rw [e, Int.add_comm, Int.add_mul_ediv_right _ _ (by omega), Int.ediv_eq_zero_of_lt r0 r1, Int.zero_add]
  · rw [e, Int.add_comm, Int.add_mul_emod_self_right, Int.emod_eq_of_lt r0 r1]
/-- Noughts at the end may be left out first. -/
theorem trim_take (zs : List Int) (k : Nat) (h : ∀ j : Nat, k ≤ j → rd zs (j : Int) = 0) : trimLen (zs.take k) = trimLen zs := by
  generalize hn : zs.length = n
  induction n generalizing zs with
  | zero => have : zs = [] := List.length_eq_zero_iff.1 hn; subst this; simp
  | succ n ih =>
    rcases List.eq_nil_or_concat zs with rfl | ⟨ini, x, rfl⟩
    · simp at hn
    · rw [List.concat_eq_append] at hn h ⊢
      have hl : ini.length = n := by simpa using hn
      by_cases hk : k ≤ ini.length
      · have hx := h ini.length hk
        have hx0 : x = 0 := by simpa [rd] using hx
        subst hx0
        rw [trimLen_zero, List.take_append_of_le_length hk]
        refine ih ini (fun j hj => ?_) hl
        have := h j hj
        by_cases hj2 : j < ini.length
        · unfold rd at this ⊢
          rw [Int.toNat_natCast] at this ⊢
          rw [List.getD_eq_getElem?_getD, List.getElem?_append_left hj2, ← List.getD_eq_getElem?_getD] at this
          exact this
        · unfold rd
          rw [Int.toNat_natCast, List.getD_eq_getElem?_getD, List.getElem?_eq_none (by omega)]; rfl
      · rw [List.take_of_length_le (by simp; omega)]
/-- Behind the trimmed length there are noughts. -/
theorem trim_high (zs : List Int) (j : Nat) (h : trimLen zs ≤ j) : rd zs (j : Int) = 0 := by
  generalize hn : zs.length = n
  induction n generalizing zs with
  | zero => have : zs = [] := List.length_eq_zero_iff.1 hn; subst this; simp [rd]
  | succ n ih =>
    rcases List.eq_nil_or_concat zs with rfl | ⟨ini, x, rfl⟩
    · simp at hn
    · rw [List.concat_eq_append] at hn h ⊢
      have hl : ini.length = n := by simpa using hn
      unfold rd
      rw [Int.toNat_natCast]
      by_cases hx : x = 0
      · subst hx
        rw [trimLen_zero] at h
        by_cases hj2 : j < ini.length
        · rw [List.getD_eq_getElem?_getD, List.getElem?_append_left hj2, ← List.getD_eq_getElem?_getD]
          have := ih ini h hl
          unfold rd at this
          rw [Int.toNat_natCast] at this
          exact this
        · by_cases hj3 : j = ini.length
          · subst hj3; simp
          · rw [List.getD_eq_getElem?_getD, List.getElem?_eq_none (by simp; omega)]; rfl
      · rw [trimLen_not _ _ hx] at h
        rw [List.getD_eq_getElem?_getD, List.getElem?_eq_none (by simp; omega)]; rfl

/-! ### The pieces of a number -/
def valP : List Int → Int
  | [] => 0
  | x :: xs => x + 1000000000 * valP xs
theorem valP_snoc (xs : List Int) (x : Int) : valP (xs ++ [x]) = valP xs + 1000000000 ^ xs.length * x := by
  induction xs with
  | nil => simp [valP]
  | cons y ys ih =>
    simp only [List.cons_append, valP, ih, List.length_cons, Int.pow_succ, Int.mul_add]
    rw [Int.mul_comm (1000000000 ^ ys.length) 1000000000, Int.mul_assoc]
    omega
/-- Each is a piece. -/
def Pcs (ps : List Int) : Prop := ∀ x ∈ ps, 0 ≤ x ∧ x < 1000000000
theorem Pcs.snoc {ps : List Int} {x : Int} (h : Pcs ps) (h0 : 0 ≤ x) (h1 : x < 1000000000) : Pcs (ps ++ [x]) := fun y hy => by
  rcases List.mem_append.1 hy with hy | hy
  · exact h y hy
  · simp at hy; subst hy; exact ⟨h0, h1⟩
theorem valP_nonneg : ∀ (ps : List Int), Pcs ps → 0 ≤ valP ps
  | [], _ => by simp [valP]
  | x :: xs, h => by
    have h1 := h x (by simp)
    have h2 := valP_nonneg xs fun y hy => h y (by simp [hy])
    simp only [valP]; omega
/-- The signs of pieces, the highest piece first. -/
def outP (ps : List Int) : List Int := ps.reverse.flatMap dig9
theorem outP_digs (ps : List Int) : Digs (outP ps) := by
  intro d hd
  obtain ⟨x, _, hx⟩ := List.mem_flatMap.1 hd
  exact dig9_digs x d hx
theorem outP_val (ps : List Int) (h : Pcs ps) : horner (outP ps) = valP ps := by
  induction ps with
  | nil => rfl
  | cons x xs ih =>
    have h1 := h x (by simp)
    unfold outP at ih ⊢
    rw [List.reverse_cons, List.flatMap_append, List.flatMap_cons, List.flatMap_nil, List.append_nil, horner_dig9 _ _ h1.1 h1.2, ih fun y hy => h y (by simp [hy])]
    simp only [valP]; omega
/-- At the outer loop's head. -/
structure TextAt (V : Int) (zs ps : List Int) (k : Nat) : Prop where
  wd : Dv.Wd zs
  k0 : trimLen zs = k
  pcs : Pcs ps
  eq : V = valP ps + 1000000000 ^ ps.length * Dv.valW zs
theorem TextAt.few {V : Int} {zs ps : List Int} {k t : Nat} (h : TextAt V zs ps k) (hk : 0 < k) (hV : V < 2 ^ (32 * t)) : ps.length < 2 * t := by
  have h1 := trim_pos h.wd (by have := h.k0; omega)
  have h2 := valP_nonneg ps h.pcs
  have hp : (0 : Int) < 1000000000 ^ ps.length := Int.pow_pos (by omega)
  have h3 : (1000000000 : Int) ^ ps.length * 1 ≤ 1000000000 ^ ps.length * Dv.valW zs := Int.mul_le_mul_of_nonneg_left (by omega) (by omega)
  have h4 : (2 : Int) ^ (29 * ps.length) ≤ 1000000000 ^ ps.length := by
    rw [Int.pow_mul]
    generalize ps.length = n
    induction n with
    | zero => simp
    | succ n ih =>
      rw [Int.pow_succ, Int.pow_succ]
      have a : (0 : Int) < 1000000000 ^ n := Int.pow_pos (by decide)
      exact Int.mul_le_mul ih (show (2 : Int) ^ 29 ≤ 1000000000 by decide) (show (0 : Int) ≤ 2 ^ 29 by decide) (Int.le_of_lt a)
  have he := h.eq
  have h5 : (2 : Int) ^ (29 * ps.length) < 2 ^ (32 * t) := by omega
  have h6 : 29 * ps.length < 32 * t := by
    rcases Nat.lt_or_ge (29 * ps.length) (32 * t) with h | h
    · exact h
    · exfalso
      have e : 29 * ps.length = 32 * t + (29 * ps.length - 32 * t) := by omega
      rw [e, Int.pow_add] at h5
      have p := Dv.pow_pos' (32 * t)
      have q := Dv.pow_pos' (29 * ps.length - 32 * t)
      have : (2 : Int) ^ (32 * t) * 1 ≤ 2 ^ (32 * t) * 2 ^ (29 * ps.length - 32 * t) := Int.mul_le_mul_of_nonneg_left (by omega) (by omega)
      omega
  omega
theorem TextAt.step {V : Int} {z0 zs ps : List Int} {k : Nat} {r : Int} (h : TextAt V z0 ps k) (hd : DivAt 1000000000 z0 zs k 0 r) : TextAt V zs (ps ++ [r]) (trimLen (zs.take k)) := by
  obtain ⟨e, _, _⟩ := hd.done
  refine ⟨hd.wd, (trim_take zs k hd.high).symm, h.pcs.snoc hd.r0 hd.r1, ?_⟩
  rw [h.eq, e, valP_snoc, List.length_append, List.length_singleton, Int.pow_succ, Int.mul_add]
  rw [show (1000000000 : Int) ^ ps.length * (Dv.valW zs * 1000000000) = 1000000000 ^ ps.length * 1000000000 * Dv.valW zs by rw [Int.mul_comm (Dv.valW zs), Int.mul_assoc]]
  omega
theorem TextAt.last {V : Int} {zs ps : List Int} (h : TextAt V zs ps 0) : (outP ps).dropWhile (· == 48) = decI V.toNat := by
  rw [dec_of _ (outP_digs ps), outP_val ps h.pcs]
  have := h.eq
  rw [trim_zero h.k0, Int.mul_zero, Int.add_zero] at this
  rw [this]
/-- The text of a number. -/
def textI (neg : Bool) (xs : List Int) : List Int := if Dv.valW xs = 0 then [48] else (if neg then [45] else []) ++ decI (Dv.valW xs).toNat
end Go.Proofs.YtiofeehcnegejaaDoor
