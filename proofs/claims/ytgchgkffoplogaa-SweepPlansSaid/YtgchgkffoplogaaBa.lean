/- A set of numbers as bits: has, set. -/
import Derived.Test.YtgchgkffoplogaaVj
import Derived.Lib.BitFns
namespace Go.Proofs.Ytgchgkffoplogaa
open Go.RowKit Go.Proofs.YtgchgkffoplogaaW.PrintWords
set_option linter.unusedVariables false
set_option linter.unusedSimpArgs false

/-- Is a number's bit set? -/
def bitOf (ws : List Int) (i : Nat) : Bool := (rd ws ((i / 64 : Nat) : Int)).toNat.testBit (i % 64)
def WdOk (ws : List Int) : Prop := ∀ x ∈ ws, 0 ≤ x ∧ x ≤ 18446744073709551615
theorem WdOk.at_ {ws : List Int} (h : WdOk ws) (i : Int) : 0 ≤ rd ws i ∧ rd ws i ≤ 18446744073709551615 := by
  unfold rd
  rw [List.getD_eq_getElem?_getD]
  cases e : ws[i.toNat]? with
  | none => simp
  | some x => exact h x (List.mem_of_getElem? e)

theorem has_bit (x : Int) (k : Nat) (h0 : 0 ≤ x) (h1 : x ≤ 18446744073709551615) : (bits .and .u64 (x / 2 ^ k) 1 == 1) = x.toNat.testBit k := by
  obtain ⟨a, rfl⟩ := Int.eq_ofNat_of_zero_le h0
  have e : ((a : Int) / 2 ^ k) = ((a / 2 ^ k : Nat) : Int) := by
    rw [show ((2 : Int) ^ k) = ((2 ^ k : Nat) : Int) by rw [Int.natCast_pow]; rfl, ← Int.natCast_ediv]
  have hle : a / 2 ^ k ≤ a := Nat.div_le_self _ _
  rw [e, u64_and _ 1 (Int.natCast_nonneg _) (by generalize a / 2 ^ k = q at *; omega) (by omega) (by omega), Int.toNat_natCast, Int.toNat_natCast, show (1 : Int).toNat = 1 from rfl, Nat.and_one_is_mod, Nat.testBit_eq_decide_div_mod_eq]
  rcases Nat.mod_two_eq_zero_or_one (a / 2 ^ k) with h | h <;> rw [h] <;> rfl

set_option maxRecDepth 4000 in
theorem set_bit (x : Int) (k j : Nat) (hk : k < 64) (h0 : 0 ≤ x) (h1 : x ≤ 18446744073709551615) :
    (bits .or .u64 x (IntKind.u64.wrap (2 ^ k))).toNat.testBit j = (x.toNat.testBit j || decide (k = j)) ∧ 0 ≤ bits .or .u64 x (IntKind.u64.wrap (2 ^ k)) ∧ bits .or .u64 x (IntKind.u64.wrap (2 ^ k)) ≤ 18446744073709551615 := by
  obtain ⟨a, rfl⟩ := Int.eq_ofNat_of_zero_le h0
  have hp : (2 : Nat) ^ k < 2 ^ 64 := Nat.pow_lt_pow_right (by decide) hk
  have e : (2 ^ k : Int) = ((2 ^ k : Nat) : Int) := by rw [Int.natCast_pow]; rfl
  have hw : IntKind.u64.wrap (2 ^ k) = ((2 ^ k : Nat) : Int) := by
    rw [e, IntKind.wrap_u64]
    exact Int.emod_eq_of_lt (Int.natCast_nonneg _) (by have : (2 : Nat) ^ 64 = 18446744073709551616 := by decide
                                                       generalize (2 : Nat) ^ k = q at *; omega)
  have h64 : (2 : Nat) ^ 64 = 18446744073709551616 := by decide
  have hq : ((2 ^ k : Nat) : Int) ≤ 18446744073709551615 := by generalize (2 : Nat) ^ k = q at *; omega
  have ha : (a : Int) ≤ 18446744073709551615 := h1
  have hlt := Nat.or_lt_two_pow (x := a) (y := 2 ^ k) (n := 64) (Nat.lt_of_le_of_lt (Int.ofNat_le.1 ha) (by decide)) hp
  have hle : a ||| 2 ^ k ≤ 18446744073709551615 := Nat.le_trans (Nat.le_sub_one_of_lt hlt) (Nat.le_of_eq (by decide))
  rw [hw, u64_or _ _ (Int.natCast_nonneg _) (by omega) (Int.natCast_nonneg _) (by omega), Int.toNat_natCast, Int.toNat_natCast, Int.toNat_natCast, Nat.testBit_or, Nat.testBit_two_pow]
  exact ⟨rfl, Int.natCast_nonneg _, Int.ofNat_le.2 hle⟩

/-- The bits behind a set. -/
theorem bitOf_set (ws : List Int) (i j : Nat) (hw : WdOk ws) (hi : i / 64 < ws.length) :
    bitOf (ws.set (i / 64) (bits .or .u64 (rd ws ((i / 64 : Nat) : Int)) (IntKind.u64.wrap (2 ^ (i % 64))))) j = (bitOf ws j || decide (i = j)) := by
  have hb := hw.at_ ((i / 64 : Nat) : Int)
  have hs := fun q => (set_bit (rd ws ((i / 64 : Nat) : Int)) (i % 64) q (Nat.mod_lt _ (by decide)) hb.1 hb.2).1
  unfold bitOf
  by_cases he : i / 64 = j / 64
  · have e1 : ∀ v, rd (ws.set (i / 64) v) ((j / 64 : Nat) : Int) = v := fun v => by
      unfold rd
      rw [List.getD_eq_getElem?_getD, Int.toNat_natCast, ← he, List.getElem?_set_self hi]; rfl
    rw [e1, hs, he]
    congr 1
    by_cases hij : i = j
    · simp [hij]
    · have : i % 64 ≠ j % 64 := by omega
      simp [hij, this]
  · have e1 : ∀ v, rd (ws.set (i / 64) v) ((j / 64 : Nat) : Int) = rd ws ((j / 64 : Nat) : Int) := fun v => by
      unfold rd
      rw [List.getD_eq_getElem?_getD, List.getD_eq_getElem?_getD, Int.toNat_natCast, List.getElem?_set_ne he]
    have hij : i ≠ j := fun e => he (by rw [e])
    rw [e1]; simp [hij]
theorem WdOk.set_ (ws : List Int) (i : Nat) (hw : WdOk ws) : WdOk (ws.set (i / 64) (bits .or .u64 (rd ws ((i / 64 : Nat) : Int)) (IntKind.u64.wrap (2 ^ (i % 64))))) := by
  intro x hx
  rcases List.mem_or_eq_of_mem_set hx with h | rfl
  · exact hw x h
  · have hb := hw.at_ ((i / 64 : Nat) : Int)
    exact (set_bit _ (i % 64) 0 (Nat.mod_lt _ (by decide)) hb.1 hb.2).2

theorem bhas_any {w : World} {base g c : Nat} {ws : List Int} {i : Nat} (ho : w.ownsRow base 98 1 (.slice (some ⟨g, 0, none⟩) ws.length c) ws.length (nums .u64 ws)) (hw : WdOk ws) (hi : i / 64 < ws.length) (hil : i ≤ 1000000) :
    Calls Try.prog 55 #[.slice (some ⟨g, 0, none⟩) ws.length c, .int .i64 i] w fun e w' => e = .returned (.bool (bitOf ws i)) ∧ w = w' := by
  obtain ⟨hc, hf⟩ := own_at ho ((i / 64 : Nat) : Int) (by omega) (by omega)
  rw [Int.toNat_natCast] at hc hf
  have hb := hw.at_ ((i / 64 : Nat) : Int)
  have hx := has_bit (rd ws ((i / 64 : Nat) : Int)) (i % 64) hb.1 hb.2
  have he : bitOf ws i = (rd ws ((i / 64 : Nat) : Int)).toNat.testBit (i % 64) := rfl
  rw [← hx] at he
  have hk := Nat.mod_lt i (show 0 < 64 by decide)
  have p0 : (0 : Int) ≤ (i : Int) / 64 := by omega
  have p1 : (i : Int) / 64 < (ws.length : Int) := by omega
  have p2 : (0 : Int) ≤ (i : Int) % 64 := by omega
  have p3 : (i : Int) % 64 ≤ 64 := by omega
  rw [he]
  clear ho hb hx he
  go_enter Try.func55, Try.ntmps55
  go_wp2
  go_ret
  exact ⟨rfl, rfl⟩

theorem bset_any {w : World} {base g c : Nat} {ws : List Int} {i : Nat} (ho : w.ownsRow base 98 1 (.slice (some ⟨g, 0, none⟩) ws.length c) ws.length (nums .u64 ws)) (hw : WdOk ws) (hi : i / 64 < ws.length) (hil : i ≤ 1000000) :
    Calls Try.prog 56 #[.slice (some ⟨g, 0, none⟩) ws.length c, .int .i64 i] w fun e w' => e = .returned (.tuple #[]) ∧ ∃ ws', w'.ownsRow base 98 1 (.slice (some ⟨g, 0, none⟩) ws'.length c) ws'.length (nums .u64 ws') ∧ WdOk ws' ∧ ws'.length = ws.length ∧ (∀ j, bitOf ws' j = (bitOf ws j || decide (i = j))) ∧ Kept (fun k => k = g) w w' := by
  obtain ⟨hc, hf⟩ := own_at ho ((i / 64 : Nat) : Int) (by omega) (by omega)
  rw [Int.toNat_natCast] at hc hf
  have hs := own_store ho ((i / 64 : Nat) : Int) (bits .or .u64 (rd ws ((i / 64 : Nat) : Int)) (IntKind.u64.wrap (2 ^ (i % 64))))
  rw [Int.toNat_natCast] at hs
  have h1 := fun j => bitOf_set ws i j hw hi
  have h2 := hw.set_ ws i
  have H1 := Lib.hid h1; have H2 := Lib.hid h2; have Hs := Lib.hid hs
  have p0 : (0 : Int) ≤ (i : Int) / 64 := by omega
  have p1 : (i : Int) / 64 < (ws.length : Int) := by omega
  have p2 : (0 : Int) ≤ (i : Int) % 64 := by omega
  have p3 : (i : Int) % 64 ≤ 64 := by omega
  clear ho h1 h2 hs
  go_enter Try.func56, Try.ntmps56
  go_region
  go_end0
  have hl : (ws.set (i / 64) (bits .or .u64 (rd ws ((i / 64 : Nat) : Int)) (IntKind.u64.wrap (2 ^ (i % 64))))).length = ws.length := List.length_set ..
  exact ⟨rfl, _, by rw [hl]; exact own_move Hs.out.1 (fun _ _ => rfl), H2.out, hl, H1.out, ((Kept.refl (fun k => k = g) w).setCell (p := ⟨g, i / 64, none⟩) (.inl rfl) _).drew⟩
end Go.Proofs.Ytgchgkffoplogaa
