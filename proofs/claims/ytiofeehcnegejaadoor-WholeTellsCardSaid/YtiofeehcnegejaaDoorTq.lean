/- Plain: a text taken apart, and what is written of the number that it writes. No program in sight. -/
import Derived.Test.YtiofeehcnegejaaDoorRdA
namespace Go.Proofs.YtiofeehcnegejaaDoor
open Go.RowKit Go.Proofs.YtiofeehcnegejaaDoorW.PrintWords
set_option linter.unusedVariables false
set_option linter.unusedSimpArgs false

def negS (s : ByteArray) : Bool := Lib.hasPrefix s.data.toList [45]
def restS (s : ByteArray) : ByteArray := ⟨(Lib.trimPrefix s.data.toList [45]).toArray⟩
theorem ba_ext {a b : ByteArray} (h : a.data.toList = b.data.toList) : a = b := by
  cases a with | mk x => cases b with | mk y =>
  simp at h
  rw [h]
theorem size_list (s : ByteArray) : s.size = s.data.toList.length := (Array.length_toList (xs := s.data)).symm
theorem neg_split (s : ByteArray) : s.data.toList = (if negS s then [45] else []) ++ (restS s).data.toList := by
  unfold negS restS Lib.trimPrefix Lib.hasPrefix
  cases h : s.data.toList with
  | nil => simp
  | cons x t =>
    by_cases hx : (45 == x) = true
    · have : x = 45 := (beq_iff_eq.1 hx).symm
      subst this; simp [List.isPrefixOf]
    · rw [Bool.not_eq_true] at hx
      simp [List.isPrefixOf, hx]
theorem neg_first (s : ByteArray) (h : negS s = false) : s.size = 0 ∨ ∃ h : 0 < s.size, ((s[0]'h).toNat : Int) ≠ 45 := by
  unfold negS Lib.hasPrefix at h
  by_cases hz : s.size = 0
  · exact .inl hz
  · refine .inr ⟨by omega, fun e => ?_⟩
    have hp : 0 < s.size := by omega
    cases hl : s.data.toList with
    | nil => have h9 := size_list s; rw [hl] at h9; exact absurd h9 hz
    | cons x t =>
      rw [hl] at h
      have hx : s[0]'hp = x := by
        have h0 : s.data.toList[0]? = some (s[0]'hp) := by
          rw [List.getElem?_eq_getElem (by rw [← size_list]; exact hp)]; rfl
        rw [hl] at h0
        simpa using h0.symm
      rw [hx] at e
      have hx2 : x = 45 := UInt8.toNat_inj.1 (by show x.toNat = 45; omega)
      subst hx2
      simp [List.isPrefixOf] at h
theorem neg_true (s : ByteArray) (h : negS s = true) : ∃ h : 0 < s.size, ((s[0]'h).toNat : Int) = 45 ∧ s.extract 1 s.size = restS s := by
  have hsp := neg_split s
  rw [h] at hsp
  simp only [if_true] at hsp
  have hp : 0 < s.size := by rw [size_list, hsp]; simp
  refine ⟨hp, ?_, ?_⟩
  · have h0 : s.data.toList[0]? = some (s[0]'hp) := by
      rw [List.getElem?_eq_getElem (by rw [← size_list]; exact hp)]; rfl
    rw [hsp] at h0
    have : s[0]'hp = 45 := by simpa using h0.symm
    rw [this]; rfl
  · apply ba_ext
    have hd : (s.extract 1 s.size).data.toList = s.data.toList.drop 1 := by
      rw [ByteArray.data_extract]
      simp
      apply List.take_of_length_le
      rw [List.length_tail, ← size_list]; exact Nat.le_refl _
    rw [hd, hsp]
    simp
theorem rest_sgD (d : ByteArray) : toB (sgD d d.size) = d.data.toList := by
  apply List.ext_getElem
  · rw [← size_list]; simp [toB, sgD]
  · intro i h1 h2
    have hi : i < d.size := by rw [size_list]; exact h2
    simp only [toB, sgD, List.getElem_map, List.getElem_range]
    rw [bt_eq hi, Int.toNat_natCast]
    have : d[i]'hi = d.data.toList[i]'h2 := rfl
    rw [this]
    exact UInt8.ofNat_toNat
theorem sgD_head (d : ByteArray) (k : Nat) (hk : 0 < k) : (sgD d k).head? = some (bt d 0) := by
  obtain ⟨k, rfl⟩ : ∃ j, k = j + 1 := ⟨k - 1, by omega⟩
  unfold sgD
  rw [List.range_succ_eq_map]
  simp
theorem good_text {d : ByteArray} {neg : Bool} (h : ¬ BadD d neg) : toB (textV (sgnI neg (valD d d.size))) = (if neg then [45] else []) ++ d.data.toList := by
  have hdig : DigB d d.size := Classical.byContradiction fun e => h (.inr (.inr e))
  have hz : 0 < d.size := Nat.pos_of_ne_zero fun e => h (.inl e)
  by_cases h48 : bt d 0 = 48
  · have h2 : neg = false ∧ d.size = 1 := by
      have hn : ¬ (neg = true ∨ 1 < d.size) := fun e => h (.inr (.inl ⟨h48, e⟩))
      refine ⟨?_, ?_⟩
      · cases neg
        · rfl
        · exact absurd (.inl rfl) hn
      · have : ¬ 1 < d.size := fun e => hn (.inr e)
        omega
    obtain ⟨rfl, hs⟩ := h2
    rw [← rest_sgD, hs]
    have e : sgD d 1 = [48] := by
      have : sgD d 1 = [bt d ((0 : Nat) : Int)] := by simp [sgD, List.range_succ]
      rw [this]
      have e0 : bt d ((0 : Nat) : Int) = bt d 0 := rfl
      rw [e0, h48]
    have ev : valD d 1 = 0 := by unfold valD; rw [e]; rfl
    rw [ev, e]
    rfl
  · have hl : NoLead (sgD d d.size) := by unfold NoLead; rw [sgD_head d _ hz]; intro e; injection e with e; exact h48 e
    have hne : sgD d d.size ≠ [] := fun e => by have := sgD_head d _ hz; rw [e] at this; cases this
    have hp := horner_pos _ hdig.digs hl hne
    have hu := dec_unique _ hdig.digs hl
    have hv : (1 : Int) ≤ valD d d.size := hp
    unfold textV
    rw [if_neg (by unfold sgnI; cases neg <;> simp <;> omega), ← rest_sgD]
    have hna : (sgnI neg (valD d d.size)).natAbs = (horner (sgD d d.size)).toNat := by
      unfold sgnI
      have : valD d d.size = horner (sgD d d.size) := rfl
      cases neg <;> simp <;> omega
    rw [hna, hu]
    cases neg
    · rw [if_neg (by unfold sgnI; simp; omega)]; simp
    · rw [if_pos (by unfold sgnI; simp; omega)]; simp [toB]
end Go.Proofs.YtiofeehcnegejaaDoor
