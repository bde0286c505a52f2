/- Two rows that are one; rows of rows that came in; are they large? -/
import Derived.Test.YtgchgkffoplogaaCb
import Derived.Deep.Matrix
import Derived.OpenShut
namespace Go.Proofs.Ytgchgkffoplogaa
open Go.ChangeShapes Go.WideShapes Go.Deep Go.RowKit Go.Proofs.YtgchgkffoplogaaW.PrintWords
set_option linter.unusedVariables false
set_option linter.unusedSimpArgs false

set_option maxHeartbeats 400000 in
set_option maxRecDepth 100000 in
/-- Two lists that are one: true. -/
theorem same_any (A B : Option Addr) (c c' : Nat) (xs : List Int) (w : World) (hr : ReadsInt w .i64 A xs.length xs) (hr' : ReadsInt w .i64 B xs.length xs) :
    Calls Try.prog 29 #[.slice A xs.length c, .slice B xs.length c'] w fun e w' => e = .returned (.bool true) ∧ ∃ q, w' = w.drewN q := by
  have hn := hr.2.1
  have Hr := Lib.hid hr; clear hr
  have Hr' := Lib.hid hr'; clear hr'
  go_enter Try.func29, Try.ntmps29
  go_wp2
  go_loopw [5] (fun i wr => ∃ (k q : Nat), k ≤ xs.length ∧ i = .int .i64 k ∧ wr = w.drewN q) (fun i _ => xs.length - (intOf i).toNat)
  case atStart => exact ⟨0, 0, Nat.zero_le _, rfl, rfl⟩
  case round =>
    obtain ⟨k, q, hk, rfl, rfl⟩ := hrel
    by_cases hlt : k < xs.length
    · obtain ⟨ad, rfl, hc⟩ := Hr.out.at_ (k : Int) (by omega) (by omega)
      obtain ⟨bd, rfl, hc'⟩ := Hr'.out.at_ (k : Int) (by omega) (by omega)
      rw [Int.toNat_natCast] at hc hc'
      go_wp2
      go_quiet (fail)
      go_wp2
      go_roundw
      case rel => exact ⟨k + 1, _, by omega, by go_num, rfl⟩
      case measure => simp [intOf]; omega
    · go_wp2
      go_ret
      exact ⟨rfl, q, rfl⟩

/-- Rows of numbers that came in. -/
structure ArgRows (w : World) (A : Option Addr) (X : List (List Int)) : Prop where
  len : X.length ≤ 9223372036854775807
  get : 0 < X.length → ∃ ad, A = some ad ∧ ∀ i : Nat, i < X.length → ∃ Ai ci, w.cell? (ad.add i) = some (.slice Ai (X.getD i []).length ci) ∧ Elem w (fun k => k < w.heap.size) (.slice Ai (X.getD i []).length ci) (X.getD i [])
theorem ArgRows.at_ {w : World} {A : Option Addr} {X : List (List Int)} (h : ArgRows w A X) (i : Nat) (hi : i < X.length) : ∃ ad Ai ci, A = some ad ∧ w.cell? (ad.add i) = some (.slice Ai (X.getD i []).length ci) ∧ Elem w (fun k => k < w.heap.size) (.slice Ai (X.getD i []).length ci) (X.getD i []) := by
  obtain ⟨ad, e, h2⟩ := h.get (by omega)
  obtain ⟨Ai, ci, h3, h4⟩ := h2 i hi
  exact ⟨ad, Ai, ci, e, h3, h4⟩

theorem open_intss {H : Type} {enc : TypeId × Value → H} {w : World} {base : Nat} {held : Bool} {fuel : Nat} {A : Option Addr} {len cap : Nat} {x : DataW H × List MemPlace} (h : DataW.trod enc Try.prog w base (fun _ => true) held fuel 36 [.slice A len cap] = some x) :
    ∃ X : List (List Int), len = X.length ∧ ArgRows w A X := by
  rcases open_int_rows Try.underlying36 Try.underlying22 Try.underlying3 (by kernel_rfl) (by kernel_rfl) h with ⟨hcs, _⟩ | ⟨a, l, c, AA, LL, CC, ZZ, hcs, _, hl, hm, _, hget⟩
  · injection hcs with hcs _
    injection hcs with hA hlen _
    subst hA; subst hlen
    exact ⟨[], rfl, ⟨Nat.zero_le _, fun h => absurd h (Nat.lt_irrefl 0)⟩⟩
  · injection hcs with hcs _
    injection hcs with hA hlen _
    subst hA; subst hlen
    refine ⟨(List.range len).map (fun i => (ZZ i).take (LL i)), by simp, ⟨by simp [maxLen] at hm ⊢; omega, fun _ => ⟨a, rfl, fun i hi => ?_⟩⟩⟩
    have hil : i < len := by simpa using hi
    obtain ⟨h1, h2, h3, h4, _, h5, h6⟩ := hget i (by omega)
    have e : ((List.range len).map (fun i => (ZZ i).take (LL i))).getD i [] = (ZZ i).take (LL i) := by
      rw [List.getD_eq_getElem?_getD, List.getElem?_map, List.getElem?_range hil]; rfl
    have el : ((ZZ i).take (LL i)).length = LL i := by rw [List.length_take]; omega
    rw [e, el]
    refine ⟨AA i, CC i, h1, AA i, CC i, by rw [el], by rw [el]; exact h2, ⟨rfl, by rw [el]; simp [maxLen] at h3; omega, fun hp => ?_⟩, fun hp ad hA => ?_⟩
    · rw [el] at hp
      cases hA : AA i with
      | none => have := h5 hA; omega
      | some a' =>
        refine ⟨a', rfl, fun j hj => ?_⟩
        rw [el] at hj
        rw [(h6 a' hA).2 j (by omega)]
        rw [List.getD_eq_getElem?_getD, List.getD_eq_getElem?_getD, List.getElem?_take, if_pos hj]
    · rw [el] at hp
      have hb := World.block_lt_of_cell? w _ ((h6 ad hA).2 0 (by omega))
      have hbe : (ad.add 0).block = ad.block := by unfold Addr.add; split <;> rfl
      rw [hbe] at hb
      exact hb

/-- More than is looked at? -/
def largeB (X : List (List Int)) (n : Nat) : Bool := decide (200 < X.length) || decide (200 < n) || X.any (fun x => decide (60 < x.length))
theorem small_of {X : List (List Int)} {n : Nat} (h : largeB X n = false) : X.length ≤ 200 ∧ n ≤ 200 ∧ ∀ i : Nat, (X.getD i []).length ≤ 60 := by
  simp only [largeB, Bool.or_eq_false_iff, decide_eq_false_iff_not, Nat.not_lt] at h
  refine ⟨h.1.1, h.1.2, fun i => ?_⟩
  rw [List.getD_eq_getElem?_getD]
  cases e : X[i]? with
  | none => simp
  | some x =>
    have := List.any_eq_false.1 h.2 x (List.mem_of_getElem? e)
    simpa using this

set_option maxHeartbeats 400000 in
set_option maxRecDepth 100000 in
theorem large_any {w : World} {A B : Option Addr} {X : List (List Int)} (h : ArgRows w A X) (c n c' : Nat) (hn : n ≤ 9223372036854775807) :
    Calls Try.prog 24 #[.slice A X.length c, .slice B n c'] w fun e w' => e = .returned (.bool (largeB X n)) ∧ w = w' := by
  have hX := h.len
  have H := Lib.hid h; clear h
  by_cases h1 : 200 < X.length
  · have e : largeB X n = true := by simp [largeB, h1]
    have E := Lib.hid e; clear e
    rw [E.out]
    go_enter Try.func24, Try.ntmps24
    go_wp2
    go_ret
    exact ⟨rfl, rfl⟩
  by_cases h2 : 200 < n
  · have e : largeB X n = true := by simp [largeB, h2]
    have E := Lib.hid e; clear e
    rw [E.out]
    go_enter Try.func24, Try.ntmps24
    go_wp2
    go_ret
    exact ⟨rfl, rfl⟩
  have e : largeB X n = X.any (fun x => decide (60 < x.length)) := by simp [largeB, h1, h2]
  have E := Lib.hid e; clear e
  rw [E.out]
  go_enter Try.func24, Try.ntmps24
  go_wp2
  go_loopw [5] (fun i wr => ∃ k : Nat, k ≤ X.length ∧ i = .int .i64 k ∧ wr = w ∧ Hid (∀ j : Nat, j < k → (X.getD j []).length ≤ 60)) (fun i _ => X.length - (intOf i).toNat)
  case atStart => exact ⟨0, Nat.zero_le _, rfl, rfl, Lib.hid (fun j hj => by omega)⟩
  case round =>
    obtain ⟨k, hk, rfl, rfl, HA⟩ := hrel
    by_cases hlt : k < X.length
    · obtain ⟨ad, Ai, ci, rfl, hc, hel⟩ := H.out.at_ k hlt
      have p0 : (0 : Int) ≤ (k : Int) := by omega
      have p1 : (k : Int) < (X.length : Int) := by omega
      clear hel
      obtain ⟨m, hm⟩ : ∃ m, m = (X.getD k []).length := ⟨_, rfl⟩
      rw [← hm] at hc
      have Hm := Lib.hid hm
      clear hm
      by_cases h60 : 60 < m
      · have hany : X.any (fun x => decide (60 < x.length)) = true := by
          rw [List.any_eq_true]
          refine ⟨X[k], List.getElem_mem hlt, ?_⟩
          have : (X.getD k []) = X[k] := by rw [List.getD_eq_getElem?_getD, List.getElem?_eq_getElem hlt]; rfl
          rw [← this, ← Hm.out]; simpa using h60
        have Hany := Lib.hid hany; clear hany
        have p2 : (60 : Int) < (m : Int) := by omega
        go_wp2
        go_ret
        exact ⟨by rw [Hany.out]; rfl, rfl⟩
      · have p2 : ¬ (60 : Int) < (m : Int) := by omega
        go_wp2
        go_roundw
        case rel =>
          refine ⟨k + 1, by omega, by go_num, trivial, Lib.hid (fun j hj => ?_)⟩
          by_cases e : j = k
          · subst e; rw [← Hm.out]; omega
          · exact HA.out j (by omega)
        case measure => simp [intOf]; omega
    · have hany : X.any (fun x => decide (60 < x.length)) = false := by
        rw [List.any_eq_false]
        intro x hx
        obtain ⟨i, hi, rfl⟩ := List.getElem_of_mem hx
        have := HA.out i (by omega)
        rw [List.getD_eq_getElem?_getD, List.getElem?_eq_getElem hi] at this
        simpa using this
      have Hany := Lib.hid hany; clear hany
      have p2 : ¬ (k : Int) < (X.length : Int) := by omega
      go_wp2
      go_ret
      exact ⟨by rw [Hany.out]; rfl, rfl⟩
end Go.Proofs.Ytgchgkffoplogaa
