/- A slice of integers as a law's argument has it reads as its elements. -/
import Derived.Test.YtiofeehcnegejaaDigO
namespace Go.Proofs.Ytiofeehcnegejaa
open Go.RowKit Go.Proofs.YtiofeehcnegejaaW.PrintWords
set_option linter.unusedVariables false
theorem info3 : (Try.prog.info? 3).map (fun i => (i.zero, i.size, i.bytes)) = some (some (.int .i64 0), 1, 8) := by kernel_rfl
theorem row_reads {k : IntKind} {w : World} {a : Option Addr} {len cap : Nat} {zs : List Int}
    (h : (a = none ∧ len = 0 ∧ cap = 0 ∧ zs = []) ∨ ∃ x, a = some x ∧ len ≤ cap ∧ cap ≤ maxLen ∧ zs.length = cap ∧ (∀ i, i < zs.length → w.cell? (x.add i) = some (.int k (zs.getD i 0))) ∧ ∀ n ∈ zs, (Lit.int k n).wf = true) :
    ReadsInt w k a len (zs.take len) ∧ len ≤ cap ∧ len ≤ 9223372036854775807 := by
  rcases h with ⟨rfl, rfl, rfl, rfl⟩ | ⟨x, rfl, hl, hm, hz, hc, _⟩
  · exact ⟨⟨rfl, by omega, fun h => by omega⟩, by omega, by omega⟩
  · unfold maxLen at hm
    refine ⟨⟨by rw [List.length_take]; omega, by omega, fun _ => ⟨x, rfl, fun j hj => ?_⟩⟩, hl, by omega⟩
    rw [hc j (by omega)]
    rw [List.getD_eq_getElem?_getD, List.getD_eq_getElem?_getD, List.getElem?_take_of_lt hj]

/-- A row of one's own with one more at its end: its shape, its cut, what it reads. -/
theorem rows_in {i0 : TypeInfo} (hi0 : Try.prog.info? 3 = some i0) {W : World} {base : Nat} {v : Value} {zs : List Int} {y : Int} (h : W.ownsRow base 3 1 v (zs ++ [y]).length (nums .i64 (zs ++ [y]))) :
    ∃ g c, v = .slice (some ⟨g, 0, none⟩) (zs.length + 1) c ∧
      (∀ W : World, (Instr.slice 35 (.slice (some ⟨g, 0, none⟩) (zs.length + 1) c) none (some (.int .i64 (zs.length : Int))) none).run Try.prog W = .ok (.slice (some ⟨g, 0, none⟩) zs.length c) W) ∧
      ReadsInt W .i64 (some ⟨g, 0, none⟩) zs.length zs ∧ W.cell? ⟨g, zs.length, none⟩ = some (.int .i64 y) := by
  obtain ⟨g, c, rfl, _, _⟩ := h.form (by simp)
  obtain ⟨A, c', e, hr⟩ := own_reads h
  have hle := own_le h
  simp only [List.length_append, List.length_cons, List.length_nil, Nat.zero_add] at e hr hle ⊢
  obtain ⟨rfl, _, rfl⟩ := Value.slice.inj e
  have hcut := cut_to (P := Try.prog) 35 3 .i64 Try.underlying35 hi0 (some ⟨g, 0, none⟩) (zs.length + 1) c (zs.length : Int) (by omega) (by omega) hle
  rw [Int.toNat_natCast] at hcut
  have ht := hr.take_ zs.length (by omega)
  rw [List.take_left] at ht
  obtain ⟨ad, e2, hc⟩ := hr.at_ (zs.length : Int) (by omega) (by omega)
  cases e2
  rw [Int.toNat_natCast, add_plain] at hc
  refine ⟨g, c, rfl, hcut, ht, ?_⟩
  rw [hc]
  simp [rd]
end Go.Proofs.Ytiofeehcnegejaa
