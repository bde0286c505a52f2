/- An argument that is a row of steps, opened. -/
import Derived.Test.YtgchgkffoplogaaNa
import Derived.Deep.Slices
import Derived.Deep.Fields
import Derived.ChangeSame
import Derived.OpenShut
namespace Go.Proofs.Ytgchgkffoplogaa
open Go.ChangeShapes Go.WideShapes Go.Deep Go.RowKit Go.Proofs.YtgchgkffoplogaaW.PrintWords
set_option linter.unusedVariables false

section
variable {H : Type} {enc : TypeId × Value → H} {P : Program} {w : World} {base : Nat} {spare : Nat → Bool} {held : Bool}
theorem open_slice_fields {t e : TypeId} {fs : Array Field} {fuel : Nat} {cs : List Value} {x : DataW H × List MemPlace} (ht : P.underlying t = some (.slice e)) (he : P.underlying e = some (.struct fs))
    (hone : oneCellFields P fs = true) (hC : P.cellsOf e = fs.size) (h : DataW.trod enc P w base spare held fuel t cs = some x) :
    (cs = [.slice none 0 0] ∧ x = (.nil, [])) ∨
    ∃ (a : Addr) (len cap m : Nat), cs = [.slice (some a) len cap] ∧ len ≤ cap ∧ cap ≤ maxLen ∧ len ≤ m ∧
      ∀ i, i < m → ∃ (n : Nat), ∀ (j : Nat) (f : Field), fs[j]? = some f → ∃ (v : Value) (y : DataW H × List MemPlace), w.cell? (a.add (i * fs.size + j)) = some v ∧ DataW.trod enc P w base spare held n f.type [v] = some y := by
  rcases open_slice ht h with h0 | ⟨a, len, cap, m, n, D, Pl, hcs, hb, hl, hm, hmm, hx, hi⟩
  · exact .inl h0
  · refine .inr ⟨a, len, cap, m, hcs, hl, hm, by rw [hmm]; split <;> omega, fun i him => ?_⟩
    obtain ⟨cs', hc, ht'⟩ := hi i him
    rw [hC] at hc
    obtain ⟨ys, n', hn', hy, hlen, hyl, hf⟩ := DataW.trod_struct he ht'
    obtain ⟨_, hcl, hat⟩ := World.cells?_some hc
    refine ⟨n', fun j f hj => ?_⟩
    obtain ⟨ho, hk⟩ := hone_of hone j f hj
    have hjl : j < fs.size := (Array.getElem?_eq_some_iff.1 hj).1
    have hcell := hat j hjl
    have hv : cs'[j]? = some (cs'[j]'(by omega)) := List.getElem?_eq_getElem (by omega)
    have h1 := hf j f hj
    rw [ho, hk] at h1
    have hone' : (cs'.drop j).take 1 = [cs'[j]'(by omega)] := by
      rw [List.drop_eq_getElem_cons (by omega)]
      rfl
    rw [hone'] at h1
    have hys : ys[j]? = some (ys[j]'(by omega)) := List.getElem?_eq_getElem (by omega)
    refine ⟨_, _, ?_, h1.trans hys⟩
    rw [← Go.Deep.add_add, hcell, hv]
end

theorem open_steps {H : Type} {enc : TypeId × Value → H} {w : World} {base : Nat} {spare : Nat → Bool} {held : Bool} {fuel : Nat} {A : Option Addr} {len cap : Nat} {x : DataW H × List MemPlace} (h : DataW.trod enc Try.prog w base spare held fuel 31 [.slice A len cap] = some x) :
    ∃ l : List StepV, len = l.length ∧ ReadsRow StepR 3 w A l.length l := by
  rcases open_slice_fields Try.underlying31 Try.underlying41 (by kernel_rfl) (by kernel_rfl) h with ⟨hcs, _⟩ | ⟨a, l, c, m, hcs, hl, hm, hlm, hc⟩
  · injection hcs with hcs _
    injection hcs with hA hlen _
    subst hA; subst hlen
    exact ⟨[], rfl, rfl, Nat.zero_le _, fun h => absurd h (Nat.lt_irrefl 0)⟩
  · injection hcs with hcs _
    injection hcs with hA hlen _
    subst hA; subst hlen
    have hget : ∀ i, i < len → ∃ s : StepV, ∀ k u, [Value.int .i64 s.1, .int .i64 s.2.1, .int .i64 s.2.2][k]? = some u → w.cell? (a.add (i * 3 + k)) = some u := by
      intro i hi
      obtain ⟨n, hf⟩ := hc i (by omega)
      obtain ⟨v0, y0, c0, r0⟩ := hf 0 _ rfl
      obtain ⟨v1, y1, c1, r1⟩ := hf 1 _ rfl
      obtain ⟨v2, y2, c2, r2⟩ := hf 2 _ rfl
      obtain ⟨n0, e0, _, _⟩ := DataW.trod_int Try.underlying3 r0
      obtain ⟨n1, e1, _, _⟩ := DataW.trod_int Try.underlying3 r1
      obtain ⟨n2, e2, _, _⟩ := DataW.trod_int Try.underlying3 r2
      injection e0 with e0 _; injection e1 with e1 _; injection e2 with e2 _
      subst e0; subst e1; subst e2
      refine ⟨(n0, n1, n2), fun k u hk => ?_⟩
      match k, hk with
      | 0, hk => injection hk with hk; subst hk; exact c0
      | 1, hk => injection hk with hk; subst hk; exact c1
      | 2, hk => injection hk with hk; subst hk; exact c2
      | k + 3, hk => simp at hk
    obtain ⟨f, hf⟩ := choose_lt hget
    refine ⟨(List.range len).map f, by simp, by simp, by simp [maxLen] at hm ⊢; omega, fun _ => ⟨a, rfl, fun j p hj => ?_⟩⟩
    rw [List.getElem?_map] at hj
    by_cases hjl : j < len
    · rw [List.getElem?_range hjl] at hj
      simp only [Option.map_some, Option.some.injEq] at hj
      subst hj
      exact ⟨_, rfl, rfl, hf j hjl⟩
    · rw [List.getElem?_eq_none (by simp; omega)] at hj
      cases hj
end Go.Proofs.Ytgchgkffoplogaa
