/- The law SlotsTwo: a copy of a reference is made. -/
import Derived.Test.YtgchgkffoplogaaEa
namespace Go.Proofs.Ytgchgkffoplogaa
open Go.RowKit Go.Proofs.YtgchgkffoplogaaW.PrintWords
set_option linter.unusedVariables false
set_option linter.unusedSimpArgs false

/-- append(v, ys...) at a step of a drawn region: elements that are values of one cell each. -/
theorem step_append_vals {P : Program} {ops : Array Oper} {o : Oper} {a : Act} {Q : Exit → Act → World → Prop} {Kc : Act → World → Prop} {w0 W : World} (base : Nat) (hw : Region.wanted o (yielded ops a.tmps) = true) (s x : Operand) (t e : TypeId) (z : Value) (bytes : Nat)
    (ho : o.op = .call { callee := .builtin .append, args := #[s, x], argTypes := #[t, t] })
    (ht : P.underlying t = some (.slice e)) (hinfo : (P.info? e).map (fun i => (i.zero, i.size, i.bytes)) = some (some z, 1, bytes)) (hz : z.cells.size = 1) (hb0 : 0 < bytes)
    (v : Value) (xs ys : List Value) (A : Option Addr) (m c : Nat) (hs : a.eval s = v) (hx : a.eval x = .slice A m c) (h1 : ∀ u ∈ ys, u.oneCell' = true)
    (HO : W.ownsRow base e 1 v xs.length xs) (hm : ys.length = m) (HR : 0 < m → ∃ ad, A = some ad ∧ ∀ j u, ys[j]? = some u → W.cell? (ad.add j) = some u) (HB : Below base w0 W) (hbase : base ≤ W.heap.size) (hl : (xs.length + m) * bytes ≤ 140737488355328)
    (h : ∀ v1 w1, w1.ownsRow base e 1 v1 (xs ++ ys).length (xs ++ ys) → Below base w0 w1 → W.grownBy w1 v.ownBlock → (v1.ownBlock = v.ownBlock ∨ ∃ b, v1.ownBlock = some b ∧ W.heap.size ≤ b) → Kc (a.put o.dst v1) w1) :
    if Region.wanted o (yielded ops a.tmps) = true then Oper.wp P o a W Kc Q else Kc (a.put o.dst undef) W := by
  obtain ⟨i0, hi, hzz⟩ := Option.map_eq_some_iff.1 hinfo
  simp only [Prod.mk.injEq] at hzz
  obtain ⟨hz0, hz1, hz2⟩ := hzz
  have hlen : xs.length + m ≤ 140737488355328 := Nat.le_trans (Nat.le_mul_of_pos_right _ hb0) hl
  have hrun : ∃ v1 w1, (Builtin.append_ #[t, t] o.type #[v, .slice A m c]).run P W = .ok v1 w1 ∧ w1.ownsRow base e 1 v1 (xs ++ ys).length (xs ++ ys) ∧ W.grownBy w1 v.ownBlock ∧ (v1.ownBlock = v.ownBlock ∨ ∃ b, v1.ownBlock = some b ∧ W.heap.size ≤ b) := by
    rcases A with _ | ad
    · have h0 : m = 0 := by
        rcases Nat.eq_zero_or_pos m with h0 | h0
        · exact h0
        · obtain ⟨ad, h, _⟩ := HR h0
          cases h
      subst h0
      obtain rfl : ys = [] := List.eq_nil_of_length_eq_zero hm
      refine ⟨v, W, ?_, by simpa using HO, World.grownBy.refl W _, .inl rfl⟩
      rcases HO.2 with ⟨rfl, hn⟩ | ⟨g, cap, cur, rfl, _, _, hnc, _⟩
      · simp [Builtin.append_, run_underlying ht, sizeOf, typeInfo, hi, Builtin.lenOf, Builtin.firstCells]
      · simp [Builtin.append_, run_underlying ht, sizeOf, typeInfo, hi, Builtin.lenOf, Builtin.firstCells, hnc, storeCells]
    · have hcells : ∀ j u, ys[j]? = some u → W.cell? (ad.add j) = some u := by
        intro j u hu
        have hj : j < ys.length := (List.getElem?_eq_some_iff.1 hu).1
        obtain ⟨ad', he, hc⟩ := HR (by omega)
        injection he with he
        subst he
        exact hc j u hu
      obtain ⟨v1, w1, hrun, h2, hg, _, hat⟩ := run_append_own_at (P := P) W base t o.type e i0 z 1 bytes ht hi hz0 hz1 hz2 hz (by decide) v xs.length xs HO ad m c ys (by omega) hcells h1 (by simp only [maxLen]; omega) hl hbase
      refine ⟨v1, w1, hrun, by rw [List.length_append, hm]; exact h2, hg, ?_⟩
      rcases hat with hat | hat
      · exact .inl hat
      · exact .inr ⟨_, hat, Nat.le_refl _⟩
  obtain ⟨v1, w1, hr1, h1, hg, hat⟩ := hrun
  rw [if_pos hw]
  unfold Oper.wp execOp
  simp only [ho, resolve, invoke, builtin, Sem.run_bind, Sem.run_pure, Result.andThen_ok, List.map_toArray, List.map_cons, List.map_nil, hs, hx, hr1]
  exact h v1 w1 h1 (HB.grown hg hbase (own_base HO)) hg hat

/-- A row that is owned, read as a source. -/
theorem own_src {w : World} {base n : Nat} {e : TypeId} {A : Option Addr} {m c : Nat} {xs : List Value} (h : w.ownsRow base e 1 (.slice A m c) n xs) : m = n ∧ xs.length = n ∧ (0 < n → ∃ ad, A = some ad ∧ ∀ j u, xs[j]? = some u → w.cell? (ad.add j) = some u) := by
  obtain ⟨A', c', e', hr⟩ := own_reads_of (enc := id) (d := .slice none 0 0) (xs := xs) (by simpa [encs] using h)
  injection e' with e1 e2 e3
  subst e1; subst e2; subst e3
  refine ⟨rfl, hr.1, fun h0 => ?_⟩
  obtain ⟨ad, e, _⟩ := hr.at_ 0 (by omega) (by omega)
  refine ⟨ad, e, fun j u hu => ?_⟩
  have hj := (List.getElem?_eq_some_iff.1 hu).1
  have hl := hr.1
  obtain ⟨ad', e', hc⟩ := hr.at_ (j : Int) (by omega) (by omega)
  rw [e] at e'; injection e' with e'; subst e'
  rw [Int.toNat_natCast] at hc
  rw [hc]
  simp [rdOf, List.getD_eq_getElem?_getD, hu]


/-- The copy, once both rows are appended and stored. -/
theorem was_close {w W1 W6 : World} {own : Nat → Nat} {B C D E lb F : Nat} {X : List (List Int)} {T : List Bool} {Y : List (List Int)} {U : List Bool} {vL vT v1 v2 : Value} {M : List Value}
    (hd : Duo w W1 own B C D E X T Y U) (hi : ItTag W1 own lb X T) (hr : RefAt W1 C (fun k => own k = 2) (fun k => own k = 3 ∧ k < W1.heap.size) vL vT M T X) (hF : F = W1.heap.size)
    (hb : Below W1.heap.size W1 W6) (hblk : W6.heap[F]? = some (.cells #[v1, v2] 38 (0, 0))) (h1 : W6.ownsRow W1.heap.size 22 1 v1 M.length M) (h2 : W6.ownsRow W1.heap.size 4 1 v2 M.length (encs .bool T)) :
    Duo w W6 (tagged own W1.heap.size 7) B C D E X T Y U ∧ Was W6 (tagged own W1.heap.size 7) lb F X T := by
  refine ⟨hd.below 7 hb, hi.below 7 hb, ⟨v1, v2, M, ⟨hblk, by simpa [encs] using own_weaken h1 (Nat.zero_le _), own_weaken h2 (Nat.zero_le _), hr.len, hr.lenX, fun i m xs e1 e2 => ?_, tagged_ge (by omega), fun k e => tagged_ge (own_base h1 k e), fun k e => tagged_ge (own_base h2 k e)⟩⟩⟩
  exact (hr.el i m xs e1 e2).move (fun k e hlt => hb.block k hlt) (fun k e => ⟨(tagged_lt e.2).trans e.1, Nat.lt_of_lt_of_le e.2 hb.size⟩)
theorem Was.goes_ {W : World} {own : Nat → Nat} {lb F : Nat} {X : List (List Int)} {T : List Bool} (h : Was W own lb F X T) (hl : X.length ≤ 100000) (stop : Int) :
    Calls Try.prog 21 #[.func (.func 47) #[] #[.pointer (some ⟨lb, 0, none⟩)], .pointer (some ⟨F, 0, none⟩), .int .i64 stop] W fun e W' => e = .returned (.bool true) ∧ Below W.heap.size W W' := by
  obtain ⟨⟨base, v, hI, _, _⟩⟩ := h.it
  obtain ⟨vL, vT, M, hr⟩ := h.ref
  exact goes_any stop hI hr (fun b e => e.2) (pairsTo_fst _ T T.length).symm (pairs_in X T M hr.len) (by rw [← hr.lenX]; exact hl)
section
variable {w W : World} {own : Nat → Nat} {B C D E lb : Nat} {X : List (List Int)} {T : List Bool} {Y : List (List Int)} {U : List Bool}
theorem Duo.iter2 (h : Duo w W own B C D E X T Y U) (hl : Y.length ≤ 100000) :
    Calls Try.prog 20 #[.pointer (some ⟨D, 0, none⟩)] W fun e W' => e = .returned (.func (.func 47) #[] #[.pointer (some ⟨W.heap.size, 0, none⟩)]) ∧ ∃ own', Duo w W' own' B C D E X T Y U ∧ ItTag W' own' W.heap.size Y U := by
  refine (all_any h.p2.tab (by rw [List.length_map]; exact hl)).mono ?_
  rintro e W' ⟨it, rfl, ⟨v, hI⟩, hb'⟩
  obtain rfl := hI.fn
  exact ⟨rfl, _, h.below 8 hb', ⟨⟨_, v, hI, tagged_ge (Nat.le_refl _), fun k e => tagged_ge (row_lt hI.row k e).1⟩⟩⟩
theorem Duo.goes1 (h : Duo w W own B C D E X T Y U) (hi : ItTag W own lb X T) (hl : X.length ≤ 100000) (stop : Int) :
    Calls Try.prog 21 #[.func (.func 47) #[] #[.pointer (some ⟨lb, 0, none⟩)], .pointer (some ⟨C, 0, none⟩), .int .i64 stop] W fun e W' => e = .returned (.bool true) ∧ ∃ own', Duo w W' own' B C D E X T Y U := by
  obtain ⟨⟨base, v, hI, _, _⟩⟩ := hi
  refine (pair_goes h.p1 hl hI stop).mono ?_
  rintro e W' ⟨rfl, hb'⟩
  exact ⟨rfl, _, h.below 0 hb'⟩
theorem Duo.goes2 (h : Duo w W own B C D E X T Y U) (hi : ItTag W own lb Y U) (hl : Y.length ≤ 100000) (stop : Int) :
    Calls Try.prog 21 #[.func (.func 47) #[] #[.pointer (some ⟨lb, 0, none⟩)], .pointer (some ⟨E, 0, none⟩), .int .i64 stop] W fun e W' => e = .returned (.bool true) ∧ ∃ own', Duo w W' own' B C D E X T Y U := by
  obtain ⟨⟨base, v, hI, _, _⟩⟩ := hi
  refine (pair_goes h.p2 hl hI stop).mono ?_
  rintro e W' ⟨rfl, hb'⟩
  exact ⟨rfl, _, h.below 0 hb'⟩
end
end Go.Proofs.Ytgchgkffoplogaa
