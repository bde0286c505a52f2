/- The iterator of a table of slices, for a range over it: what it hands to a loop's body. -/
import Derived.Test.YtgchgkffoplogaaGd
import Derived.Test.YtgchgkffoplogaaVr
import Derived.RangeFuncBox
import Derived.RangeFuncCalls
import Derived.RangeFuncLeaves
import Derived.RangeFuncWrites
import Derived.Shelf.Abstract
import Derived.OwnWalkIn
import Derived.TacticsInMore
import Derived.LoopNIn
import Derived.LoopIn
namespace Go.Proofs.Ytgchgkffoplogaa
open Go.RowKit Go.Shelf Go.Proofs.YtgchgkffoplogaaW.PrintWords
set_option linter.unusedVariables false
set_option linter.unusedSimpArgs false
attribute [local go_sem] Oper.semAt_some

/-- What a round keeps: all that lay below n1, but for two blocks. -/
structure KpS (n1 bk bo : Nat) (W W' : World) : Prop where
  os : W'.os = W.os
  tape : W'.tape = W.tape
  output : W'.output = W.output
  size : W.heap.size ≤ W'.heap.size
  block : ∀ k, k < n1 → k ≠ bk → k ≠ bo → W'.heap[k]? = W.heap[k]?
theorem KpS.t {n1 bk bo : Nat} {A B C : World} (h : KpS n1 bk bo A B) (k : KpS n1 bk bo B C) : KpS n1 bk bo A C :=
  ⟨k.os.trans h.os, k.tape.trans h.tape, k.output.trans h.output, Nat.le_trans h.size k.size, fun i hi h1 h2 => (k.block i hi h1 h2).trans (h.block i hi h1 h2)⟩
theorem KpS.refl (n1 bk bo : Nat) (W : World) : KpS n1 bk bo W W := ⟨rfl, rfl, rfl, Nat.le_refl _, fun _ _ _ _ => rfl⟩
theorem KpS.b {n1 bk bo : Nat} (W : World) (l : Nat) (o o' : Obj) (hl : n1 ≤ l) (h : W.heap[l]? = some o) (hc : o.isCells = false) (hw : o.isWalk = false) : KpS n1 bk bo W (W.putObj l o') :=
  have hb := belowK_b (w := W) (n₀ := 0) (Nat.zero_le _)
  ⟨rfl, rfl, rfl, by simp [World.putObj], fun k hk _ _ => World.putObj_heap_other (by omega)⟩
theorem KpS.of_below {n1 bk bo : Nat} {A B : World} (h : Below n1 A B) : KpS n1 bk bo A B := ⟨h.os, h.tape, h.output, h.size, fun k hk _ _ => h.block k hk⟩
theorem KpS.set_ {n1 bk bo : Nat} {A B : World} (h : KpS n1 bk bo A B) {p : Addr} (hp : p.block = bk ∨ p.block = bo ∨ n1 ≤ p.block) (v : Value) : KpS n1 bk bo A (B.setCell p v) :=
  ⟨h.os, h.tape, h.output, by rw [World.size_setCell]; exact h.size, fun k hk h1 h2 => (Below.heap_setCell _ _ _ _ (by omega)).trans (h.block k hk h1 h2)⟩
theorem KpS.alloc {n1 bk bo : Nat} {A B : World} (h : KpS n1 bk bo A B) (hn : n1 ≤ B.heap.size) (o : Obj) : KpS n1 bk bo A (B.alloc o) := h.t (.of_below ((Below.refl n1 B).alloc hn o))
theorem KpS.grown {n1 bk bo : Nat} {A B C : World} (h : KpS n1 bk bo A B) {row : Option Nat} (hg : B.grownBy C row) (hr : ∀ k, row = some k → n1 ≤ k) (hn : n1 ≤ B.heap.size) : KpS n1 bk bo A C := h.t (.of_below ((Below.refl n1 B).grown hg hn hr))
theorem ownFrom_kpS {β : Type} {n1 bk bo : Nat} {w : World} (hn : n1 ≤ w.heap.size) : OwnFrom n1 (fun (_ : β) W => KpS n1 bk bo w W) :=
  fun _ _ _ _ hs hg hr => hs.grown hg (fun k e => (hr k e).1) (Nat.le_trans hn hs.size)

/-- The pairs in their row. -/
theorem V.pairs_cells {w : World} {base : Nat} {v : Value} {ps : List (Int × V.El)} (h : OwnRow V.PairR 101 2 w base v ps) (hp : 0 < ps.length) :
    ∃ gp cp, v = .slice (some ⟨gp, 0, none⟩) ps.length cp ∧ base ≤ gp ∧ gp < w.heap.size ∧ ∀ j : Nat, j < ps.length → w.cell? ⟨gp, j * 2, none⟩ = some (.int .i64 (ps.getD j (0, V.zE)).1) ∧ w.cell? ⟨gp, j * 2 + 1, none⟩ = some (V.encE (ps.getD j (0, V.zE)).2) := by
  obtain ⟨inner, ho, _⟩ := id h
  obtain ⟨gp, cp, hv, hb, hlt⟩ := ho.form hp
  refine ⟨gp, cp, hv, hb, hlt, fun j hj => ?_⟩
  obtain ⟨A, c, hv2, _, hr⟩ := h.reads
  rw [hv] at hv2
  injection hv2 with hA _ _
  subst hA
  obtain ⟨ad, cs, hA, _, hR, hc⟩ := hr.get_ (0, V.zE) (j : Int) (by omega) (by omega)
  injection hA with hA
  subst hA
  rw [Int.toNat_natCast] at hR hc
  unfold V.PairR at hR
  subst hR
  have h0 := hc 0 _ rfl
  have h1 := hc 1 _ rfl
  rw [add_at] at h0 h1
  simp only [Nat.zero_add, Nat.add_zero] at h0 h1
  exact ⟨h0, h1⟩
theorem take_succ_getD {α : Type} (ps : List α) (d : α) (k : Nat) (hk : k < ps.length) : ps.take (k + 1) = ps.take k ++ [ps.getD k d] := by
  rw [List.take_add_one, List.getElem?_eq_getElem hk, List.getD_eq_getElem?_getD, List.getElem?_eq_getElem hk]; rfl

set_option maxRecDepth 100000 in
set_option maxHeartbeats 2000000 in
theorem all1_in (F : Fence) (n : Nat) (h61 : F.fn 61) (hro : F.round = none) (hn : 1 ≤ n) (l lb n1 bk bo : Nat) (ps : List (Int × V.El)) (v : Value) (base : Nat) (w0 : World) (hn1 : n1 = w0.heap.size) (hrow : OwnRow V.PairR 101 2 w0 base v ps) (hps : ps.length ≤ 100000) (hbk : bk < base) (hbo : bo < base) (hlb1 : lb ≠ bk) (hlb2 : lb ≠ bo)
    (J Jx : List (Int × V.El) → World → Prop)
    (hY : ∀ pre x W, J pre W → pre.length < ps.length → YieldAt F (n - 1) Try.prog l #[.int .i64 x.1, V.encE x.2] W fun e W' =>
      (e = .returned (.bool true) ∧ J (pre ++ [x]) W' ∧ KpS n1 bk bo W W') ∨ (e = .returned (.bool false) ∧ Jx (pre ++ [x]) W'))
    (W : World) (hJ : AbidesFrom W.heap.size J) (hb : KpS n1 bk bo w0 W) (hBs : W.heap[lb]? = some (.cells #[v] 99 (0, 0))) (hlb : lb < n1) (h0 : J [] W) :
    CallsIn F n Try.prog 61 #[.func (.yield l) #[] #[], .pointer (some ⟨lb, 0, none⟩)] W fun e W' => (∃ v, e = .returned v) ∧
      ((∃ ys, ys = ps ∧ J ys W') ∨ (∃ pre, (∃ k, k ≤ ps.length ∧ pre = ps.take k) ∧ Jx pre W')) := by
  obtain ⟨Av, cv, rfl, _⟩ := hrow.slice_
  have hBc := blk_cell hBs 0
  have Hrow := Lib.hid hrow
  clear hrow
  refine callsIn_of_wp Try.func61 rfl h61 ?_ hro
  simp only [Try.ntmps61, List.size_toArray, List.length_cons, List.length_nil, Nat.reduceAdd, Nat.reduceSub, Array.replicate_succ, Array.replicate_zero, List.push_toArray, List.append_toArray, List.nil_append, List.cons_append]
  gi_wp2
  gi_loopw [7] (fun i wr => ∃ k : Nat, k ≤ ps.length ∧ i = .int .i64 k ∧ J (ps.take k) wr ∧ Hid (KpS n1 bk bo w0 wr) ∧ Hid (W.heap.size ≤ wr.heap.size))
    (fun i _ => ps.length - (intOf i).toNat)
  case atStart => exact ⟨0, Nat.zero_le _, rfl, by simpa using h0, Lib.hid hb, Lib.hid (Nat.le_refl _)⟩
  case round =>
    obtain ⟨k, hk, rfl, hJs, HK, HW⟩ := hrel
    by_cases hlt : k < ps.length
    · obtain ⟨gp, cp, hv, hg0, hg1, hcells⟩ := V.pairs_cells Hrow.out (by omega)
      injection hv with hA _ hC
      subst hA; subst hC
      obtain ⟨c1, c2⟩ := hcells k hlt
      have hmv : ∀ q, wr.cell? ⟨gp, q, none⟩ = w0.cell? ⟨gp, q, none⟩ := fun q => World.cell?_of_block (HK.out.block gp (by omega) (by omega) (by omega))
      rw [← hmv] at c1 c2
      have hnx := take_succ_getD ps (0, V.zE) k hlt
      obtain ⟨x, hx⟩ : ∃ x, x = ps.getD k (0, V.zE) := ⟨_, rfl⟩
      rw [← hx] at c1 c2 hnx
      have Hnx := Lib.hid hnx
      clear hnx hx hcells hmv
      have hJ2 : J (ps.take k) (wr.alloc (.cells #[.int .i64 x.1, V.encE x.2] 101)) := hJ _ _ _ none hJs (World.grownBy_alloc _ _ none) (fun r e => by cases e)
      obtain ⟨fn, tmps, assign, body, hy, hR⟩ := hY _ x _ hJ2 (by rw [List.length_take]; omega)
      have p0 : (0 : Int) ≤ (k : Int) := by omega
      have p1 : (k : Int) < (ps.length : Int) := by omega
      have HK2 : Hid (KpS n1 bk bo w0 (wr.alloc (.cells #[.int .i64 x.1, V.encE x.2] 101))) := Lib.hid (HK.out.alloc (by have := HK.out.size; omega) _)
      gi_wp2
      refine hR.mono ?_
      rintro e W3 (⟨rfl, hJ3, hk3⟩ | ⟨rfl, hJx3⟩)
      · have hs3 : W.heap.size ≤ W3.heap.size := Nat.le_trans HW.out (Nat.le_trans (by simp) hk3.size)
        have Hs3 := Lib.hid hs3; have HK3 := Lib.hid (HK2.out.t hk3)
        clear hs3 hk3
        gi_wp2
        go_roundw
        case rel => exact ⟨k + 1, by omega, by go_num, by rw [Hnx.out]; exact hJ3, HK3, Hs3⟩
        case measure => simp [intOf]; omega
      · gi_wp2
        refine bodyPost_ret (results_none rfl _ _ _) rfl ?_
        exact ⟨⟨_, rfl⟩, .inr ⟨_, ⟨k + 1, by omega, rfl⟩, by rw [Hnx.out]; exact hJx3⟩⟩
    · have hkm : k = ps.length := by omega
      have Hkm := Lib.hid hkm
      have hz : ¬ (k : Int) < (ps.length : Int) := by omega
      clear hkm
      gi_wp2
      go_end0
      exact ⟨⟨_, rfl⟩, .inl (by rw [Hkm.out, List.take_of_length_le (Nat.le_refl _)] at hJs; exact hJs)⟩

theorem all_stops (F : Fence) (n : Nat) (h61 : F.fn 61) (hro : F.round = none) (hn : 1 ≤ n) (lb bk bo : Nat) (ps : List (Int × V.El)) (v : Value) (base : Nat) (w0 : World) (hrow : OwnRow V.PairR 101 2 w0 base v ps) (hps : ps.length ≤ 100000) (hbk : bk < base) (hbo : bo < base) (hlb1 : lb ≠ bk) (hlb2 : lb ≠ bo)
    (hBs : w0.heap[lb]? = some (.cells #[v] 99 (0, 0))) :
    SeqStopsK F n Try.prog 61 #[.pointer (some ⟨lb, 0, none⟩)] (fun x : Int × V.El => #[Value.int .i64 x.1, V.encE x.2]) (KpS w0.heap.size bk bo) (fun ys => ys = ps)
      (fun pre => ∃ k, k ≤ ps.length ∧ pre = ps.take k) ps.length w0 := fun l J Jx W hW hJ _ hY h0 =>
  all1_in F n h61 hro hn l lb w0.heap.size bk bo ps v base w0 rfl hrow hps hbk hbo hlb1 hlb2 J Jx hY W hJ (.of_below hW) (blk_below hBs hW) (blk_lt hBs) h0
end Go.Proofs.Ytgchgkffoplogaa
