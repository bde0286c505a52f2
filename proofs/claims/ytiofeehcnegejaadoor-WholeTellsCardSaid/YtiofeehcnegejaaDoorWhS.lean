/- Whole numbers: append(v, y) inside a fence; slices.Clone of words that are there, owned. -/
import Derived.Test.YtiofeehcnegejaaDoorWhR
import Derived.Maps.AppendAt
namespace Go.Proofs.YtiofeehcnegejaaDoor
open Go.RowKit Go.Shelf Go.Proofs.YtiofeehcnegejaaDoorW.PrintWords
set_option linter.unusedVariables false
theorem in_append_num {F : Fence} {nn : Nat} {P : Program} {ops : Array Oper} {rest : List Oper} {o : Oper} {a : Act} {Q : Exit → Act → World → Prop} {w0 W : World} (base : Nat) (hgd : o.guard = none) (s x : Operand) (t e : TypeId) (k : IntKind) (bytes : Nat)
    (ho : o.op = .call { callee := .builtin .append, args := #[s, x], argTypes := #[t, t] })
    (ht : P.underlying t = some (.slice e)) (hinfo : (P.info? e).map (fun i => (i.zero, i.size, i.bytes)) = some (some (.int k 0), 1, bytes)) (hb0 : 0 < bytes)
    (v : Value) (xs : List Int) (y : Int) (hs : a.eval s = v) (hx : a.eval x = .slice (some ⟨W.heap.size, 0, none⟩) 1 1)
    (HO : W.ownsRow base e 1 v xs.length (nums k xs)) (HB : Below base w0 W) (hbase : base ≤ W.heap.size) (hl : (xs.length + 1) * bytes ≤ 140737488355328)
    (h : ∀ v1 w1, w1.ownsRow base e 1 v1 (xs ++ [y]).length (nums k (xs ++ [y])) → Below base w0 w1 → W.grownBy w1 v.ownBlock → (v1.ownBlock = v.ownBlock ∨ ∃ b, v1.ownBlock = some b ∧ W.heap.size ≤ b) → wpListIn F nn P ops Q rest (a.put o.dst v1) w1) :
    wpListIn F nn P ops Q (o :: rest) a (W.alloc (.cells #[.int k y] e)) := by
  obtain ⟨i0, hi, hzz⟩ := Option.map_eq_some_iff.1 hinfo
  simp only [Prod.mk.injEq] at hzz
  obtain ⟨hz0, hz1, hz2⟩ := hzz
  have hlen : xs.length + 1 ≤ 140737488355328 := Nat.le_trans (Nat.le_mul_of_pos_right _ hb0) hl
  refine wpListIn_plain hgd fun K hK' => ?_
  obtain ⟨v', w', hrun, r1, r2, _, r4⟩ := run_append_own_at (P := P) (w := W.alloc (.cells #[.int k y] e)) base t o.type e i0 (.int k 0) 1 bytes ht hi hz0 hz1 hz2 rfl (by omega) v xs.length (nums k xs) (HO.alloc _) ⟨W.heap.size, 0, none⟩ 1 1 [.int k y] rfl
    (World.news_of_block (cs := #[.int k y]) (t := e) (fr := (0, 0)) (heap_alloc_new W _)) (by simp [Value.oneCell']) (by simp only [maxLen]; omega) hl (by simp; omega)
  have hh := h v' w' (by simpa [nums] using r1) ((HB.alloc hbase _).grown r2 (by simp; omega) (own_base HO)) (World.grownBy.trans (World.grownBy_alloc W _ _) r2) (r4.imp id fun e => ⟨_, e, by simp⟩)
  unfold Oper.wpIn
  refine ⟨?_, ?_⟩
  · simp [Oper.about, ho, resolve, Target.leads, Sem.run_pure]
  · rw [Oper.semAt_plain F _ _ (by rw [ho]; intro c hc'; cases hc')]
    simp [execOp, ho, resolve, invoke, builtin, hs, hx, hrun, Result.andThen]
    exact hK' _ _ hh

set_option maxRecDepth 100000 in
set_option maxHeartbeats 800000 in
/-- slices.Clone of words, at least one: a row of the call's own. -/
theorem clone_own (ad : Addr) (n c : Nat) (xs : List Int) (w : World) (hr : ReadsInt w .u32 (some ad) n xs) (hc : n ≤ c) (hn : n ≤ 1000000) (hp : 0 < n) :
    Calls Tryd.prog 53 #[.slice (some ad) n c] w fun e w' => ∃ g c', e = .returned (.slice (some ⟨g, 0, none⟩) n c') ∧ w'.ownsRow w.heap.size 62 1 (.slice (some ⟨g, 0, none⟩) n c') n (nums .u32 xs) ∧ n ≤ c' ∧ w.heap.size ≤ g ∧ Below w.heap.size w w' := by
  have hl : xs.length = n := hr.1
  have hsome : ∀ (ad : Addr) (W : World), (binOp .eql 22 (.slice (some ad) n c) (.slice none 0 0)).run Tryd.prog W = .ok (.bool false) W := fun ad W => rfl
  have Hl := Lib.hid hl; have Hr := Lib.hid hr; have Hp := Lib.hid hp
  clear hl hr hp
  have hempty : (w.alloc (.cells #[] 62)).ownsRow w.heap.size 62 1 (.slice (some ⟨w.heap.size, 0, none⟩) 0 0) ([] : List Int).length (nums .u32 []) := World.ownsRow_lit (base := w.heap.size) (e := 62) (size := 1) w #[] 0 (Nat.le_refl _) (by simp [maxLen]) (by simp)
  have Hempty := Lib.hid hempty
  clear hempty
  go_enter Tryd.func53, Tryd.ntmps53
  go_wp2_with (at_builtin; refine print_append_row (w0 := w) w.heap.size rfl (.tmp 5) (.tmp 6) 22 62 .u32 4 rfl Tryd.underlying22 info62 (by decide) (.slice (some ⟨w.heap.size, 0, none⟩) 0 0) [] xs (some ad) n c rfl rfl Hempty.out (Hr.out.below (below_alloc (Below.refl _ _) _)) (below_alloc (Below.refl _ _) _) (by simp) (by simp; omega) ?_; intro v2 W2 hown2 hb2 hg2 hat2; rw [List.nil_append, Hl.out] at hown2; have Hown2 := Lib.hid hown2; have HB2 := Lib.hid hb2; clear hown2 hb2 hg2 hat2)
  obtain ⟨A2, c2, rfl⟩ := own_slice Hown2.out
  go_ret
  have h0 := Hp.out
  rcases Hown2.out.2 with ⟨h1, h2⟩ | ⟨g, cap, cur, h1, h2, _⟩
  · omega
  · injection h1 with h1 h3 h4
    subst h1 h4
    exact ⟨g, c2, rfl, Hown2.out, own_le Hown2.out, h2, HB2.out⟩
end Go.Proofs.YtiofeehcnegejaaDoor
