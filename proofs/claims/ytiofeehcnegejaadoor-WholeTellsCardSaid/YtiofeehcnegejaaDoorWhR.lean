/- slices.Backward over a row of words, and what it hands to a loop's body. -/
import Derived.Test.YtiofeehcnegejaaDoorTd
import Derived.RangeFuncBox
import Derived.RangeFuncCalls
import Derived.RangeFuncLeaves
import Derived.RangeFuncWrites
import Derived.Shelf.Abstract
import Derived.OwnWalkIn
import Derived.TacticsInMore
import Derived.LoopNIn
import Derived.LoopIn
namespace Go.Proofs.YtiofeehcnegejaaDoor
open Go.RowKit Go.Shelf Go.Proofs.YtiofeehcnegejaaDoorW.PrintWords
set_option linter.unusedVariables false
attribute [local go_sem] Oper.semAt_some

/-- What has come when k rounds are over. -/
def uptoF {α : Type} (f : Nat → α) (k : Nat) : List α := (List.range k).map f
theorem uptoF_succ {α : Type} (f : Nat → α) (k : Nat) : uptoF f (k + 1) = uptoF f k ++ [f k] := by simp [uptoF, List.range_succ]
theorem uptoF_length {α : Type} (f : Nat → α) (k : Nat) : (uptoF f k).length = k := by simp [uptoF]
/-- A place and a word. -/
abbrev WordAt := { x : Int × Int // 0 ≤ x.2 ∧ x.2 < 4294967296 }
/-- The j-th that comes: the place and the word, from the end. -/
def backF (zs : List Int) (hw : ∀ i, 0 ≤ rd zs i ∧ rd zs i < 4294967296) (j : Nat) : WordAt := ⟨((zs.length : Int) - 1 - j, rd zs ((zs.length : Int) - 1 - j)), hw _⟩

/-- What a round keeps: all below n₀, and block Bs. -/
def KpB (n₀ Bs : Nat) (W W' : World) : Prop := Below n₀ W W' ∧ W'.heap[Bs]? = W.heap[Bs]?
theorem KpB.t {n₀ Bs : Nat} {A B C : World} (h : KpB n₀ Bs A B) (k : KpB n₀ Bs B C) : KpB n₀ Bs A C := ⟨h.1.trans k.1, k.2.trans h.2⟩
theorem KpB.b {n₀ Bs : Nat} {w : World} (hn : n₀ ≤ w.heap.size) (hB : Bs < w.heap.size) (W : World) (l : Nat) (o o' : Obj) (hl : w.heap.size ≤ l) (h : W.heap[l]? = some o) (hc : o.isCells = false) (hw : o.isWalk = false) : KpB n₀ Bs W (W.putObj l o') :=
  ⟨belowK_b hn W l o o' hl h hc hw, World.putObj_heap_other (by omega)⟩

set_option maxRecDepth 100000 in
set_option maxHeartbeats 2000000 in
theorem back1_in (F : Fence) (n : Nat) (h72 : F.fn 72) (hro : F.round = none) (hn : 1 ≤ n) (l Bs n₀ : Nat) (A : Option Addr) (m cap : Nat) (zs : List Int) (hw : ∀ i, 0 ≤ rd zs i ∧ rd zs i < 4294967296) (w0 : World) (hm : zs.length = m) (hm1 : m ≤ 9223372036854775807) (hn₀ : n₀ = w0.heap.size) (hr : ReadsInt w0 .u32 A m zs) (J Jx : List WordAt → World → Prop)
    (hY : ∀ pre x W, J pre W → pre.length < m → YieldAt F (n - 1) Tryd.prog l #[.int .i64 x.1.1, .int .u32 x.1.2] W fun e W' =>
      (e = .returned (.bool true) ∧ J (pre ++ [x]) W' ∧ KpB n₀ Bs W W') ∨ (e = .returned (.bool false) ∧ Jx (pre ++ [x]) W'))
    (W : World) (hb : Below n₀ w0 W) (hBs : W.heap[Bs]? = some (.cells #[.slice A m cap] 22 (0, 0))) (h0 : J [] W) :
    CallsIn F n Tryd.prog 72 #[.func (.yield l) #[] #[], .pointer (some ⟨Bs, 0, none⟩)] W fun e W' => (∃ v, e = .returned v) ∧
      ((∃ ys, ys = uptoF (backF zs hw) m ∧ J ys W') ∨ (∃ pre, (∃ k, k ≤ m ∧ pre = uptoF (backF zs hw) k) ∧ Jx pre W')) := by
  subst hn₀
  have hBc := blk_cell hBs 0
  have Hm := Lib.hid hm; clear hm
  refine callsIn_of_wp Tryd.func72 rfl h72 ?_ hro
  simp only [Tryd.ntmps72, List.size_toArray, List.length_cons, List.length_nil, Nat.reduceAdd, Nat.reduceSub, Array.replicate_succ, Array.replicate_zero, List.push_toArray, List.append_toArray, List.nil_append, List.cons_append]
  gi_wp2
  gi_loopw [3] (fun i wr => ∃ k : Nat, k ≤ m ∧ i = .int .i64 ((m : Int) - 1 - k) ∧ J (uptoF (backF zs hw) k) wr ∧ Below w0.heap.size w0 wr ∧ wr.heap[Bs]? = some (.cells #[.slice A m cap] 22 (0, 0)))
    (fun i _ => (intOf i + 1).toNat)
  case atStart => exact ⟨0, Nat.zero_le _, by simp, h0, hb, hBs⟩
  case round =>
    obtain ⟨k, hk, rfl, hJs, hnx, hBr⟩ := hrel
    by_cases hlt : k < m
    · obtain ⟨ad, rfl, hc⟩ := (hr.below hnx).at_ ((m : Int) - 1 - k) (by omega) (by omega)
      rw [show ((m : Int) - 1 - k).toNat = m - 1 - k by omega] at hc
      have hBk : wr.cell? ⟨Bs, 0, none⟩ = some (.slice (some ad) m cap) := blk_cell hBr 0
      obtain ⟨fn, tmps, assign, body, hy, hR⟩ := hY _ ⟨((m : Int) - 1 - k, rd zs ((m : Int) - 1 - k)), hw _⟩ wr hJs (by rw [uptoF_length]; exact hlt)
      dsimp only at hy
      have hd : decide ((0 : Int) ≤ (m : Int) - 1 - k) = true := by simp; omega
      gi_wp2
      refine hR.mono ?_
      rintro e W3 (⟨rfl, hJ3, hk3⟩ | ⟨rfl, hJx3⟩)
      · gi_wp2
        go_roundw
        case rel => exact ⟨k + 1, by omega, by go_num, by rw [uptoF_succ]; simp only [backF, Hm.out]; exact hJ3, hnx.trans hk3.1, hk3.2.trans hBr⟩
        case measure => simp [intOf]; omega
      · gi_wp2
        refine bodyPost_ret (results_none rfl _ _ _) rfl ?_
        exact ⟨⟨_, rfl⟩, .inr ⟨_, ⟨k + 1, by omega, by rw [uptoF_succ]; simp only [backF, Hm.out]⟩, hJx3⟩⟩
    · have hkm : k = m := by omega
      subst hkm
      gi_wp2
      go_end0
      exact ⟨⟨_, rfl⟩, .inl ⟨_, rfl, hJs⟩⟩

set_option maxHeartbeats 1000000 in
theorem back_any (A : Option Addr) (len cap : Nat) (w : World) :
    Calls Tryd.prog 56 #[.slice A len cap] w fun e w' => e = .returned (.func (.func 72) #[] #[.pointer (some ⟨w.heap.size, 0, none⟩)]) ∧ w' = w.alloc (.cells #[.slice A len cap] 22) := by
  go_enter Tryd.func56, Tryd.ntmps56
  go_wp2
  go_ret
  exact ⟨rfl, rfl⟩

theorem back_stops (F : Fence) (n : Nat) (h72 : F.fn 72) (hro : F.round = none) (hn : 1 ≤ n) (Bs : Nat) (A : Option Addr) (m cap : Nat) (zs : List Int) (hw : ∀ i, 0 ≤ rd zs i ∧ rd zs i < 4294967296) (w0 : World) (hm : zs.length = m) (hm1 : m ≤ 9223372036854775807) (hr : ReadsInt w0 .u32 A m zs)
    (w : World) (hb : Below w0.heap.size w0 w) (hBs : w.heap[Bs]? = some (.cells #[.slice A m cap] 22 (0, 0))) :
    SeqStopsK F n Tryd.prog 72 #[.pointer (some ⟨Bs, 0, none⟩)] (fun x : WordAt => #[Value.int .i64 x.1.1, Value.int .u32 x.1.2]) (KpB w0.heap.size Bs) (fun ys => ys = uptoF (backF zs hw) m)
      (fun pre => ∃ k, k ≤ m ∧ pre = uptoF (backF zs hw) k) m w := fun l J Jx W hW _ _ hY h0 => by
  have hW' : Below w0.heap.size w W := hW.mono hb.size
  exact back1_in F n h72 hro hn l Bs w0.heap.size A m cap zs hw w0 hm hm1 rfl hr J Jx hY W (hb.trans hW') ((hW.block Bs (blk_lt hBs)).trans hBs) h0
end Go.Proofs.YtiofeehcnegejaaDoor
