/- The walks of the heap of free numbers: its methods, called through the interface. -/
import Derived.Test.YtgchgkffoplogaaProg
import Derived.Test.YtgchgkffoplogaaWWords
import Derived.WalkKit
import Derived.Below
import Derived.KernelRfl
import Derived.LoopTactic
import Derived.Outline
import Derived.Lib.Hide
import Derived.RegionTactic
import Derived.ChangeAlike
import Derived.Deep.QuietTactic
import Derived.BigQuiet
import Derived.Deep.RegionHeld3
import Derived.Deep.AppendLies
import Derived.Deep.DeepCutAuto
import Derived.Deep.CutBlock
namespace Go.Proofs.Ytgchgkffoplogaa
open Go.RowKit Go.Proofs.YtgchgkffoplogaaW.PrintWords
set_option linter.unusedVariables false

/-- All lies as it lay, but for the blocks ok; new blocks may have come. -/
structure Kept (ok : Nat → Prop) (w w' : World) : Prop where
  os : w'.os = w.os
  tape : w'.tape = w.tape
  output : w'.output = w.output
  size : w.heap.size ≤ w'.heap.size
  block : ∀ k, k < w.heap.size → ¬ ok k → w'.heap[k]? = w.heap[k]?
theorem Kept.refl (ok : Nat → Prop) (w : World) : Kept ok w w := ⟨rfl, rfl, rfl, Nat.le_refl _, fun _ _ _ => rfl⟩
theorem Kept.trans {ok : Nat → Prop} {a b c : World} (h : Kept ok a b) (k : Kept (fun n => ok n ∨ a.heap.size ≤ n) b c) : Kept ok a c :=
  ⟨k.os.trans h.os, k.tape.trans h.tape, k.output.trans h.output, Nat.le_trans h.size k.size, fun i hi hn => (k.block i (Nat.lt_of_lt_of_le hi h.size) (fun e => e.elim hn (fun e => by omega))).trans (h.block i hi hn)⟩
theorem Kept.mono {ok ok' : Nat → Prop} {a b : World} (h : Kept ok a b) (hk : ∀ k, ok k → k < a.heap.size → ok' k) : Kept ok' a b :=
  ⟨h.os, h.tape, h.output, h.size, fun i hi hn => h.block i hi (fun e => hn (hk i e hi))⟩
theorem Kept.of_below {ok : Nat → Prop} {a b : World} (h : Below a.heap.size a b) : Kept ok a b := ⟨h.os, h.tape, h.output, h.size, fun i hi _ => h.block i hi⟩
theorem Kept.below {ok : Nat → Prop} {a b : World} (h : Kept ok a b) {B : Nat} (hB : B ≤ a.heap.size) (hk : ∀ k, ok k → k < a.heap.size → B ≤ k) : Below B a b :=
  ⟨h.os, h.tape, h.output, h.size, fun i hi => h.block i (by omega) (fun e => by have := hk i e (by omega); omega)⟩
theorem Kept.setCell {ok : Nat → Prop} {a b : World} (h : Kept ok a b) {p : Addr} (hp : ok p.block ∨ a.heap.size ≤ p.block) (v : Value) : Kept ok a (b.setCell p v) :=
  ⟨h.os, h.tape, h.output, by rw [World.size_setCell]; exact h.size, fun i hi hn => by
    rw [Below.heap_setCell _ _ _ _ (by rintro rfl; exact hp.elim hn (fun e => by omega))]; exact h.block i hi hn⟩
theorem Kept.drewN {ok : Nat → Prop} {a b : World} (h : Kept ok a b) (n : Nat) : Kept ok a (b.drewN n) := ⟨h.os, h.tape, h.output, h.size, h.block⟩
theorem Kept.drew {ok : Nat → Prop} {a b : World} (h : Kept ok a b) : Kept ok a b.drew := ⟨h.os, h.tape, h.output, h.size, h.block⟩
theorem Kept.alloc {ok : Nat → Prop} {a b : World} (h : Kept ok a b) (o : Obj) : Kept ok a (b.alloc o) :=
  ⟨h.os, h.tape, h.output, by rw [World.size_alloc]; have := h.size; omega, fun i hi hn => by rw [Below.heap_alloc _ _ _ (Nat.lt_of_lt_of_le hi h.size)]; exact h.block i hi hn⟩
theorem Kept.grown {ok : Nat → Prop} {a b c : World} (h : Kept ok a b) {row : Option Nat} (hg : b.grownBy c row) (hr : ∀ k, row = some k → ok k ∨ a.heap.size ≤ k) : Kept ok a c :=
  ⟨hg.os.trans h.os, hg.tape.trans h.tape, hg.output.trans h.output, Nat.le_trans h.size hg.size, fun i hi hn => (hg.block i (Nat.lt_of_lt_of_le hi h.size) (fun e => (hr i e.symm).elim hn (fun e => by omega))).trans (h.block i hi hn)⟩

theorem method_len (a : Addr) (w : World) : (method 218 70 (.pointer (some a)) "Len").run Try.prog w = ((loadVar 32 a) >>= fun v => (pure (78, v) : Sem (FuncId × Value))).run Try.prog w := by kernel_rfl
theorem method_less (a : Addr) (w : World) : (method 218 70 (.pointer (some a)) "Less").run Try.prog w = ((loadVar 32 a) >>= fun v => (pure (79, v) : Sem (FuncId × Value))).run Try.prog w := by kernel_rfl
theorem method_swap (a : Addr) (w : World) : (method 218 70 (.pointer (some a)) "Swap").run Try.prog w = ((loadVar 32 a) >>= fun v => (pure (80, v) : Sem (FuncId × Value))).run Try.prog w := by kernel_rfl
theorem m_pop (a : Addr) (w : World) : (method 218 70 (.pointer (some a)) "Pop").run Try.prog w = .ok (82, .pointer (some a)) w := by kernel_rfl
theorem m_push (a : Addr) (w : World) : (method 218 70 (.pointer (some a)) "Push").run Try.prog w = .ok (83, .pointer (some a)) w := by kernel_rfl
theorem load32 (a : Addr) (w : World) (v : Value) (h : w.cell? a = some v) : (loadVar 32 a).run Try.prog w = .ok v w := by
  simp [loadVar, go_sem, h]
theorem m_len (a : Addr) (w : World) (v : Value) (h : w.cell? a = some v) : (method 218 70 (.pointer (some a)) "Len").run Try.prog w = .ok (78, v) w := by
  rw [method_len]; simp [loadVar, go_sem, h]
theorem m_less (a : Addr) (w : World) (v : Value) (h : w.cell? a = some v) : (method 218 70 (.pointer (some a)) "Less").run Try.prog w = .ok (79, v) w := by
  rw [method_less]; simp [loadVar, go_sem, h]
theorem m_swap (a : Addr) (w : World) (v : Value) (h : w.cell? a = some v) : (method 218 70 (.pointer (some a)) "Swap").run Try.prog w = .ok (80, v) w := by
  rw [method_swap]; simp [loadVar, go_sem, h]

theorem nlen_any (A : Option Addr) (n c : Nat) (w : World) : Calls Try.prog 78 #[.slice A n c] w fun e w' => e = .returned (.int .i64 n) ∧ w = w' := by
  go_enter Try.func78, Try.ntmps78
  go_wp2
  go_ret
  exact ⟨rfl, rfl⟩

/-- The row of free numbers in a world. -/
def Row3 (w : World) (v : Value) (F : List Int) : Prop := w.ownsRow 0 3 1 v F.length (nums .i64 F)

theorem nless_any (v : Value) (F : List Int) (w : World) (i j : Nat) (h : Row3 w v F) (hi : i < F.length) (hj : j < F.length) (hn : F.length ≤ 9223372036854775807) :
    Calls Try.prog 79 #[v, .int .i64 i, .int .i64 j] w fun e w' => e = .returned (.bool (decide (rd F i < rd F j))) ∧ Drawn0 w w' := by
  obtain ⟨g, c, rfl, _, _⟩ := h.form (by omega)
  obtain ⟨hc1, _⟩ := own_at h (i : Int) (by omega) (by omega)
  obtain ⟨hc2, _⟩ := own_at h (j : Int) (by omega) (by omega)
  rw [Int.toNat_natCast] at hc1 hc2
  have p1 : (0 : Int) ≤ (i : Int) := by omega
  have p2 : (i : Int) < (F.length : Int) := by omega
  have p3 : (0 : Int) ≤ (j : Int) := by omega
  have p4 : (j : Int) < (F.length : Int) := by omega
  go_enter Try.func79, Try.ntmps79
  go_wp2
  go_quiet (fail)
  go_wp2
  go_ret
  exact ⟨rfl, ⟨_, rfl⟩⟩

/-- Two places exchanged. -/
def swapL (F : List Int) (i j : Nat) : List Int := (F.set i (rd F j)).set j (rd F i)
theorem swapL_length (F : List Int) (i j : Nat) : (swapL F i j).length = F.length := by simp [swapL]

set_option maxHeartbeats 800000 in
theorem nswap_any (g n c : Nat) (F : List Int) (w : World) (i j : Nat) (h : Row3 w (.slice (some ⟨g, 0, none⟩) n c) F) (hl : n = F.length) (hi : i < n) (hj : j < n) (hn : n ≤ 9223372036854775807) :
    Calls Try.prog 80 #[.slice (some ⟨g, 0, none⟩) n c, .int .i64 i, .int .i64 j] w fun e w' => e = .returned (.tuple #[]) ∧ Row3 w' (.slice (some ⟨g, 0, none⟩) n c) (swapL F i j) ∧ Kept (fun k => k = g) w w' := by
  subst hl
  obtain ⟨hc1, f1⟩ := own_at h (i : Int) (by omega) (by omega)
  obtain ⟨hc2, f2⟩ := own_at h (j : Int) (by omega) (by omega)
  have hs1 := (own_store h (i : Int) (rd F j)).1
  have hs2 := (own_store hs1 (j : Int) (rd F i)).1
  have hck := (own_at hs1 (j : Int) (by omega) (by omega)).1
  simp only [Int.toNat_natCast] at hc1 hc2 f1 f2 hs2 hck
  have hck2 := fun q => (show ((w.drewN q).setCell ⟨g, i, none⟩ (.int .i64 (rd F j))).cell? ⟨g, j, none⟩ = _ from hck)
  have hck1 : (w.drew.setCell ⟨g, i, none⟩ (.int .i64 (rd F j))).cell? ⟨g, j, none⟩ = _ := hck
  have Hs2 := Lib.hid hs2
  have p1 : (0 : Int) ≤ (i : Int) := by omega
  have p2 : (i : Int) < (F.length : Int) := by omega
  have p3 : (0 : Int) ≤ (j : Int) := by omega
  have p4 : (j : Int) < (F.length : Int) := by omega
  clear hs1 hs2 h
  go_enter Try.func80, Try.ntmps80
  go_wp2
  go_region
  all_goals
    go_end0
    refine ⟨rfl, ?_, ?_⟩
    · unfold Row3
      rw [swapL_length]
      exact Hs2.out
    · exact (((Kept.refl (fun k => k = g) w).setCell (p := ⟨g, i, none⟩) (.inl rfl) _).setCell (p := ⟨g, j, none⟩) (.inl rfl) _).drew
end Go.Proofs.Ytgchgkffoplogaa
