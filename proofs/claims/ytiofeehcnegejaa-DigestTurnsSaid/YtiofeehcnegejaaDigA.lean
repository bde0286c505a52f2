/- The walks of digest.stands, its closure, and digest.hash: for every word and every number that stands in the place of -1. -/
import Derived.Test.YtiofeehcnegejaaProg
import Derived.WalkKit
import Derived.Below
import Derived.KernelRfl
namespace Go.Proofs.Ytiofeehcnegejaa
open Go.RowKit

/-- What a word is as a hash, n standing for -1. -/
def hashI (h n : Int) : Int := if wrap64 h = -1 then n else wrap64 h

set_option maxRecDepth 100000 in
theorem stands_any (n : Int) (w : World) :
    Calls Try.prog 25 #[.int .i64 n] w fun e w' => e = .returned (.func (.func 36) #[] #[.pointer (some ⟨w.heap.size, 0, none⟩)]) ∧ w' = w.alloc (.cells #[.int .i64 n] 3) := by
  go_enter Try.func25, Try.ntmps25
  go_wp2
  go_ret
  exact ⟨rfl, rfl⟩

theorem stands1_any (n : Int) (B : Nat) (w : World) (hc : w.cell? ⟨B, 0, none⟩ = some (.int .i64 n)) :
    Calls Try.prog 36 #[.pointer (some ⟨B, 0, none⟩)] w fun e w' => e = .returned (.int .i64 n) ∧ w = w' := by
  go_enter Try.func36, Try.ntmps36
  go_wp2
  go_ret
  exact ⟨rfl, rfl⟩

theorem hash_any (h n : Int) (B : Nat) (w : World) (hc : w.cell? ⟨B, 0, none⟩ = some (.int .i64 n)) :
    Calls Try.prog 24 #[.int .u64 h, .func (.func 36) #[] #[.pointer (some ⟨B, 0, none⟩)]] w fun e w' => e = .returned (.int .i64 (hashI h n)) ∧ w = w' := by
  by_cases h1 : wrap64 h = -1
  · have hb : (wrap64 h == -1) = true := beq_iff_eq.2 h1
    have hr : hashI h n = n := by simp [hashI, h1]
    clear h1
    rw [hr]
    clear hr
    go_enter Try.func24, Try.ntmps24
    go_wp2_with (go_at_call 36; refine (stands1_any n B w hc).mono ?_; rintro e w' ⟨rfl, rfl⟩)
    go_ret
    exact ⟨rfl, rfl⟩
  · have hb : (wrap64 h == -1) = false := beq_eq_false_iff_ne.2 h1
    have hr : hashI h n = wrap64 h := by simp [hashI, h1]
    clear h1
    rw [hr]
    clear hr
    go_enter Try.func24, Try.ntmps24
    go_wp2
    go_ret
    exact ⟨rfl, rfl⟩
end Go.Proofs.Ytiofeehcnegejaa
