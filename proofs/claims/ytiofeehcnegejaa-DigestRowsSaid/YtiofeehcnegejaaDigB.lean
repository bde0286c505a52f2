/- Walks. -/
import Derived.Test.YtiofeehcnegejaaDigA
import Derived.Test.YtiofeehcnegejaaWWords
import Derived.LoopTactic
import Derived.Outline
import Derived.Lib.Hide
namespace Go.Proofs.Ytiofeehcnegejaa
open Go.RowKit Go.Proofs.YtiofeehcnegejaaW.PrintWords

theorem and31 : bits .and .u64 31 63 = 31 := by decide
theorem and60 : bits .and .u64 (IntKind.u64.wrap (-4)) 63 = 60 := by decide +kernel
/-- A word turned left by 31. -/
def rotA (h : Int) : Int := bits .or .u64 (IntKind.u64.wrap (h * 2147483648)) (h / 8589934592)
/-- A word turned right by 4. -/
def rotB (h : Int) : Int := bits .or .u64 (IntKind.u64.wrap (h * 1152921504606846976)) (h / 16)
set_option maxRecDepth 100000 in
theorem rot31 (h : Int) (w : World) :
    Calls Try.prog 29 #[.int .u64 h, .int .i64 31] w fun e w' => e = .returned (.int .u64 (rotA h)) ∧ w = w' := by
  have := and31
  go_enter Try.func29, Try.ntmps29
  go_wp2
  go_ret
  exact ⟨rfl, rfl⟩
set_option maxRecDepth 100000 in
theorem rot60 (h : Int) (w : World) :
    Calls Try.prog 29 #[.int .u64 h, .int .i64 (-4)] w fun e w' => e = .returned (.int .u64 (rotB h)) ∧ w = w' := by
  have := and60
  go_enter Try.func29, Try.ntmps29
  go_wp2
  go_ret
  exact ⟨rfl, rfl⟩

def numI (n : Int) : Int := hashI (rotB (IntKind.u64.wrap n)) (-2)
theorem cellB (W : World) (n : Int) : (W.alloc (.cells #[.int .i64 n] 3)).cell? ⟨W.heap.size, 0, none⟩ = some (.int .i64 n) := (World.cell?_alloc_new W #[.int .i64 n] 3 0).trans rfl
set_option maxRecDepth 100000 in
theorem number_any (n : Int) (w : World) :
    Calls Try.prog 16 #[.int .i64 n] w fun e w' => e = .returned (.int .i64 (numI n)) ∧ Below w.heap.size w w' := by
  go_enter Try.func16, Try.ntmps16
  go_wp2_with (first | (go_at_call 29; refine (rot60 _ _).mono ?_; rintro e w' ⟨rfl, rfl⟩) | (go_at_call 25; refine (stands_any _ _).mono ?_; rintro e w' ⟨rfl, rfl⟩) | (go_at_call 24; refine (hash_any _ _ _ _ (cellB _ _)).mono ?_; rintro e w' ⟨rfl, rfl⟩))
  go_ret
  exact ⟨rfl, (Below.refl _ _).alloc (Nat.le_refl _) _⟩

def frozStep (h p : Int) : Int := bits .xor .u64 h (IntKind.u64.wrap (bits .xor .u64 (bits .xor .u64 p 89869747) (IntKind.u64.wrap (p * 65536)) * 3644798167))
def tupStep (h p : Int) : Int := IntKind.u64.wrap (rotA (IntKind.u64.wrap (h + IntKind.u64.wrap (p * 14029467366897019727))) * 11400714785074694791)
set_option maxRecDepth 100000 in
theorem froz1_any (h p : Int) (w : World) :
    Calls Try.prog 31 #[.int .u64 h, .int .u64 p] w fun e w' => e = .returned (.int .u64 (frozStep h p)) ∧ w = w' := by
  go_enter Try.func31, Try.ntmps31
  go_wp2
  go_ret
  exact ⟨rfl, rfl⟩
set_option maxRecDepth 100000 in
theorem tup1_any (h p : Int) (w : World) :
    Calls Try.prog 32 #[.int .u64 h, .int .u64 p] w fun e w' => e = .returned (.int .u64 (tupStep h p)) ∧ w = w' := by
  go_enter Try.func32, Try.ntmps32
  go_wp2_with (go_at_call 29; refine (rot31 _ _).mono ?_; rintro e w' ⟨rfl, rfl⟩)
  go_ret
  exact ⟨rfl, rfl⟩

def foldW (st : Int → Int → Int) (h : Int) (xs : List Int) : Int := xs.foldl (fun h p => st h (IntKind.u64.wrap p)) h
theorem foldW_snoc (st : Int → Int → Int) (h : Int) (xs : List Int) (k : Nat) (hk : k < xs.length) :
    foldW st h (xs.take (k + 1)) = st (foldW st h (xs.take k)) (IntKind.u64.wrap (rd xs k)) := by
  unfold foldW
  rw [List.take_succ_eq_append_getElem hk, List.foldl_append]
  simp [rd, List.getD, hk]

set_option maxHeartbeats 400000 in
set_option maxRecDepth 100000 in
theorem foldFroz (h : Int) (A : Option Addr) (n c : Nat) (xs : List Int) (w : World) (hr : ReadsInt w .i64 A n xs) (hn : n ≤ 9223372036854775807) :
    Calls Try.prog 30 #[.int .u64 h, .func (.func 31) #[] #[], .slice A n c] w fun e w' => e = .returned (.int .u64 (foldW frozStep h xs)) ∧ w = w' := by
  have hl : xs.length = n := hr.1
  have hsn := foldW_snoc frozStep h xs
  have Hsn := Lib.hid hsn; clear hsn
  have Hl := Lib.hid hl; clear hl
  have Hr := Lib.hid hr; clear hr
  go_enter Try.func30, Try.ntmps30
  go_wp2
  go_loop [0, 11] (fun a i => ∃ k : Nat, k ≤ n ∧ i = .int .i64 k ∧ a = .int .u64 (foldW frozStep h (xs.take k))) (fun _ i => n - (intOf i).toNat)
  case atStart => exact ⟨0, Nat.zero_le _, rfl, rfl⟩
  case round =>
    obtain ⟨k, hk, rfl, rfl⟩ := hrel
    by_cases hlt : k < n
    · obtain ⟨ad, rfl, hc⟩ := Hr.out.at_ (k : Int) (by omega) (by omega)
      rw [Int.toNat_natCast] at hc
      go_wp2_with (go_at_call 31; refine (froz1_any _ _ _).mono ?_; rintro e w' ⟨rfl, rfl⟩)
      go_round
      case rel => exact ⟨k + 1, by omega, by go_num, by rw [Hsn.out k (by rw [Hl.out]; exact hlt)]⟩
      case measure => simp [intOf]; omega
    · go_wp2
      go_ret
      exact ⟨by rw [List.take_of_length_le (by rw [Hl.out]; omega)]; rfl, rfl⟩
end Go.Proofs.Ytiofeehcnegejaa
