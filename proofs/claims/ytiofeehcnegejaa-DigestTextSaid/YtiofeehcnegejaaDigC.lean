/- Walks: digest.Tuple, digest.Frozen, digest.Text and what the document's own answer has beside them. -/
import Derived.Test.YtiofeehcnegejaaDigB
namespace Go.Proofs.Ytiofeehcnegejaa
open Go.RowKit Go.Proofs.YtiofeehcnegejaaW.PrintWords

set_option maxHeartbeats 400000 in
set_option maxRecDepth 100000 in
theorem foldTup (h : Int) (A : Option Addr) (n c : Nat) (xs : List Int) (w : World) (hr : ReadsInt w .i64 A n xs) (hn : n ≤ 9223372036854775807) :
    Calls Try.prog 30 #[.int .u64 h, .func (.func 32) #[] #[], .slice A n c] w fun e w' => e = .returned (.int .u64 (foldW tupStep h xs)) ∧ w = w' := by
  have hl : xs.length = n := hr.1
  have hsn := foldW_snoc tupStep h xs
  have Hsn := Lib.hid hsn; clear hsn
  have Hl := Lib.hid hl; clear hl
  have Hr := Lib.hid hr; clear hr
  go_enter Try.func30, Try.ntmps30
  go_wp2
  go_loop [0, 11] (fun a i => ∃ k : Nat, k ≤ n ∧ i = .int .i64 k ∧ a = .int .u64 (foldW tupStep h (xs.take k))) (fun _ i => n - (intOf i).toNat)
  case atStart => exact ⟨0, Nat.zero_le _, rfl, rfl⟩
  case round =>
    obtain ⟨k, hk, rfl, rfl⟩ := hrel
    by_cases hlt : k < n
    · obtain ⟨ad, rfl, hc⟩ := Hr.out.at_ (k : Int) (by omega) (by omega)
      rw [Int.toNat_natCast] at hc
      go_wp2_with (go_at_call 32; refine (tup1_any _ _ _).mono ?_; rintro e w' ⟨rfl, rfl⟩)
      go_round
      case rel => exact ⟨k + 1, by omega, by go_num, by rw [Hsn.out k (by rw [Hl.out]; exact hlt)]⟩
      case measure => simp [intOf]; omega
    · go_wp2
      go_ret
      exact ⟨by rw [List.take_of_length_le (by rw [Hl.out]; omega)]; rfl, rfl⟩

/-- What a frozen set's hash ends in. -/
def frozEnd0 (h : Int) : Int := IntKind.u64.wrap (IntKind.u64.wrap (bits .xor .u64 h (bits .xor .u64 (h / 2048) (h / 33554432)) * 69069) + 907133923)
def frozEnd (h n : Int) : Int := frozEnd0 (bits .xor .u64 h (IntKind.u64.wrap ((n + 1) * 1927868237)))
def tupEnd (h n : Int) : Int := IntKind.u64.wrap (h + bits .xor .u64 (bits .xor .u64 n 2870177450012600261) 3527539)
def frozI (xs : List Int) : Int := hashI (frozEnd (foldW frozStep 0 xs) xs.length) 590923713
def tupI (xs : List Int) : Int := hashI (tupEnd (foldW tupStep 2870177450012600261 xs) xs.length) 1546275796

set_option maxHeartbeats 400000 in
set_option maxRecDepth 100000 in
theorem frozen_any (A : Option Addr) (n c : Nat) (xs : List Int) (w : World) (hr : ReadsInt w .i64 A n xs) (hn : n ≤ 9223372036854775807) :
    Calls Try.prog 18 #[.slice A n c] w fun e w' => e = .returned (.int .i64 (frozI xs)) ∧ Below w.heap.size w w' := by
  have hl : xs.length = n := hr.1
  subst hl
  have Hr := Lib.hid hr; clear hr
  go_enter Try.func18, Try.ntmps18
  go_wp2_with (first | (go_at_call 30; refine (foldFroz _ _ _ _ xs _ Hr.out hn).mono ?_; rintro e w' ⟨rfl, rfl⟩) | (go_at_call 25; refine (stands_any _ _).mono ?_; rintro e w' ⟨rfl, rfl⟩) | (go_at_call 24; refine (hash_any _ _ _ _ (cellB _ _)).mono ?_; rintro e w' ⟨rfl, rfl⟩))
  go_ret
  exact ⟨rfl, (Below.refl _ _).alloc (Nat.le_refl _) _⟩

set_option maxHeartbeats 400000 in
set_option maxRecDepth 100000 in
theorem tuple_any (A : Option Addr) (n c : Nat) (xs : List Int) (w : World) (hr : ReadsInt w .i64 A n xs) (hn : n ≤ 9223372036854775807) :
    Calls Try.prog 19 #[.slice A n c] w fun e w' => e = .returned (.int .i64 (tupI xs)) ∧ Below w.heap.size w w' := by
  have hl : xs.length = n := hr.1
  subst hl
  have Hr := Lib.hid hr; clear hr
  go_enter Try.func19, Try.ntmps19
  go_wp2_with (first | (go_at_call 30; refine (foldTup _ _ _ _ xs _ Hr.out hn).mono ?_; rintro e w' ⟨rfl, rfl⟩) | (go_at_call 25; refine (stands_any _ _).mono ?_; rintro e w' ⟨rfl, rfl⟩) | (go_at_call 24; refine (hash_any _ _ _ _ (cellB _ _)).mono ?_; rintro e w' ⟨rfl, rfl⟩))
  go_ret
  exact ⟨rfl, (Below.refl _ _).alloc (Nat.le_refl _) _⟩

def textStep (h c : Int) : Int := IntKind.u64.wrap (bits .xor .u64 h c * 1099511628211)
def textW (s : ByteArray) (k : Nat) : Int := (List.range k).foldl (fun h (i : Nat) => textStep h (bt s i)) 14695981039346656037
theorem textW_succ (s : ByteArray) (k : Nat) : textW s (k + 1) = textStep (textW s k) (bt s k) := by simp [textW, List.range_succ]
def textI (s : ByteArray) : Int := hashI (textW s s.size) (-2)

set_option maxHeartbeats 400000 in
set_option maxRecDepth 100000 in
theorem text_any (s : ByteArray) (w : World) (hn : s.size ≤ 9223372036854775807) :
    Calls Try.prog 14 #[.string s] w fun e w' => e = .returned (.int .i64 (textI s)) ∧ Below w.heap.size w w' := by
  have hsn := textW_succ s
  have Hsn := Lib.hid hsn; clear hsn
  go_enter Try.func14, Try.ntmps14
  go_wp2
  go_loop [3, 7] (fun a i => ∃ k : Nat, k ≤ s.size ∧ i = .int .i64 k ∧ a = .int .u64 (textW s k)) (fun _ i => s.size - (intOf i).toNat)
  case atStart => exact ⟨0, Nat.zero_le _, rfl, rfl⟩
  case round =>
    obtain ⟨k, hk, rfl, rfl⟩ := hrel
    by_cases hlt : k < s.size
    · have hb : bt s k = ((s[k]'hlt).toNat : Int) := by simp [bt, hlt]
      have hb0 := bt_range s k
      have Hb := Lib.hid hb; clear hb
      rw [Hb.out] at hb0
      obtain ⟨hb1, hb2⟩ := hb0
      have hw : IntKind.u64.wrap ((s[k]'hlt).toNat : Int) = ((s[k]'hlt).toNat : Int) := by rw [IntKind.wrap_u64]; omega
      go_wp2
      go_round
      case rel => exact ⟨k + 1, by omega, by go_num, by rw [Hsn.out k, Hb.out]; rfl⟩
      case measure => simp [intOf]; omega
    · have hk' : k = s.size := by omega
      have Hk := Lib.hid hk'; clear hk'
      go_wp2_with (first | (go_at_call 25; refine (stands_any _ _).mono ?_; rintro e w' ⟨rfl, rfl⟩) | (go_at_call 24; refine (hash_any _ _ _ _ (cellB _ _)).mono ?_; rintro e w' ⟨rfl, rfl⟩))
      go_ret
      exact ⟨by rw [Hk.out]; rfl, (Below.refl _ _).alloc (Nat.le_refl _) _⟩

theorem instead_any (h n : Int) (w : World) :
    Calls Try.prog 28 #[.int .u64 h, .int .i64 n] w fun e w' => e = .returned (.int .i64 (hashI h n)) ∧ w = w' := by
  by_cases h1 : wrap64 h = -1
  · have hb : (wrap64 h == -1) = true := beq_iff_eq.2 h1
    have hr : hashI h n = n := by simp [hashI, h1]
    clear h1
    rw [hr]
    clear hr
    go_enter Try.func28, Try.ntmps28
    go_wp2
    go_ret
    exact ⟨rfl, rfl⟩
  · have hb : (wrap64 h == -1) = false := beq_eq_false_iff_ne.2 h1
    have hr : hashI h n = wrap64 h := by simp [hashI, h1]
    clear h1
    rw [hr]
    clear hr
    go_enter Try.func28, Try.ntmps28
    go_wp2
    go_ret
    exact ⟨rfl, rfl⟩

set_option maxHeartbeats 400000 in
set_option maxRecDepth 100000 in
theorem refText_any (s : ByteArray) (w : World) (hn : s.size ≤ 9223372036854775807) :
    Calls Try.prog 15 #[.string s] w fun e w' => e = .returned (.int .i64 (textI s)) ∧ w = w' := by
  have hsn := textW_succ s
  have Hsn := Lib.hid hsn; clear hsn
  go_enter Try.func15, Try.ntmps15
  go_wp2
  go_loop [3, 4] (fun a i => ∃ k : Nat, k ≤ s.size ∧ i = .int .i64 k ∧ a = .int .u64 (textW s k)) (fun _ i => s.size - (intOf i).toNat)
  case atStart => exact ⟨0, Nat.zero_le _, rfl, rfl⟩
  case round =>
    obtain ⟨k, hk, rfl, rfl⟩ := hrel
    by_cases hlt : k < s.size
    · have hb : bt s k = ((s[k]'hlt).toNat : Int) := by simp [bt, hlt]
      have hb0 := bt_range s k
      have Hb := Lib.hid hb; clear hb
      rw [Hb.out] at hb0
      obtain ⟨hb1, hb2⟩ := hb0
      have hw : IntKind.u64.wrap ((s[k]'hlt).toNat : Int) = ((s[k]'hlt).toNat : Int) := by rw [IntKind.wrap_u64]; omega
      go_wp2
      go_round
      case rel => exact ⟨k + 1, by omega, by go_num, by rw [Hsn.out k, Hb.out]; rfl⟩
      case measure => simp [intOf]; omega
    · have hk' : k = s.size := by omega
      have Hk := Lib.hid hk'; clear hk'
      go_wp2_with (go_at_call 28; refine (instead_any _ _ _).mono ?_; rintro e w' ⟨rfl, rfl⟩)
      go_ret
      exact ⟨by rw [Hk.out]; rfl, rfl⟩

def refNumI (n : Int) : Int := hashI (bits .or .u64 (IntKind.u64.wrap n / 16) (IntKind.u64.wrap (IntKind.u64.wrap n * 1152921504606846976))) (-2)
theorem refNumber_any (n : Int) (w : World) :
    Calls Try.prog 17 #[.int .i64 n] w fun e w' => e = .returned (.int .i64 (refNumI n)) ∧ w = w' := by
  go_enter Try.func17, Try.ntmps17
  go_wp2_with (go_at_call 28; refine (instead_any _ _ _).mono ?_; rintro e w' ⟨rfl, rfl⟩)
  go_ret
  exact ⟨rfl, rfl⟩
end Go.Proofs.Ytiofeehcnegejaa
