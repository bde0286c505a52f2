/- The walk of the law SlotsPlay. -/
import Derived.Test.YtgchgkffoplogaaDi
namespace Go.Proofs.Ytgchgkffoplogaa
open Go.RowKit Go.Proofs.YtgchgkffoplogaaW.PrintWords
set_option linter.unusedVariables false
set_option linter.unusedSimpArgs false

/-- A pair as it stands at the loop's head. -/
def PlayAt (w W : World) (B C : Nat) (X : List (List Int)) (T : List Bool) : Prop := ∃ own, Pair W own 1 2 3 B C (X.map (rd · 0)) T X T ∧ (∀ k, k < w.heap.size → own k = 0) ∧ Below w.heap.size w W

theorem PlayAt.does {w W : World} {B C : Nat} {X : List (List Int)} {T : List Bool} (h : PlayAt w W B C X T) (hl : X.length ≤ 100000) (k n v : Int) :
    Calls Try.prog 18 #[.pointer (some ⟨B, 0, none⟩), .pointer (some ⟨C, 0, none⟩), .agg #[.int .i64 k, .int .i64 n, .int .i64 v]] W fun e W' => e = .returned (.bool true) ∧ ∃ X' T', PlayAt w W' B C X' T' ∧ X'.length ≤ X.length + 1 := by
  obtain ⟨own, hp, h0, hb⟩ := h
  refine (does_any hp tags123 hl k n v).mono ?_
  rintro e W' ⟨rfl, own', X', T', hp', hx, hs⟩
  exact ⟨rfl, X', T', ⟨own', hp', fun i hi => (hs.old i (by have := hb.size; omega)).trans (h0 i hi), hb.trans (hs.below hb.size (fun i hi => by rw [h0 i hi]; decide))⟩, hx⟩
theorem PlayAt.below {w W W' : World} {B C : Nat} {X : List (List Int)} {T : List Bool} (h : PlayAt w W B C X T) (hb : Below W.heap.size W W') : PlayAt w W' B C X T := by
  obtain ⟨own, hp, h0, hb0⟩ := h
  exact ⟨_, hp.onNew 0 hb, fun k hk => by rw [tagged_lt (by have := hb0.size; omega)]; exact h0 k hk, below_then hb0 hb0.size hb⟩
theorem PlayAt.lens {w W : World} {B C : Nat} {X : List (List Int)} {T : List Bool} (h : PlayAt w W B C X T) : T.length = X.length := by
  obtain ⟨own, hp, _, _⟩ := h; exact hp.ref.len
theorem PlayAt.len_ {w W : World} {B C : Nat} {X : List (List Int)} {T : List Bool} (h : PlayAt w W B C X T) (hl : X.length ≤ 100000) :
    Calls Try.prog 16 #[.pointer (some ⟨B, 0, none⟩)] W fun e W' => e = .returned (.int .i64 (cnt T)) ∧ PlayAt w W' B C X T := by
  obtain ⟨own, hp, h0, hb⟩ := id h
  refine (tlen_any hp.tab (by rw [List.length_map]; exact hl)).mono ?_
  rintro e W' ⟨rfl, q, rfl⟩
  exact ⟨rfl, h.below (pw_below_drewN (Below.refl _ _) q)⟩
theorem PlayAt.high_ {w W : World} {B C : Nat} {X : List (List Int)} {T : List Bool} (h : PlayAt w W B C X T) :
    Calls Try.prog 15 #[.pointer (some ⟨B, 0, none⟩)] W fun e W' => e = .returned (.int .i64 T.length) ∧ W = W' := by
  obtain ⟨own, hp, h0, hb⟩ := id h
  exact thigh_any hp.tab
theorem PlayAt.cell {w W : World} {B C : Nat} {X : List (List Int)} {T : List Bool} (h : PlayAt w W B C X T) : ∃ A c, W.cell? ⟨C, 0, none⟩ = some (.slice A T.length c) := by
  obtain ⟨own, hp, h0, hb⟩ := h
  obtain ⟨vL, vT, M, hr⟩ := hp.ref
  obtain ⟨A, c, rfl⟩ := own_slice hr.rl
  exact ⟨A, c, by rw [hr.len]; exact blk_cell hr.blk 0⟩
theorem PlayAt.all_ {w W : World} {B C : Nat} {X : List (List Int)} {T : List Bool} (h : PlayAt w W B C X T) (hl : X.length ≤ 100000) :
    Calls Try.prog 19 #[.pointer (some ⟨C, 0, none⟩)] W fun e W' => ∃ A c, e = .returned (.slice A (cnt T) c) ∧ PlayAt w W' B C X T := by
  obtain ⟨own, hp, h0, hb⟩ := id h
  obtain ⟨vL, vT, M, hr⟩ := hp.ref
  refine (refAll_any hr (by rw [← hr.lenX]; exact hl)).mono ?_
  rintro e W' ⟨v, rfl, hown, hb'⟩
  rw [takes_len] at hown
  obtain ⟨A, c, rfl⟩ := own_slice hown
  exact ⟨A, c, rfl, h.below hb'⟩
/-- An iterator of a pair's table. -/
def ItOf (W : World) (lb : Nat) (X : List (List Int)) (T : List Bool) : Prop := ∃ base v, IterAt base W (.func (.func 47) #[] #[.pointer (some ⟨lb, 0, none⟩)]) (pairsTo (X.map (rd · 0)) T T.length) lb v
theorem ItOf.below {W W' : World} {lb : Nat} {X : List (List Int)} {T : List Bool} (h : ItOf W lb X T) (hb : Below W.heap.size W W') : ItOf W' lb X T := by
  obtain ⟨base, v, h⟩ := h; exact ⟨base, v, h.below hb⟩
theorem PlayAt.iter {w W : World} {B C : Nat} {X : List (List Int)} {T : List Bool} (h : PlayAt w W B C X T) (hl : X.length ≤ 100000) :
    Calls Try.prog 20 #[.pointer (some ⟨B, 0, none⟩)] W fun e W' => e = .returned (.func (.func 47) #[] #[.pointer (some ⟨W.heap.size, 0, none⟩)]) ∧ ItOf W' W.heap.size X T ∧ PlayAt w W' B C X T := by
  obtain ⟨own, hp, h0, hb⟩ := id h
  refine (all_any hp.tab (by rw [List.length_map]; exact hl)).mono ?_
  rintro e W' ⟨it, rfl, ⟨v, hI⟩, hb'⟩
  obtain rfl := hI.fn
  exact ⟨rfl, ⟨_, v, hI⟩, h.below hb'⟩
theorem PlayAt.goes_ {w W : World} {B C lb : Nat} {X : List (List Int)} {T : List Bool} (h : PlayAt w W B C X T) (hI : ItOf W lb X T) (hl : X.length ≤ 100000) (stop : Int) :
    Calls Try.prog 21 #[.func (.func 47) #[] #[.pointer (some ⟨lb, 0, none⟩)], .pointer (some ⟨C, 0, none⟩), .int .i64 stop] W fun e W' => e = .returned (.bool true) ∧ ItOf W' lb X T ∧ PlayAt w W' B C X T := by
  obtain ⟨own, hp, h0, hb⟩ := id h
  obtain ⟨base, v, hI'⟩ := id hI
  refine (pair_goes hp hl hI' stop).mono ?_
  rintro e W' ⟨rfl, hb'⟩
  exact ⟨rfl, hI.below hb', h.below hb'⟩
theorem PlayAt.bel {w W : World} {B C : Nat} {X : List (List Int)} {T : List Bool} (h : PlayAt w W B C X T) : Below w.heap.size w W := by
  obtain ⟨own, hp, h0, hb⟩ := h; exact hb
end Go.Proofs.Ytgchgkffoplogaa
