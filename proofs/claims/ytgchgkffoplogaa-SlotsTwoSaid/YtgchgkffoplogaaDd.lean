/- does: one step on both. -/
import Derived.Test.YtgchgkffoplogaaDc
namespace Go.Proofs.Ytgchgkffoplogaa
open Go.RowKit Go.Proofs.YtgchgkffoplogaaW.PrintWords
set_option linter.unusedVariables false
set_option linter.unusedSimpArgs false

theorem Step.of_below {W W' : World} {own : Nat → Nat} {t1 t2 t3 t : Nat} (h : Below W.heap.size W W') (ht : t = 0 ∨ t = t1 ∨ t = t2 ∨ t = t3) : Step W W' own (tagged own W.heap.size t) t1 t2 t3 :=
  ⟨h.os, h.tape, h.output, h.size, fun k hk => tagged_lt hk, fun k hk => by rw [tagged_ge hk]; exact ht, fun k hk _ _ => h.block k hk⟩
theorem Step.of_kept {W W' : World} {own : Nat → Nat} {t1 t2 t3 t : Nat} (h : Kept (fun k => own k = t) W W') (ht : t = t1 ∨ t = t2) : Step W W' own (tagged own W.heap.size t) t1 t2 t3 :=
  ⟨h.os, h.tape, h.output, h.size, fun k hk => tagged_lt hk, fun k hk => by rw [tagged_ge hk]; rcases ht with e | e <;> simp [e], fun k hk h1 h2 => h.block k hk (fun e => by rcases ht with e' | e' <;> simp_all)⟩

/-- What 'does' answers and leaves. -/
def DoesPost (W : World) (own : Nat → Nat) (t1 t2 t3 B C : Nat) (X : List (List Int)) (e : Ending) (W' : World) : Prop :=
  e = .returned (.bool true) ∧ ∃ own' X' T', Pair W' own' t1 t2 t3 B C (X'.map (rd · 0)) T' X' T' ∧ X'.length ≤ X.length + 1 ∧ Step W W' own own' t1 t2 t3

theorem map_set_rd (X : List (List Int)) (i : Nat) (xs : List Int) (x : Int) (hx : rd xs 0 = x) : (X.map (rd · 0)).set i x = (X.set i xs).map (rd · 0) := by rw [List.map_set, hx]

set_option maxRecDepth 100000 in
set_option maxHeartbeats 1600000 in
theorem does_free {W : World} {own : Nat → Nat} {t1 t2 t3 B C : Nat} {X : List (List Int)} {T : List Bool} (h : Pair W own t1 t2 t3 B C (X.map (rd · 0)) T X T) (g : Tags t1 t2 t3) (hl : X.length ≤ 100000) (n v : Int) :
    Calls Try.prog 18 #[.pointer (some ⟨B, 0, none⟩), .pointer (some ⟨C, 0, none⟩), .agg #[.int .i64 4, .int .i64 n, .int .i64 v]] W fun e W' => DoesPost W own t1 t2 t3 B C X e W' := by
  obtain ⟨bx, hbx⟩ : ∃ bx, bx = W.heap.size := ⟨_, rfl⟩
  obtain ⟨W1, hW1⟩ : ∃ W1, W1 = W.alloc (.cells #[.int .i64 4, .int .i64 n, .int .i64 v] 41) := ⟨_, rfl⟩
  have hb1 : Below W.heap.size W W1.drew := by rw [hW1]; exact below_drew (below_alloc (Below.refl _ _) _)
  have h1 := h.onNew 0 hb1
  have s1 : Step W W1.drew own _ t1 t2 t3 := Step.of_below hb1 (.inl rfl)
  have ho1 : tagged own W.heap.size 0 bx = 0 := tagged_ge (by omega)
  have hk1 : W1.heap[bx]? = some (.cells #[.int .i64 4, .int .i64 n, .int .i64 v] 41 (0, 0)) := by rw [hbx, hW1]; exact blk_new _ _
  have k0 := blk_cell hk1 0
  have c1 := blk_cell hk1 1
  have c1d : W1.drew.cell? ⟨bx, 1, none⟩ = some (.int .i64 n) := c1
  generalize tagged own W.heap.size 0 = own1 at *
  have hf := h1.free g (by rw [List.length_map]; exact hl) n
  have Hf := Lib.hid hf
  have Hg := Lib.hid (fun (w2 : World) (hp : Pair w2 (tagged own1 W1.drew.heap.size t1) t1 t2 t3 B C (if isT T n then (X.map (rd · 0)).set n.toNat 0 else (X.map (rd · 0))) (if isT T n then T.set n.toNat false else T) X T) => hp.rfree g hl n)
  have Hs1 := Lib.hid s1
  have hlt : bx < W1.drew.heap.size := blk_lt (w := W1.drew) hk1
  have Hbx := Lib.hid hbx; have HW1 := Lib.hid hW1; have Ho1 := Lib.hid ho1; have Hk1 := Lib.hid hk1
  clear hf s1 h1 hb1 h hbx hW1 ho1 hk1 k0 c1
  have hcb : ∀ w2 : World, Kept (fun k => own1 k = t1) W1.drew w2 → w2.heap[bx]? = some (.cells #[.int .i64 4, .int .i64 n, .int .i64 v] 41 (0, 0))   := fun w2 hk => (hk.block bx hlt (fun e => g.p1 (e.symm.trans Ho1.out))).trans Hk1.out
  have Hcb := Lib.hid hcb; clear hcb
  go_enter Try.func18, Try.ntmps18
  go_upto_region 11 with (fail)
  rw [← HW1.out, ← Hbx.out]
  go_region_held3 (fun w' => w'.cell? ⟨bx, 1, none⟩ = some (.int .i64 n)) (first | exact c1d | exact c2 | exact c3) ((first | (go_at_call 17; refine Hf.out.mono ?_; rintro e w2 ⟨rfl, hB, hk⟩; have hk2 := Hcb.out _ hk; have c2 := blk_cell hk2 1; have HB := Lib.hid hB; have HK := Lib.hid hk; have HK2 := Lib.hid hk2; clear hB hk hk2) | (go_at_call 46; refine (Hg.out w2 HB.out).mono ?_; rintro e w3 ⟨rfl, hB3, hk3⟩; have c3 : w3.cell? ⟨bx, 1, none⟩ = some (.int .i64 n) := blk_cell ((hk3.block bx (blk_lt HK2.out) (fun e => by rw [tagged_lt hlt] at e; exact g.p2 (e.symm.trans Ho1.out))).trans HK2.out) 1; have HB3 := Lib.hid hB3; have HK3 := Lib.hid hk3; clear hB3 hk3)))
  go_wp2
  go_ret
  refine ⟨rfl, _, (if isT T n then X.set n.toNat [] else X), (if isT T n then T.set n.toNat false else T), ?_, ?_, (Hs1.out.trans (Step.of_kept HK.out (.inl rfl))).trans (Step.of_kept HK3.out (.inr rfl))⟩
  · have hp := HB3.out
    cases hb : isT T n
    · simpa [hb] using hp
    · simp only [hb, if_true] at hp ⊢
      rw [map_set_rd X n.toNat [] 0 rfl] at hp
      exact hp
  · split <;> simp
end Go.Proofs.Ytgchgkffoplogaa
