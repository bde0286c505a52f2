/- Free; New. -/
import Derived.Test.YtgchgkffoplogaaSh
namespace Go.Proofs.Ytgchgkffoplogaa
open Go.RowKit Go.Proofs.YtgchgkffoplogaaW.PrintWords
set_option linter.unusedVariables false
set_option linter.unusedSimpArgs false

theorem zero3 (w : World) : (zeroValue 3).run Try.prog w = .ok (.int .i64 0) w := by kernel_rfl

/-- The rows behind two stores. -/
theorem two_rows {w : World} {B gl cl gt ct m : Nat} {ok : Nat → Prop} {vf : Value} {L : List Int} {T : List Bool} {F : List Int} (x : Int) (b : Bool) (h : TabI w B ok (.slice (some ⟨gl, 0, none⟩) L.length cl) (.slice (some ⟨gt, 0, none⟩) L.length ct) vf L T F) :
    (w.setCell ⟨gl, m, none⟩ (.int .i64 x)).heap[B]? = some (.cells #[.slice (some ⟨gl, 0, none⟩) L.length cl, .slice (some ⟨gt, 0, none⟩) L.length ct, vf] 34 (0, 0)) ∧
    (w.setCell ⟨gl, m, none⟩ (.int .i64 x)).ownsRow 0 4 1 (.slice (some ⟨gt, 0, none⟩) L.length ct) L.length (encs Value.bool T) ∧
    Third ((w.setCell ⟨gl, m, none⟩ (.int .i64 x)).setCell ⟨gt, m, none⟩ (.bool b)) B 34 (.slice (some ⟨gl, 0, none⟩) L.length cl) (.slice (some ⟨gt, 0, none⟩) L.length ct) vf F ∧
    ((w.setCell ⟨gl, m, none⟩ (.int .i64 x)).setCell ⟨gt, m, none⟩ (.bool b)).ownsRow 0 3 1 (.slice (some ⟨gl, 0, none⟩) L.length cl) L.length (encs (Value.int .i64) (L.set m x)) ∧
    ((w.setCell ⟨gl, m, none⟩ (.int .i64 x)).setCell ⟨gt, m, none⟩ (.bool b)).ownsRow 0 4 1 (.slice (some ⟨gt, 0, none⟩) L.length ct) L.length (encs Value.bool (T.set m b)) := by
  have hl := h.rl; have ht := h.rt
  have hne : some gl ≠ Value.ownBlock (.slice (some ⟨gt, 0, none⟩) L.length ct) := fun e => (own_type_ne hl ht (by decide)).elim (fun z => by simp [Value.ownBlock] at z) (fun z => z e)
  have hBl : B ≠ gl := fun e => own_ne hl h.blk (by decide) (by rw [e]; rfl)
  have hBt : B ≠ gt := fun e => own_ne ht h.blk (by decide) (by rw [e]; rfl)
  have hlt : gl ≠ gt := fun e => hne (by rw [e]; rfl)
  have hlf : some gl ≠ vf.ownBlock := fun e => h.ne gl rfl e.symm
  have htf : some gt ≠ vf.ownBlock := fun e => (own_type_ne ht h.rf (by decide)).elim (fun z => by simp [Value.ownBlock] at z) (fun z => z e)
  have s1 := own_store_of hl (m : Int) x
  have hb1 := blk_far h.blk (p := ⟨gl, m, none⟩) hBl (.int .i64 x)
  have ht1 := own_setCell ht (p := ⟨gl, m, none⟩) hne (.int .i64 x)
  have s2 := own_store_of ht1 (m : Int) b
  simp only [Int.toNat_natCast] at s1 s2
  exact ⟨hb1, ht1, ⟨blk_far hb1 hBt _, own_setCell (own_setCell h.rf (p := ⟨gl, m, none⟩) hlf _) (p := ⟨gt, m, none⟩) htf _⟩,
    own_setCell s1.1 (p := ⟨gt, m, none⟩) (fun e => hlt (Option.some.inj e).symm) _, s2.1⟩

theorem free_close {w w2 w3 : World} {B gl cl gt ct m : Nat} {ok : Nat → Prop} {vf v' : Value} {L : List Int} {T : List Bool} {F F' : List Int} {x : Int} {b : Bool} (h : TabI w B ok (.slice (some ⟨gl, 0, none⟩) L.length cl) (.slice (some ⟨gt, 0, none⟩) L.length ct) vf L T F)
    (hw2 : w2 = (w.setCell ⟨gl, m, none⟩ (.int .i64 x)).setCell ⟨gt, m, none⟩ (.bool b)) (hk : Kept (fun k => k = B ∨ vf.ownBlock = some k) w2 w3)
    (h3 : Third w3 B 34 (.slice (some ⟨gl, 0, none⟩) L.length cl) (.slice (some ⟨gt, 0, none⟩) L.length ct) v' F') (hat : Near w2 vf v') (hf : FreeOk F' (T.set m b)) :
    TabI w3 B (fun k => ok k ∨ w.heap.size ≤ k) (.slice (some ⟨gl, 0, none⟩) L.length cl) (.slice (some ⟨gt, 0, none⟩) L.length ct) v' (L.set m x) (T.set m b) F' ∧ Kept ok w w3 := by
  obtain ⟨_, _, h2, hl2, ht2⟩ := two_rows (m := m) x b h
  rw [← hw2] at h2 hl2 ht2
  have hsz : w2.heap.size = w.heap.size := by rw [hw2]; simp [World.size_setCell]
  have hl3 : w3.ownsRow 0 3 1 (.slice (some ⟨gl, 0, none⟩) L.length cl) L.length (encs (Value.int .i64) (L.set m x)) := own_move hl2 (fun k e => hk.block k (own_lt hl2 k e) (by
    rintro (rfl | e')
    · exact own_ne hl2 h2.blk (by decide) e.symm
    · exact h.ne k e e'))
  have ht3 : w3.ownsRow 0 4 1 (.slice (some ⟨gt, 0, none⟩) L.length ct) L.length (encs Value.bool (T.set m b)) := own_move ht2 (fun k e => hk.block k (own_lt ht2 k e) (by
    rintro (rfl | e')
    · exact own_ne ht2 h2.blk (by decide) e.symm
    · exact (own_type_ne ht2 h2.row (by decide)).elim (fun z => by rw [z] at e; simp at e) (fun z => z (e.trans e'.symm))))
  have hat' : Near w vf v' := hat.imp id (fun ⟨q, e, hq⟩ => ⟨q, e, by omega⟩)
  refine ⟨⟨h3.blk, by simpa using hl3, by simpa using ht3, h3.row, near_ne h.ne h.rl hat', hf, by simp [h.len], .inl h.okB, fun k e => .inl (h.okl k e), fun k e => .inl (h.okt k e), fun k e => ?_⟩, ?_⟩
  · rcases hat' with e1 | ⟨q, e1, hq⟩
    · exact .inl (h.okf k (e1 ▸ e))
    · rw [e1] at e; injection e with e; exact .inr (by omega)
  · have k1 : Kept ok w w2 := by
      rw [hw2]
      exact ((Kept.refl ok w).setCell (p := ⟨gl, m, none⟩) (.inl (h.okl _ rfl)) _).setCell (p := ⟨gt, m, none⟩) (.inl (h.okt _ rfl)) _
    exact k1.trans (hk.mono (fun k e _ => .inl (e.elim (fun e => e ▸ h.okB) (h.okf k))))

set_option maxRecDepth 100000 in
set_option maxHeartbeats 1600000 in
theorem free_any {w : World} {B : Nat} {ok : Nat → Prop} {L : List Int} {T : List Bool} (h : Tab w B ok L T) (hl : L.length ≤ 100000) (i : Int) :
    Calls Try.prog 17 #[.pointer (some ⟨B, 0, none⟩), .int .i64 i] w fun e w' => e = .returned (.bool (isT T i)) ∧ Tab w' B (fun k => ok k ∨ w.heap.size ≤ k) (if isT T i then L.set i.toNat 0 else L) (if isT T i then T.set i.toNat false else T) ∧ Kept ok w w' := by
  obtain ⟨vl, vt, vf, F, h⟩ := h
  have hhas := has_any h (by omega) i
  by_cases ht : isT T i = true
  · obtain ⟨h0, h1, hT⟩ := isT_lt ht
    obtain ⟨m, rfl⟩ := Int.eq_ofNat_of_zero_le h0
    rw [Int.toNat_natCast] at hT
    have hlen := h.len
    have hm : m < L.length := by omega
    have hFl : F.length ≤ L.length := by have := h.fr.len; omega
    obtain ⟨gl, cl, rfl, _, _⟩ := h.rl.form (by omega)
    obtain ⟨gt, ct, rfl, _, _⟩ := h.rt.form (by omega)
    obtain ⟨i3, hi3, z31, z32, z33⟩ := info_parts info3
    have hc0 : w.cell? ⟨B, 0, none⟩ = some (.slice (some ⟨gl, 0, none⟩) L.length cl) := blk_cell h.blk 0
    obtain ⟨hv, hvf⟩ := own_at_of (d := 0) h.rl (m : Int) (by omega) (by omega)
    rw [Int.toNat_natCast] at hv hvf
    have hcut : ∀ W : World, (Instr.slice 22 (.slice (some ⟨gl, 0, none⟩) L.length cl) (some (.int .i64 (m : Int))) (some (.int .i64 ((m : Int) + 1))) none).run Try.prog W = .ok (.slice (some ⟨gl, m, none⟩) 1 (cl - m)) W := by
      intro W
      have := own_le h.rl
      have e := cut_mid (P := Try.prog) 22 3 .i64 .i64 Try.underlying22 hi3 1 z32 (some ⟨gl, 0, none⟩) L.length cl (m : Int) ((m : Int) + 1) (by omega) (by omega) (by omega) this W
      rw [e, Int.toNat_natCast, show ((m : Int) + 1).toNat = m + 1 by omega, if_neg (by omega), Nat.mul_one, show m + 1 - m = 1 by omega]
      simp [add_at]
    obtain ⟨w1, hw1⟩ : ∃ w1, w1 = w.setCell ⟨gl, m, none⟩ (.int .i64 0) := ⟨_, rfl⟩
    have hcl : ∀ ty, (Builtin.clear_ #[22] ty #[.slice (some ⟨gl, m, none⟩) 1 (cl - m)]).run Try.prog w = .ok (.tuple #[]) w1 := fun ty => by
      rw [Lib.run_clear_slice w 22 3 ty (.int .i64 0) Try.underlying22 zero3 rfl rfl gl m 1 (cl - m) (by omega) (fun j hj => by rw [show m + j = m by omega, hv]; rfl) (fun j hj => by rw [show m + j = m by omega]; exact hvf), hw1]
      rfl
    obtain ⟨hb1, ht1, h2, hl2, ht2⟩ := two_rows (m := m) 0 false h
    rw [← hw1] at hb1 ht1 h2 hl2 ht2
    have hc1 : w1.cell? ⟨B, 1, none⟩ = some (.slice (some ⟨gt, 0, none⟩) L.length ct) := blk_cell hb1 1
    obtain ⟨hu, huf⟩ := own_at_of (d := false) ht1 (m : Int) (by omega) (by omega)
    rw [Int.toNat_natCast] at hu huf
    have hpush := hpush_any B 34 _ _ vf F _ (m : Int) (by decide) h2 (by omega) h.fr.heap
    have hfr := fun F' hp hh => h.fr.push hT (F' := F') hp hh
    have p1 : (0 : Int) ≤ (m : Int) := by omega
    have p2 : (m : Int) < (L.length : Int) := by omega
    have H := Lib.hid h; have Hpush := Lib.hid hpush; have Hfr := Lib.hid hfr; have Hw1 := Lib.hid hw1; have Ht := Lib.hid ht
    rw [ht] at hhas
    clear h hpush hfr hw1 h2 hl2 ht2 ht1 hb1 hlen hT hv hvf
    simp only [ht, if_true, Int.toNat_natCast]
    clear ht
    go_enter Try.func17, Try.ntmps17
    go_wp2_with (first | (go_at_call 40; refine hhas.mono ?_; rintro e w0 ⟨rfl, rfl⟩) | (simp only [hcl]) | (go_at_call 41; refine Hpush.out.mono ?_; rintro e w3 ⟨rfl, v', F', h3, hp3, hH3, hat3, hk3⟩))
    go_ret
    have hc := free_close H.out (by rw [Hw1.out]) hk3 h3 hat3 (Hfr.out _ hp3 hH3)
    exact ⟨rfl, ⟨_, _, _, _, hc.1⟩, hc.2⟩
  · have ht' : isT T i = false := by simpa using ht
    rw [ht'] at hhas
    simp only [ht', if_false]
    have H := Lib.hid h; clear h
    go_enter Try.func17, Try.ntmps17
    go_wp2_with (go_at_call 40; refine hhas.mono ?_; rintro e w1 ⟨rfl, rfl⟩)
    go_ret
    exact ⟨rfl, ⟨_, _, _, _, H.out.mono (fun k e => .inl e)⟩, Kept.refl _ _⟩

theorem tab_new {w : World} : Tab (w.alloc (.cells #[.slice none 0 0, .slice none 0 0, .slice none 0 0] 34)) w.heap.size (fun k => w.heap.size ≤ k) [] [] := by
  refine ⟨.slice none 0 0, .slice none 0 0, .slice none 0 0, [], blk_new w _, own_nil _ _ _ _, own_nil _ _ _ _, own_nil _ _ _ _, ne_nil _, ⟨fun k _ hk => by simp at hk, List.Perm.refl _⟩, rfl, Nat.le_refl _, ?_, ?_, ?_⟩ <;> intro k e <;> simp [Value.ownBlock] at e

theorem new_any (w : World) : Calls Try.prog 13 #[] w fun e w' => e = .returned (.pointer (some ⟨w.heap.size, 0, none⟩)) ∧ w' = w.alloc (.cells #[.slice none 0 0, .slice none 0 0, .slice none 0 0] 34) := by
  go_enter Try.func13, Try.ntmps13
  go_wp2
  go_ret
  exact ⟨rfl, rfl⟩
end Go.Proofs.Ytgchgkffoplogaa
