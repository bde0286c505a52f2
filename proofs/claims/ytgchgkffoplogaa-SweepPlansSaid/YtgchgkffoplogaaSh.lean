/- Add where a slot is free; Free; New. -/
import Derived.Test.YtgchgkffoplogaaSg
import Derived.Lib.SliceRun
import Derived.BigFrame
namespace Go.Proofs.Ytgchgkffoplogaa
open Go.RowKit Go.Proofs.YtgchgkffoplogaaW.PrintWords
set_option linter.unusedVariables false
set_option linter.unusedSimpArgs false

/-- What is left of the rows where the heap alone turned. -/
theorem heap_close {w w1 : World} {B : Nat} {ok : Nat → Prop} {vl vt vf : Value} {L : List Int} {T : List Bool} {F : List Int} (h : TabI w B ok vl vt vf L T F) (hk : Kept (fun k => k = B ∨ vf.ownBlock = some k) w w1) :
    w1.ownsRow 0 3 1 vl L.length (encs (Value.int .i64) L) ∧ w1.ownsRow 0 4 1 vt L.length (encs Value.bool T) := by
  refine ⟨own_move h.rl (fun k e => hk.block k (own_lt h.rl k e) ?_), own_move h.rt (fun k e => hk.block k (own_lt h.rt k e) ?_)⟩
  · rintro (rfl | e')
    · exact own_ne h.rl h.blk (by decide) e.symm
    · exact h.ne k e e'
  · rintro (rfl | e')
    · exact own_ne h.rt h.blk (by decide) e.symm
    · exact (own_type_ne h.rt h.rf (by decide)).elim (fun z => by rw [z] at e; simp at e) (fun z => z (e.trans e'.symm))

theorem near_ne {w : World} {vl vf v' : Value} {e n : Nat} {xs : List Value} (h : NeRow vl vf) (hr : w.ownsRow 0 e 1 vl n xs) (hat : Near w vf v') : NeRow vl v' := fun k e1 e2 => by
  rcases hat with e3 | ⟨b, e3, hb⟩
  · exact h k e1 (e3 ▸ e2)
  · have := own_lt hr k e1
    rw [e3] at e2; injection e2 with e2; omega

theorem addlow_mid {w w1 : World} {B gl cl gt ct m : Nat} {ok : Nat → Prop} {vf v' : Value} {L : List Int} {T : List Bool} {F F' : List Int} (h : TabI w B ok (.slice (some ⟨gl, 0, none⟩) L.length cl) (.slice (some ⟨gt, 0, none⟩) L.length ct) vf L T F) (hk : Kept (fun k => k = B ∨ vf.ownBlock = some k) w w1)
    (h3 : Third w1 B 34 (.slice (some ⟨gl, 0, none⟩) L.length cl) (.slice (some ⟨gt, 0, none⟩) L.length ct) v' F') (hm : m < L.length) :
    w1.cell? ⟨B, 0, none⟩ = some (.slice (some ⟨gl, 0, none⟩) L.length cl) ∧ w1.cell? ⟨B, 1, none⟩ = some (.slice (some ⟨gt, 0, none⟩) L.length ct) ∧
    w1.cell? ⟨gl, m, none⟩ = some (.int .i64 (rdOf 0 L m)) ∧ w1.frozen? ⟨gl, m, none⟩ = false ∧ w1.cell? ⟨gt, m, none⟩ = some (.bool (rdOf false T m)) ∧ w1.frozen? ⟨gt, m, none⟩ = false ∧
    (∀ u, (w1.setCell ⟨gl, m, none⟩ u).cell? ⟨gt, m, none⟩ = some (.bool (rdOf false T m))) ∧ (∀ u, (w1.setCell ⟨gl, m, none⟩ u).frozen? ⟨gt, m, none⟩ = false) := by
  obtain ⟨hl, ht⟩ := heap_close h hk
  obtain ⟨a1, a2⟩ := own_at_of (d := 0) hl (m : Int) (by omega) (by omega)
  obtain ⟨b1, b2⟩ := own_at_of (d := false) ht (m : Int) (by omega) (by omega)
  have hne : some gl ≠ Value.ownBlock (.slice (some ⟨gt, 0, none⟩) L.length ct) := fun e => (own_type_ne hl ht (by decide)).elim (fun z => by simp [Value.ownBlock] at z) (fun z => z e)
  have hc := fun u => own_at_of (d := false) (own_setCell ht (p := ⟨gl, m, none⟩) hne u) (m : Int) (by omega) (by omega)
  exact ⟨blk_cell h3.blk 0, blk_cell h3.blk 1, a1, a2, b1, b2, fun u => (hc u).1, fun u => (hc u).2⟩

/-- Two stores into the table's rows, behind what the heap did. -/
theorem two_close {w w1 : World} {B gl cl gt ct m : Nat} {ok : Nat → Prop} {vf v' : Value} {L : List Int} {T : List Bool} {F F' : List Int} {x : Int} {b : Bool} (h : TabI w B ok (.slice (some ⟨gl, 0, none⟩) L.length cl) (.slice (some ⟨gt, 0, none⟩) L.length ct) vf L T F) (hk : Kept (fun k => k = B ∨ vf.ownBlock = some k) w w1)
    (h3 : Third w1 B 34 (.slice (some ⟨gl, 0, none⟩) L.length cl) (.slice (some ⟨gt, 0, none⟩) L.length ct) v' F') (hat : Near w vf v') (hf : FreeOk F' (T.set m b)) :
    TabI (((w1.setCell ⟨gl, m, none⟩ (.int .i64 x)).setCell ⟨gt, m, none⟩ (.bool b)).drew) B (fun k => ok k ∨ w.heap.size ≤ k) (.slice (some ⟨gl, 0, none⟩) L.length cl) (.slice (some ⟨gt, 0, none⟩) L.length ct) v' (L.set m x) (T.set m b) F' ∧
    Kept ok w (((w1.setCell ⟨gl, m, none⟩ (.int .i64 x)).setCell ⟨gt, m, none⟩ (.bool b)).drew) := by
  obtain ⟨hl, ht⟩ := heap_close h hk
  have hne : some gl ≠ Value.ownBlock (.slice (some ⟨gt, 0, none⟩) L.length ct) := fun e => (own_type_ne hl ht (by decide)).elim (fun z => by simp [Value.ownBlock] at z) (fun z => z e)
  have hBl : B ≠ gl := fun e => own_ne hl h3.blk (by decide) (by rw [e]; rfl)
  have hBt : B ≠ gt := fun e => own_ne ht h3.blk (by decide) (by rw [e]; rfl)
  have hlt : gl ≠ gt := fun e => hne (by rw [e]; rfl)
  have hlf : some gl ≠ v'.ownBlock := fun e => near_ne h.ne h.rl hat gl rfl e.symm
  have htf : some gt ≠ v'.ownBlock := fun e => (own_type_ne ht h3.row (by decide)).elim (fun z => by simp [Value.ownBlock] at z) (fun z => z e)
  have s1 := own_store_of hl (m : Int) x
  have s2 := own_store_of (own_setCell ht (p := ⟨gl, m, none⟩) hne (.int .i64 x)) (m : Int) b
  simp only [Int.toNat_natCast] at s1 s2
  have hok : ∀ k, v'.ownBlock = some k → ok k ∨ w.heap.size ≤ k := fun k e => by
    rcases hat with e1 | ⟨q, e1, hq⟩
    · exact .inl (h.okf k (e1 ▸ e))
    · rw [e1] at e; injection e with e; exact .inr (by omega)
  refine ⟨SlotsAt.drew ⟨blk_far (blk_far h3.blk hBl _) hBt _, ?_, ?_, own_setCell (own_setCell h3.row (p := ⟨gl, m, none⟩) hlf _) (p := ⟨gt, m, none⟩) htf _, near_ne h.ne h.rl hat, hf, by simp [h.len], .inl h.okB, fun k e => .inl (h.okl k e), fun k e => .inl (h.okt k e), hok⟩, ?_⟩
  · simp only [List.length_set]
    exact own_setCell s1.1 (p := ⟨gt, m, none⟩) (fun e => hlt (Option.some.inj e).symm) _
  · simp only [List.length_set]
    exact s2.1
  · have hk' : Kept ok w w1 := hk.mono (fun k e _ => e.elim (fun e => e ▸ h.okB) (h.okf k))
    exact ((hk'.setCell (p := ⟨gl, m, none⟩) (.inl (h.okl _ rfl)) _).setCell (p := ⟨gt, m, none⟩) (.inl (h.okt _ rfl)) _).drew

set_option maxRecDepth 100000 in
set_option maxHeartbeats 1600000 in
theorem addlow_any {w : World} {B : Nat} {ok : Nat → Prop} {vl vt vf : Value} {L : List Int} {T : List Bool} {F : List Int} (h : TabI w B ok vl vt vf L T F) (hl : L.length ≤ 100000) (x : Int) (h0 : F ≠ []) :
    Calls Try.prog 14 #[.pointer (some ⟨B, 0, none⟩), .int .i64 x] w fun e w' => e = .returned (.int .i64 (lowest T)) ∧ ∃ vf' F', TabI w' B (fun k => ok k ∨ w.heap.size ≤ k) vl vt vf' (L.set (lowest T) x) (T.set (lowest T) true) F' ∧ Kept ok w w' := by
  obtain ⟨hlow, hTm⟩ := h.fr.low h0
  have hlen := h.len
  have hm : lowest T < L.length := by rw [← hlen]; exact (List.getElem?_eq_some_iff.1 hTm).1
  have hFl : F.length ≤ L.length := by have := h.fr.len; omega
  obtain ⟨n, hn⟩ : ∃ n, n + 1 = F.length := ⟨F.length - 1, by have := List.length_pos_iff.2 h0; omega⟩
  have hpop := hpop_any B 34 vl vt vf F n w (by decide) h.third hn (by omega) h.fr.heap
  have hfr := fun F' hp hh => h.fr.pop h0 (F' := F') hp hh
  obtain ⟨gf, cf, rfl, _, _⟩ := h.rf.form (by omega)
  obtain ⟨gl, cl, rfl, _, _⟩ := h.rl.form (by omega)
  obtain ⟨gt, ct, rfl, _, _⟩ := h.rt.form (by omega)
  have hc2 : w.cell? ⟨B, 2, none⟩ = some (.slice (some ⟨gf, 0, none⟩) F.length cf) := blk_cell h.blk 2
  obtain ⟨hv0, _⟩ := own_at h.rf 0 (by omega) (by omega)
  rw [hlow] at hv0
  simp only [Int.toNat_zero] at hv0
  obtain ⟨m, hmm⟩ : ∃ m, lowest T = m := ⟨_, rfl⟩
  rw [hmm] at hv0 hfr hTm ⊢ hm
  have hp := hc2
  rw [← hn] at hc2
  have hF0 : 0 < n + 1 := by omega
  have H := Lib.hid h; have Hpop := Lib.hid hpop; have Hfr := Lib.hid hfr; have Hlen := Lib.hid hlen
  clear h hpop hfr hlow hTm hlen hmm hp
  have p1 : (0 : Int) ≤ (m : Int) := by omega
  have p2 : (m : Int) < (L.length : Int) := by omega
  have Hn := Lib.hid hn; clear hn
  go_enter Try.func14, Try.ntmps14
  go_wp2_with (go_at_call 39; (refine Hpop.out.mono ?_; rintro e w1 ⟨rfl, v', F', h3, hp3, hH3, hv3, hk3⟩; have Hk3 := Lib.hid hk3; have Hp3 := Lib.hid hp3; have HH3 := Lib.hid hH3; have H3 := Lib.hid h3; have Hv3 := Lib.hid hv3; clear hk3 hp3 hH3 h3 hv3; obtain ⟨hd0, hd1, hs1, hs1f, hs2, hs2f, hs3, hs3f⟩ := addlow_mid H.out Hk3.out H3.out hm))
  go_region
  all_goals
    go_wp2
    go_ret
    have hc := two_close (x := x) (b := true) H.out Hk3.out H3.out (.inl Hv3.out) (Hfr.out _ Hp3.out HH3.out)
    exact ⟨rfl, _, _, hc.1, hc.2⟩

/-- The table, its rows unnamed. -/
def Tab (w : World) (B : Nat) (ok : Nat → Prop) (L : List Int) (T : List Bool) : Prop := ∃ vl vt vf F, TabI w B ok vl vt vf L T F
/-- What Add leaves. -/
def addL (L : List Int) (T : List Bool) (x : Int) : List Int := if lowest T = T.length then L ++ [x] else L.set (lowest T) x
def addT (T : List Bool) : List Bool := if lowest T = T.length then T ++ [true] else T.set (lowest T) true

theorem add_any {w : World} {B : Nat} {ok : Nat → Prop} {L : List Int} {T : List Bool} (h : Tab w B ok L T) (hl : L.length ≤ 100000) (x : Int) :
    Calls Try.prog 14 #[.pointer (some ⟨B, 0, none⟩), .int .i64 x] w fun e w' => e = .returned (.int .i64 (lowest T)) ∧ Tab w' B (fun k => ok k ∨ w.heap.size ≤ k) (addL L T x) (addT T) ∧ Kept ok w w' := by
  obtain ⟨vl, vt, vf, F, h⟩ := h
  by_cases h0 : F = []
  · have hlow := h.fr.full h0
    refine (addfull_any h hl x h0).mono ?_
    rintro e w' ⟨rfl, vl', vt', h', hk⟩
    unfold addL addT
    rw [if_pos hlow, if_pos hlow, hlow, h.len]
    exact ⟨rfl, ⟨_, _, _, _, h'⟩, hk⟩
  · have hlt : lowest T < T.length := (List.getElem?_eq_some_iff.1 (h.fr.low h0).2).1
    refine (addlow_any h hl x h0).mono ?_
    rintro e w' ⟨rfl, vf', F', h', hk⟩
    unfold addL addT
    rw [if_neg (by omega), if_neg (by omega)]
    exact ⟨rfl, ⟨_, _, _, _, h'⟩, hk⟩
end Go.Proofs.Ytgchgkffoplogaa
