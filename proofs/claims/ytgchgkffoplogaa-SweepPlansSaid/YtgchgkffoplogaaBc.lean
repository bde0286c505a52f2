/- Mark's closure: what a row of numbers reaches. -/
import Derived.Test.YtgchgkffoplogaaBb
namespace Go.Proofs.Ytgchgkffoplogaa
open Go.RowKit Go.Proofs.YtgchgkffoplogaaW.PrintWords
set_option linter.unusedVariables false
set_option linter.unusedSimpArgs false

/-- Mark's variables: the table's pointer, the bits, the stack. -/
structure MarkAt (w0 W : World) (bs bb bk B g c : Nat) (vk : Value) (ws st : List Int) : Prop where
  s : W.heap[bs]? = some (.cells #[.pointer (some ⟨B, 0, none⟩)] 54 (0, 0))
  b : W.heap[bb]? = some (.cells #[.slice (some ⟨g, 0, none⟩) ws.length c] 82 (0, 0))
  k : W.heap[bk]? = some (.cells #[vk] 22 (0, 0))
  rb : W.ownsRow w0.heap.size 98 1 (.slice (some ⟨g, 0, none⟩) ws.length c) ws.length (nums .u64 ws)
  rk : W.ownsRow w0.heap.size 3 1 vk st.length (nums .i64 st)
  wd : WdOk ws
  bel : Below w0.heap.size w0 W
  hs : w0.heap.size ≤ bs
  hb : w0.heap.size ≤ bb
  hk : w0.heap.size ≤ bk
namespace MarkAt
variable {w0 W W' : World} {bs bb bk B g c : Nat} {vk v1 : Value} {ws ws' st st' : List Int}
theorem below (h : MarkAt w0 W bs bb bk B g c vk ws st) (hb : Below W.heap.size W W') : MarkAt w0 W' bs bb bk B g c vk ws st :=
  ⟨blk_below h.s hb, blk_below h.b hb, blk_below h.k hb, pw_own_below h.rb hb, pw_own_below h.rk hb, h.wd, below_then h.bel h.bel.size hb, h.hs, h.hb, h.hk⟩
theorem base_g (h : MarkAt w0 W bs bb bk B g c vk ws st) : w0.heap.size ≤ g := own_base h.rb g rfl
/-- A bit was set. -/
theorem bits (h : MarkAt w0 W bs bb bk B g c vk ws st) (hl : ws'.length = ws.length) (hr : W'.ownsRow w0.heap.size 98 1 (.slice (some ⟨g, 0, none⟩) ws'.length c) ws'.length (nums .u64 ws')) (hw : WdOk ws') (hk : Kept (fun k => k = g) W W') : MarkAt w0 W' bs bb bk B g c vk ws' st := by
  have n1 : bs ≠ g := fun e => own_ne h.rb h.s (by decide) (by rw [e]; rfl)
  have n2 : bb ≠ g := fun e => own_ne h.rb h.b (by decide) (by rw [e]; rfl)
  have n3 : bk ≠ g := fun e => own_ne h.rb h.k (by decide) (by rw [e]; rfl)
  refine ⟨(hk.block bs (blk_lt h.s) n1).trans h.s, by rw [hl]; exact (hk.block bb (blk_lt h.b) n2).trans h.b, (hk.block bk (blk_lt h.k) n3).trans h.k, hr, own_move h.rk (fun k e => hk.block k (own_lt h.rk k e) ?_), hw, h.bel.trans (hk.below h.bel.size (fun k e _ => e ▸ h.base_g)), h.hs, h.hb, h.hk⟩
  rintro rfl
  exact (own_type_ne h.rb h.rk (by decide)).elim (fun z => by simp [Value.ownBlock] at z) (fun z => z (by rw [e]; rfl))
/-- The stack's row grew, and was stored. -/
theorem stack (h : MarkAt w0 W bs bb bk B g c vk ws st) (hr : W'.ownsRow w0.heap.size 3 1 v1 st'.length (nums .i64 st')) (hb : Below w0.heap.size w0 W') (hg : W.grownBy W' vk.ownBlock) : MarkAt w0 (W'.setCell ⟨bk, 0, none⟩ v1) bs bb bk B g c v1 ws st' := by
  have m1 : some bs ≠ vk.ownBlock := own_ne h.rk h.s (by decide)
  have m2 : some bb ≠ vk.ownBlock := own_ne h.rk h.b (by decide)
  have m3 : some bk ≠ vk.ownBlock := own_ne h.rk h.k (by decide)
  have k1 := blk_grown h.s hg m1
  have k2 := blk_grown h.b hg m2
  have k3 := blk_grown h.k hg m3
  have k4 := own_other h.rb hg (own_type_ne h.rb h.rk (by decide))
  have n1 : bs ≠ bk := blk_ne h.s h.k (by decide)
  have n2 : bb ≠ bk := blk_ne h.b h.k (by decide)
  refine ⟨blk_far k1 (p := ⟨bk, 0, none⟩) n1 _, blk_far k2 (p := ⟨bk, 0, none⟩) n2 _, blk_set k3 0 _, own_setCell k4 (p := ⟨bk, 0, none⟩) (own_ne k4 k3 (by decide)) _, own_setCell hr (p := ⟨bk, 0, none⟩) (own_ne hr k3 (by decide)) _, h.wd, hb.setCell (p := ⟨bk, 0, none⟩) h.hk _, h.hs, h.hb, h.hk⟩
end MarkAt

theorem tget_any {w : World} {B : Nat} {ok : Nat → Prop} {L : List V.El} {T : List Bool} (h : V.Tab w B ok L T) (hl : L.length ≤ 100000) (i : Int) :
    Calls Try.prog 54 #[.pointer (some ⟨B, 0, none⟩), .int .i64 i] w fun e w' => e = .returned (.tuple #[V.encE (if isT T i then rdOf V.zE L i else V.zE), .bool (isT T i)]) ∧ Below w.heap.size w w' := by
  obtain ⟨vl, vt, vf, F, h⟩ := h
  exact V.get_any h (by omega) i

set_option maxRecDepth 100000 in
set_option maxHeartbeats 1600000 in
theorem reach_any {w0 W : World} {B bs bb bk g c : Nat} {ok : Nat → Prop} {L : List V.El} {T : List Bool} {vk : Value} {ws st : List Int} (ht : V.Tab w0 B ok L T) (hl : L.length ≤ 100000) (hm : MarkAt w0 W bs bb bk B g c vk ws st)
    (hw : T.length / 64 < ws.length) (hs : StkLe T.length (bitOf ws, st)) (A : Option Addr) (cA : Nat) (xs : List Int) (hr : ReadsInt w0 .i64 A xs.length xs) :
    Calls Try.prog 53 #[.slice A xs.length cA, .pointer (some ⟨bs, 0, none⟩), .pointer (some ⟨bb, 0, none⟩), .pointer (some ⟨bk, 0, none⟩)] W fun e W' => e = .returned (.tuple #[]) ∧
      ∃ vk' ws' st', MarkAt w0 W' bs bb bk B g c vk' ws' st' ∧ ws'.length = ws.length ∧ (bitOf ws', st') = reachR T (bitOf ws, st) xs := by
  have hTl : T.length ≤ 100000 := by rw [ht.len]; exact hl
  have Ht := Lib.hid ht; have Hm := Lib.hid hm; have Hs := Lib.hid hs; have Hr := Lib.hid hr
  have hn9 := hr.2.1
  clear ht hm hs hr
  go_enter Try.func53, Try.ntmps53
  go_wp2
  go_loopw [11] (fun iv wr => ∃ (j : Nat) (vk' : Value) (ws' st' : List Int), j ≤ xs.length ∧ iv = .int .i64 j ∧ ws'.length = ws.length ∧ Hid (MarkAt w0 wr bs bb bk B g c vk' ws' st') ∧ Hid ((bitOf ws', st') = reachR T (bitOf ws, st) (xs.take j))) (fun iv _ => xs.length - (intOf iv).toNat)
  case atStart => exact ⟨0, vk, ws, st, Nat.zero_le _, rfl, rfl, Hm, Lib.hid (by simp [reachR])⟩
  case round =>
    obtain ⟨j, vk', ws', st', hj, rfl, hwl, HM, HE⟩ := hrel
    clear Hm
    have hw2 : T.length / 64 < ws'.length := by rw [hwl]; exact hw
    have Hwl := Lib.hid hwl
    clear hwl
    by_cases hlt : j < xs.length
    · obtain ⟨ad, rfl, hcell⟩ := (Hr.out.below HM.out.bel).at_ (j : Int) (by omega) (by omega)
      rw [Int.toNat_natCast] at hcell
      have hnext := reachR_take T (bitOf ws, st) xs j hlt
      rw [← HE.out] at hnext
      have Hnext := Lib.hid hnext
      have hsl := (reachR_le T (xs.take j) (bitOf ws, st) Hs.out).1
      rw [← HE.out] at hsl
      have hsb : st'.length ≤ 100000 := Nat.le_trans hsl (Nat.le_trans (cF_le _ _) hTl)
      clear hnext hsl
      generalize rd xs (j : Int) = x at *
      have hget := tget_any (Ht.out.below HM.out.bel) hl x
      have Hget := Lib.hid hget; clear hget
      have cs := blk_cell HM.out.s 0
      have p0 : (0 : Int) ≤ (j : Int) := by omega
      have p1 : (j : Int) < (xs.length : Int) := by omega
      cases hx : isT T x
      · have Hx := Lib.hid hx
        rw [hx] at Hget
        have hst : stepR T (bitOf ws', st') x = (bitOf ws', st') := by unfold stepR; rw [if_neg (by rw [Hx.out]; simp)]
        have Hst := Lib.hid hst
        clear hx hst
        go_wp2_with (go_at_call 54; refine Hget.out.mono ?_; rintro e w1 ⟨rfl, hb1⟩; have HM1 := Lib.hid (HM.out.below hb1); clear hb1)
        go_roundw
        case rel => exact ⟨j + 1, vk', ws', st', by omega, by go_num, Hwl.out, HM1, Lib.hid (by rw [Hnext.out, Hst.out])⟩
        case measure => simp [intOf]; omega
      · obtain ⟨n, rfl, hn⟩ := isT_ofNat hx
        have Hx := Lib.hid hx
        rw [hx] at Hget
        clear hx
        have hwn : n / 64 < ws'.length := by omega
        have hhas := fun W' (h : MarkAt w0 W' bs bb bk B g c vk' ws' st') => bhas_any (i := n) h.rb h.wd hwn (by omega)
        have Hhas := Lib.hid hhas; clear hhas
        cases hb : bitOf ws' n
        · have hst : stepR T (bitOf ws', st') (n : Int) = (fun q => bitOf ws' q || decide (n = q), st' ++ [(n : Int)]) := by unfold stepR; rw [if_pos (by simp [Hx.out, hb])]; rfl
          have Hst := Lib.hid hst
          rw [hb] at Hhas
          clear hb hst
          have hset := fun W' (h : MarkAt w0 W' bs bb bk B g c vk' ws' st') => bset_any (i := n) h.rb h.wd hwn (by omega)
          have Hset := Lib.hid hset; clear hset
          obtain ⟨i3, hi3, z31, z32, z33⟩ := info_parts info3
          go_wp2_with (first | (go_at_call 54; refine Hget.out.mono ?_; rintro e w1 ⟨rfl, hb1⟩; have HM1 := Lib.hid (HM.out.below hb1); have cb := blk_cell HM1.out.b 0; clear hb1) | (go_at_call 55; refine (Hhas.out _ HM1.out).mono ?_; rintro e w2 ⟨rfl, rfl⟩) | (go_at_call 56; refine (Hset.out _ HM1.out).mono ?_; rintro e w3 ⟨rfl, ws3, hr3, hw3, hl3, hb3, hk3⟩; have HM3 := Lib.hid (HM1.out.bits hl3 hr3 hw3 hk3); have ck := blk_cell HM3.out.k 0; have Hl3 := Lib.hid hl3; have Hb3 := Lib.hid hb3; clear hr3 hw3 hl3 hb3 hk3) | (at_builtin; refine print_append_num (w0 := w0) w0.heap.size rfl (.tmp 31) (.tmp 33) 22 3 .i64 8 rfl Try.underlying22 info3 (by decide) _ _ _ rfl rfl HM3.out.rk HM3.out.bel HM3.out.bel.size (by omega) ?_; intro v4 w4 hown hb4 hg4 hat4; obtain ⟨A4, c4, rfl⟩ := own_slice hown; have hk4 := blk_grown HM3.out.k hg4 (own_ne HM3.out.rk HM3.out.k (by decide)); have ck4 := blk_cell hk4 0; have fk4 := blk_frozen hk4 0; have hm4 := HM3.out.stack hown hb4 hg4; rw [List.length_append, List.length_singleton] at hm4; have HM4 := Lib.hid hm4; clear hm4 hown hb4 hg4 hat4 hk4))
          go_roundw
          case rel => exact ⟨j + 1, _, ws3, st' ++ [(n : Int)], by omega, by go_num, by rw [Hl3.out]; exact Hwl.out, HM4, Lib.hid (by rw [Hnext.out, Hst.out]; exact Prod.ext (funext Hb3.out) rfl)⟩
          case measure => simp [intOf]; omega
        · have hst : stepR T (bitOf ws', st') (n : Int) = (bitOf ws', st') := by unfold stepR; rw [if_neg (by simp [Hx.out, hb])]
          have Hst := Lib.hid hst
          rw [hb] at Hhas
          clear hb hst
          go_wp2_with (first | (go_at_call 54; refine Hget.out.mono ?_; rintro e w1 ⟨rfl, hb1⟩; have HM1 := Lib.hid (HM.out.below hb1); have cb := blk_cell HM1.out.b 0; clear hb1) | (go_at_call 55; refine (Hhas.out _ HM1.out).mono ?_; rintro e w2 ⟨rfl, rfl⟩))
          go_roundw
          case rel => exact ⟨j + 1, vk', ws', st', by omega, by go_num, Hwl.out, HM1, Lib.hid (by rw [Hnext.out, Hst.out])⟩
          case measure => simp [intOf]; omega
    · have hjl : j = xs.length := by omega
      have HJ := Lib.hid hjl
      clear hjl
      go_wp2
      go_end0
      exact ⟨rfl, vk', ws', st', HM.out, Hwl.out, by rw [HE.out, HJ.out, List.take_of_length_le (Nat.le_refl _)]⟩
end Go.Proofs.Ytgchgkffoplogaa
