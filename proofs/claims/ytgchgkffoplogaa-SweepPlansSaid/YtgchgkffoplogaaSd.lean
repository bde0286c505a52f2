/- numbers.Push, numbers.Pop; heap.Push, heap.Pop. -/
import Derived.Test.YtgchgkffoplogaaSc
namespace Go.Proofs.Ytgchgkffoplogaa
open Go.RowKit Go.Proofs.YtgchgkffoplogaaW.PrintWords
set_option linter.unusedVariables false

theorem info3 : (Try.prog.info? 3).map (fun i => (i.zero, i.size, i.bytes)) = some (some (.int .i64 0), 1, 8) := by kernel_rfl

/-- The row's block is the one it was, or a new one. -/
def Near (w : World) (v v' : Value) : Prop := v'.ownBlock = v.ownBlock ∨ ∃ b, v'.ownBlock = some b ∧ w.heap.size ≤ b

theorem Third.stored {w w1 : World} {B tS : Nat} {c0 c1 v v1 : Value} {F F1 : List Int} (h : Third w B tS c0 c1 v F) (ht : 3 ≠ tS) (hg : w.grownBy w1 v.ownBlock) (hr : Row3 w1 v1 F1) :
    Third (w1.setCell ⟨B, 2, none⟩ v1) B tS c0 c1 v1 F1 ∧ Kept (fun k => k = B ∨ v.ownBlock = some k) w (w1.setCell ⟨B, 2, none⟩ v1) := by
  have hb := blk_grown h.blk hg (h.ne ht)
  refine ⟨⟨blk_set hb 2 v1, own_setCell hr (own_ne hr hb ht) v1⟩, ?_⟩
  exact ((Kept.refl _ w).grown hg (fun k hk => .inl (.inr hk))).setCell (p := ⟨B, 2, none⟩) (.inl (.inl rfl)) v1

set_option maxRecDepth 100000 in
theorem npush_any (B tS : Nat) (c0 c1 v : Value) (F : List Int) (w : World) (x : Int) (ht : 3 ≠ tS) (h : Third w B tS c0 c1 v F) (hl : F.length ≤ 1048576) :
    Calls Try.prog 83 #[.pointer (some ⟨B, 2, none⟩), .iface 3 (.int .i64 x)] w fun e w' => e = .returned (.tuple #[]) ∧ ∃ v', Third w' B tS c0 c1 v' (F ++ [x]) ∧ Near w v v' ∧ Kept (fun k => k = B ∨ v.ownBlock = some k) w w' := by
  have hta : ∀ W : World, (Instr.typeAssert (.iface 3 (.int .i64 x)) 20 3 true).run Try.prog W = .ok (.tuple #[.int .i64 x, .bool true]) W := fun W => by kernel_rfl
  have hc := h.cell
  have hrow := h.row
  have H := Lib.hid h; clear h
  go_enter Try.func83, Try.ntmps83
  go_wp2_with (at_builtin; refine print_append_num (w0 := w) 0 rfl (.tmp 15) (.tmp 17) 32 3 .i64 8 rfl Try.underlying32 info3 (by decide) v F x rfl rfl hrow (Below.refl _ _) (Nat.zero_le _) (by omega) ?_; intro v1 w1 hown hb hg hat; obtain ⟨A1, k1, rfl⟩ := own_slice hown; have hcb : w1.cell? ⟨B, 2, none⟩ = some v := blk_cell (blk_grown H.out.blk hg (H.out.ne ht)) 2; have hfb : w1.frozen? ⟨B, 2, none⟩ = false := blk_frozen (blk_grown H.out.blk hg (H.out.ne ht)) 2)
  go_end0
  have hs := H.out.stored ht hg hown
  simp only [List.length_append, List.length_singleton] at hs hat
  exact ⟨rfl, _, hs.1, hat, hs.2⟩

theorem take_last (F : List Int) (n : Nat) (hn : n + 1 = F.length) : F = F.take n ++ [rd F (n : Int)] := by
  rw [rd_get F n (by omega)]
  conv => lhs; rw [← List.take_append_drop n F]
  congr 1
  rw [List.drop_eq_getElem_cons (by omega)]
  simp [List.drop_eq_nil_of_le (show F.length ≤ n + 1 by omega)]

set_option maxRecDepth 100000 in
theorem npop_any (B tS : Nat) (c0 c1 v : Value) (F : List Int) (n : Nat) (w : World) (ht : 3 ≠ tS) (h : Third w B tS c0 c1 v F) (hn : n + 1 = F.length) (hl : F.length ≤ 1048576) :
    Calls Try.prog 82 #[.pointer (some ⟨B, 2, none⟩)] w fun e w' => e = .returned (.iface 3 (.int .i64 (rd F n))) ∧ ∃ v', Third w' B tS c0 c1 v' (F.take n) ∧ v'.ownBlock = v.ownBlock ∧ Kept (fun k => k = B) w w' := by
  obtain ⟨g, c, rfl, _, _⟩ := h.row.form (by omega)
  obtain ⟨hc1, _⟩ := own_at h.row (n : Int) (by omega) (by omega)
  simp only [Int.toNat_natCast] at hc1
  have hc := h.cell
  have hfr := h.free
  obtain ⟨i0, hi0, _, _, _⟩ := info_parts info3
  have hcut := cut_to (P := Try.prog) 32 3 .i64 Try.underlying32 hi0 (some ⟨g, 0, none⟩) F.length c (n : Int) (by omega) (by omega) (own_le h.row)
  have hlen : (F.length : Int) - 1 = (n : Int) := by omega
  have p1 : (0 : Int) ≤ (n : Int) := by omega
  have p2 : (n : Int) < (F.length : Int) := by omega
  have H := Lib.hid h; clear h
  go_enter Try.func82, Try.ntmps82
  go_wp2
  go_ret
  have ht1 := own_take H.out.row (m := n) (by omega)
  refine ⟨rfl, .slice (some ⟨g, 0, none⟩) n c, ⟨blk_set H.out.blk 2 _, ?_⟩, rfl, (Kept.refl (fun k => k = B) w).setCell (p := ⟨B, 2, none⟩) (.inl rfl) _⟩
  have e : (nums .i64 F).take (n * 1) = nums .i64 (F.take n) := by rw [Nat.mul_one]; simp [nums]
  rw [e] at ht1
  have hne : some B ≠ Value.ownBlock (.slice (some ⟨g, 0, none⟩) n c) := by simpa [Value.ownBlock] using H.out.ne ht
  unfold Row3
  rw [show (F.take n).length = n from by rw [List.length_take]; omega]
  exact own_setCell ht1 (p := ⟨B, 2, none⟩) hne _

theorem Kept.near {ok : Nat → Prop} {w w1 w2 : World} {v : Value} {g n c : Nat} (h : Kept (fun k => ok k ∨ v.ownBlock = some k) w w1) (hat : Near w v (.slice (some ⟨g, 0, none⟩) n c)) (hk : Kept (fun k => k = g) w1 w2) : Kept (fun k => ok k ∨ v.ownBlock = some k) w w2 := by
  refine h.trans (hk.mono ?_)
  rintro k rfl _
  rcases hat with e | ⟨b, e, hb⟩
  · exact .inl (.inr (by rw [← e]; rfl))
  · have : k = b := by simpa [Value.ownBlock] using e
    exact .inr (by omega)

set_option maxRecDepth 100000 in
theorem hpush_any (B tS : Nat) (c0 c1 v : Value) (F : List Int) (w : World) (x : Int) (ht : 3 ≠ tS) (h : Third w B tS c0 c1 v F) (hl : F.length ≤ 1000000) (hh : Heap F F.length) :
    Calls Try.prog 41 #[.iface 70 (.pointer (some ⟨B, 2, none⟩)), .iface 3 (.int .i64 x)] w fun e w' => e = .returned (.tuple #[]) ∧ ∃ v' F', Third w' B tS c0 c1 v' F' ∧ F'.Perm (F ++ [x]) ∧ Heap F' F'.length ∧ Near w v v' ∧ Kept (fun k => k = B ∨ v.ownBlock = some k) w w' := by
  have e1 := m_push ⟨B, 2, none⟩ w
  have hlen : (F ++ [x]).length = F.length + 1 := by simp
  have hpush := npush_any B tS c0 c1 v F w x ht h (by omega)
  have hup := fun g n c w1 h1 hn => up_any B tS g n c F.length c0 c1 (F ++ [x]) w1 ht h1 hn (by rw [hn, hlen]; omega) (by rw [hn, hlen]; omega) (UpInv.push F x hh)
  have Hpush := Lib.hid hpush; have Hup := Lib.hid hup; clear hpush hup
  have Hlen := Lib.hid hlen; clear hlen
  have H := Lib.hid h; clear h
  have hlm : F.length ≤ 1000000 := hl
  go_enter Try.func41, Try.ntmps41
  go_wp2_with (first | (go_at_call 83; refine Hpush.out.mono ?_; rintro e w1 ⟨rfl, v1, h1, hat, hk1⟩; obtain ⟨g, c, rfl, _, _⟩ := h1.row.form (by rw [Hlen.out]; omega); rw [Hlen.out] at h1 hat; have H1 := Lib.hid h1; have Hat := Lib.hid hat; have Hk1 := Lib.hid hk1; clear h1 hat hk1; have e2 := m_len ⟨B, 2, none⟩ w1 _ H1.out.cell) | (go_at_call 78; refine (nlen_any _ _ _ _).mono ?_; rintro e w2 ⟨rfl, rfl⟩; simp only [Int.natCast_add, Int.natCast_one]) | (go_at_call 59; refine (Hup.out _ _ _ _ H1.out Hlen.out.symm).mono ?_; rintro e w2 ⟨rfl, F', h2, hp, hH, hk2⟩))
  go_end0
  exact ⟨rfl, _, F', h2, hp, by rw [hp.length_eq]; rwa [Hlen.out], Hat.out, Hk1.out.near Hat.out hk2⟩

theorem cons_take (F F' : List Int) (n : Nat) (hn : n + 1 = F.length) (hp : F'.Perm F) (hr : rd F' (n : Int) = rd F 0) : (rd F 0 :: F'.take n).Perm F := by
  have e := take_last F' n (by rw [hp.length_eq]; exact hn)
  rw [hr] at e
  refine List.Perm.trans ?_ hp
  conv => rhs; rw [e]
  exact (List.perm_append_singleton _ _).symm

theorem heap_take {F : List Int} {n : Nat} (h : Heap F n) (hn : n ≤ F.length) : Heap (F.take n) (F.take n).length := by
  have hl : (F.take n).length = n := by rw [List.length_take]; omega
  intro k h0 h1
  rw [hl] at h1
  have e : ∀ j : Nat, j < n → rd (F.take n) (j : Int) = rd F (j : Int) := by
    intro j hj
    unfold rd
    rw [Int.toNat_natCast, List.getD_eq_getElem?_getD, List.getD_eq_getElem?_getD, List.getElem?_take_of_lt hj]
  rw [e _ (by omega), e _ h1]
  exact h k h0 h1

set_option maxRecDepth 100000 in
set_option maxHeartbeats 800000 in
theorem hpop_any (B tS : Nat) (c0 c1 v : Value) (F : List Int) (n : Nat) (w : World) (ht : 3 ≠ tS) (h : Third w B tS c0 c1 v F) (hn : n + 1 = F.length) (hl : F.length ≤ 1000000) (hh : Heap F F.length) :
    Calls Try.prog 39 #[.iface 70 (.pointer (some ⟨B, 2, none⟩))] w fun e w' => e = .returned (.iface 3 (.int .i64 (rd F 0))) ∧ ∃ v' F', Third w' B tS c0 c1 v' F' ∧ (rd F 0 :: F').Perm F ∧ Heap F' F'.length ∧ v'.ownBlock = v.ownBlock ∧ Kept (fun k => k = B ∨ v.ownBlock = some k) w w' := by
  obtain ⟨g, c, rfl, _, _⟩ := h.row.form (by omega)
  rw [← hn] at h
  have e1 := m_len ⟨B, 2, none⟩ w _ h.cell
  have e2 := m_swap ⟨B, 2, none⟩ w _ h.cell
  have hswap : ∀ (a b : Int), a = 0 → b = n → Calls Try.prog 80 #[(.slice (some ⟨g, 0, none⟩) (n + 1) c), .int .i64 a, .int .i64 b] w fun e w' => e = .returned (.tuple #[]) ∧ Row3 w' (.slice (some ⟨g, 0, none⟩) (n + 1) c) (swapL F 0 n) ∧ Kept (fun k => k = g) w w' := by
    rintro _ _ rfl rfl
    exact nswap_any g (n + 1) c F w 0 n h.row hn (by omega) (by omega) (by omega)
  have hD : DownInv (swapL F 0 n) 0 n := by
    rcases Nat.eq_zero_or_pos n with h0 | h0
    · subst h0; exact ⟨fun k _ hk => by omega, fun k _ hk => by omega⟩
    · exact DownInv.start F n hh hn h0
  have hdown : ∀ (a b : Int) W, a = 0 → b = n → Third W B tS c0 c1 (.slice (some ⟨g, 0, none⟩) (n + 1) c) (swapL F 0 n) → _ := fun a b W ha hb hW => down_any B tS g (n + 1) c 0 n c0 c1 (swapL F 0 n) W ht hW (by rw [swapL_length]; exact hn) (by omega) (by omega) (by omega) hD
  have hpop := fun W F' (hW : Third W B tS c0 c1 (.slice (some ⟨g, 0, none⟩) (n + 1) c) F') (hp : F'.Perm (swapL F 0 n)) => npop_any B tS c0 c1 _ F' n W ht hW (by rw [hp.length_eq, swapL_length]; exact hn) (by rw [hp.length_eq, swapL_length]; omega)
  have hlast : rd (swapL F 0 n) (n : Int) = rd F 0 := by rw [rd_swap F 0 n n (by omega) (by omega), if_pos rfl]; rfl
  have hsp := swap_perm F 0 n (by omega) (by omega)
  have Hswap := Lib.hid hswap; have Hdown := Lib.hid hdown; have Hpop := Lib.hid hpop; have Hlast := Lib.hid hlast; have Hsp := Lib.hid hsp
  clear hswap hdown hpop hlast hsp hD
  have H := Lib.hid h; clear h
  have hnb : n + 1 ≤ 1000000 := by omega
  have Hn := Lib.hid hn; have Hh := Lib.hid hh
  clear hn hh
  go_enter Try.func39, Try.ntmps39
  go_wp2_with (first | (go_at_call 78; refine (nlen_any _ _ _ _).mono ?_; rintro e w0 ⟨rfl, rfl⟩; simp only [Int.natCast_add, Int.natCast_one]) | (go_at_call 80; go_loud (refine (Hswap.out _ _ (by omega) (by omega)).mono ?_; rintro e w1 ⟨rfl, hr1, hk1⟩; have H1 := Lib.hid (H.out.of ht hk1 hr1); have Hk1 := Lib.hid hk1; clear hr1 hk1)) | (go_at_call 58; go_loud (refine (Hdown.out 0 _ _ rfl rfl H1.out).mono ?_; rintro e w2 ⟨⟨b, rfl⟩, F2, h2, hp2, hH2, hB2, hk2⟩; have e3 := m_pop ⟨B, 2, none⟩ w2; have H2 := Lib.hid h2; have Hp2 := Lib.hid hp2; have HH2 := Lib.hid hH2; have HB2 := Lib.hid hB2; have Hk2 := Lib.hid hk2; clear h2 hp2 hH2 hB2 hk2)) | (go_at_call 82; refine (Hpop.out _ _ H2.out Hp2.out).mono ?_; rintro e w3 ⟨rfl, v3, h3, hv3, hk3⟩))
  go_ret
  have hr : rd F2 (n : Int) = rd F 0 := (HB2.out n (Nat.le_refl _)).trans Hlast.out
  refine ⟨congrArg (fun z => Ending.returned (.iface 3 (.int .i64 z))) hr, v3, _, h3, cons_take F F2 n Hn.out (Hp2.out.trans Hsp.out) hr, heap_take HH2.out (by rw [Hp2.out.length_eq, swapL_length, ← Hn.out]; omega), hv3, ?_⟩
  refine Kept.trans (Kept.trans (Hk1.out.mono ?_) (Hk2.out.mono ?_)) (hk3.mono ?_)
  · rintro k rfl _; exact .inr rfl
  · rintro k rfl _; exact .inl (.inr rfl)
  · rintro k rfl _; exact .inl (.inl rfl)
end Go.Proofs.Ytgchgkffoplogaa
