/- The walk of the law SweepPlans. -/
import Derived.Test.YtgchgkffoplogaaPb
namespace Go.Proofs.Ytgchgkffoplogaa
open Go.RowKit Go.Maps Go.Proofs.YtgchgkffoplogaaW.PrintWords
set_option linter.unusedVariables false
set_option linter.unusedSimpArgs false

theorem PlanAt.move {W W' : World} {p b n : Nat} {D : DataW Unit} {c : Int} (h : PlanAt W p b n D c) (hp : W'.heap[p]? = W.heap[p]?) (hb : W'.heap[b]? = W.heap[b]?) : PlanAt W' p b n D c := ⟨hp.trans h.blk, map_move h.map hb⟩
theorem PlanAt.lt {W : World} {p b n : Nat} {D : DataW Unit} {c : Int} (h : PlanAt W p b n D c) : p < W.heap.size ∧ b < W.heap.size := by
  refine ⟨blk_lt h.blk, ?_⟩
  obtain ⟨es, clock, hb, _⟩ := h.map
  exact (Array.getElem?_eq_some_iff.1 hb).1
/-- The copy with one number behind it. -/
theorem copy_of {w W3 : World} {xs : List Int} {A3 : Option Addr} {c3 : Nat} (h3 : W3.ownsRow w.heap.size 3 1 (.slice A3 (xs ++ [77]).length c3) (xs ++ [77]).length (nums .i64 (xs ++ [77]))) :
    ∃ g, A3 = some ⟨g, 0, none⟩ ∧ (xs ++ [77]).length ≤ c3 ∧ w.heap.size ≤ g ∧ g < W3.heap.size ∧ ReadsInt W3 .i64 (some ⟨g, 0, none⟩) xs.length xs ∧ W3.cell? ⟨g, xs.length, none⟩ = some (.int .i64 77) := by
  obtain ⟨g, c, hv, h1, h2⟩ := h3.form (by simp)
  injection hv with e1 e2 e3
  subst e1
  refine ⟨g, rfl, own_le h3, h1, h2, ?_, ?_⟩
  · have h4 := own_take (m := xs.length) h3 (by simp)
    have e : (nums .i64 (xs ++ [77])).take (xs.length * 1) = nums .i64 xs := by simp [nums]
    rw [e] at h4
    exact own_reads' h4
  · obtain ⟨hc, _⟩ := own_at h3 (xs.length : Int) (by omega) (by simp; omega)
    rw [Int.toNat_natCast] at hc
    have e : rd (xs ++ [77]) (xs.length : Int) = 77 := by simp [rd, rdOf]
    rw [e] at hc
    exact hc
/-- A row of the call's own, being overwritten. -/
structure RowAt (w W wr : World) (g c n : Nat) (zs : List Int) : Prop where
  row : wr.ownsRow w.heap.size 3 1 (.slice (some ⟨g, 0, none⟩) n c) n (nums .i64 zs)
  kept : Kept (fun k => k = g) W wr
theorem RowAt.put {w W wr : World} {g c n : Nat} {zs : List Int} (h : RowAt w W wr g c n zs) (i : Nat) (hi : i < n) : (∃ v, wr.cell? ⟨g, i, none⟩ = some v) ∧ wr.frozen? ⟨g, i, none⟩ = false ∧ ∃ zs', RowAt w W (wr.setCell ⟨g, i, none⟩ (.int .i64 3)) g c n zs' := by
  obtain ⟨h1, h2⟩ := own_at h.row (i : Int) (by omega) (by omega)
  rw [Int.toNat_natCast] at h1 h2
  have hs := own_store_of (enc := Value.int .i64) h.row (i : Int) 3
  rw [Int.toNat_natCast] at hs
  refine ⟨⟨_, h1⟩, h2, _, ⟨hs.1, h.kept.trans ⟨rfl, rfl, rfl, by rw [World.size_setCell]; exact Nat.le_refl _, fun k _ hne => Below.heap_setCell _ _ _ _ (fun e => hne (.inl e))⟩⟩⟩

set_option maxRecDepth 100000 in
set_option maxHeartbeats 16000000 in
theorem sweepPlans_law {w : World} (A : Option Addr) (c : Nat) (xs : List Int) (hr : ReadsInt w .i64 A xs.length xs) (hwf : ∀ x ∈ xs, (Lit.int .i64 x).wf = true) (n0 : Int) :
    Calls Try.prog 11 #[.slice A xs.length c, .int .i64 n0] w fun e w' => e = .returned (.bool true) ∧ Below w.heap.size w w' := by
  have hxl := hr.2.1
  by_cases h200 : 200 < xs.length
  · have p0 : (200 : Int) < (xs.length : Int) := by omega
    clear hr hwf
    go_enter Try.func11, Try.ntmps11
    go_wp2_with (go_at_call 25; refine (awake25_any _).mono ?_; rintro e w1 ⟨rfl, hb⟩; have HB := Lib.hid hb; clear hb)
    go_ret
    exact ⟨rfl, HB.out⟩
  · have p0 : ¬ (200 : Int) < (xs.length : Int) := by omega
    obtain ⟨i3, hi3, z31, z32, z33⟩ := info_parts info3
    have Hr := Lib.hid hr; have Hwf := Lib.hid hwf
    clear hr hwf
    by_cases h300 : 300 < n0
    · go_enter Try.func11, Try.ntmps11
      go_upto_region 5 with (fail)
      obtain ⟨n, hn⟩ : ∃ n : Int, n = 300 := ⟨_, rfl⟩
      rw [← hn]
      have hn3 : n ≤ 300 := by omega
      clear hn h300
      go_upto_region 8 with (first | (at_builtin; refine print_append_num (w0 := w) w.heap.size rfl (.tmp 22) (.tmp 23) 22 3 .i64 8 rfl Try.underlying22 info3 (by decide) _ _ _ rfl rfl Hown2.out HB2.out HB2.out.size (by omega) ?_; intro v3 W3 hown3 hb3 hg3 hat3; have Hown3 := Lib.hid hown3; have HB3 := Lib.hid hb3; clear hown3 hb3 hg3 hat3) | (at_builtin; refine print_append_row (w0 := w) w.heap.size rfl (.tmp 19) (.tmp 20) 22 3 .i64 8 rfl Try.underlying22 info3 (by decide) (.slice none 0 0) [] xs A xs.length c rfl rfl (own_nil _ _ _ _) Hr.out (Below.refl _ _) (Nat.le_refl _) (by simp; omega) ?_; intro v2 W2 hown2 hb2 hg2 hat2; rw [List.nil_append] at hown2; obtain ⟨A2, c2, rfl⟩ := own_slice hown2; have Hown2 := Lib.hid hown2; have HB2 := Lib.hid hb2; clear hown2 hb2 hg2 hat2))
      have hown3 := Hown3.out
      obtain ⟨A3, c3, rfl⟩ := own_slice hown3
      obtain ⟨g, rfl, hc3, hg1, hg2, hx3, h77⟩ := copy_of hown3
      have hcut := cut_to (P := Try.prog) 22 3 .i64 Try.underlying22 hi3 (some ⟨g, 0, none⟩) (xs.length + 1) c3 (xs.length : Int) (by omega) (by omega) (by simpa using hc3)
      have Hx3 := Lib.hid hx3; have H77 := Lib.hid h77
      have Hg := Lib.hid (⟨hg1, hg2⟩ : w.heap.size ≤ g ∧ g < W3.heap.size)
      have hforce := force_any (some ⟨g, 0, none⟩) c3 xs Hx3.out (by omega) Hwf.out
      have Hforce := Lib.hid hforce
      clear hown3 hc3 hg1 hg2 hx3 h77 hforce Hown2 HB2
      go_upto_region 9 with (go_at_call 36; refine Hforce.out.mono ?_; rintro e W4 ⟨rfl, ⟨nm, D, hp4, hct⟩, hb4⟩; have HP4 := Lib.hid hp4; have HC := Lib.hid hct; have HB4 := Lib.hid hb4; clear hp4 hct hb4)
      obtain ⟨p, hp⟩ : ∃ p, p = W3.heap.size + 1 := ⟨_, rfl⟩
      obtain ⟨b, hb⟩ : ∃ b, b = W3.heap.size := ⟨_, rfl⟩
      have hP4 := HP4.out
      rw [← hp, ← hb] at hP4
      rw [← hp]
      have HP4 := Lib.hid hP4
      have Hpb := Lib.hid (⟨by omega, by have := Hg.out.2; omega, by have := Hg.out.2; omega, by have := Hg.out; omega⟩ : b ≠ p ∧ p ≠ g ∧ b ≠ g ∧ w.heap.size ≤ p)
      clear hp hb hP4 Hforce
      have hre4 := Hx3.out.below HB4.out
      have hra4 := Hr.out.below (below_then HB3.out HB3.out.size HB4.out)
      have h774 := pw_cell_below HB4.out H77.out
      have hrow4 := own_move Hown3.out (w1 := W4) (fun k e => HB4.out.block k (own_lt Hown3.out k e))
      have Hre4 := Lib.hid hre4; have Hra4 := Lib.hid hra4; have Hrow4 := Lib.hid hrow4
      have HBw4 := Lib.hid (below_then HB3.out HB3.out.size HB4.out)
      clear hre4 hra4 hrow4 Hown3 Hx3 H77 HB3 HB4
      go_upto_region 11 with (go_at_call 29; refine (same_any _ _ _ _ xs _ Hre4.out Hra4.out).mono ?_; rintro e W5 ⟨rfl, q5, hW5⟩; have hk5 : Kept (fun k => k = g) W4 W5 := (by rw [hW5]; exact ⟨rfl, rfl, rfl, Nat.le_refl _, fun _ _ _ => rfl⟩); have h775 : W5.cell? ⟨g, xs.length, none⟩ = some (.int .i64 77) := (by rw [hW5]; exact h774); have hrow5 : W5.ownsRow w.heap.size 3 1 (.slice (some ⟨g, 0, none⟩) (xs ++ [77]).length c3) (xs ++ [77]).length (nums .i64 (xs ++ [77])) := (by rw [hW5]; exact own_move Hrow4.out (fun _ _ => rfl)); have Hk5 := Lib.hid hk5; have Hrow5 := Lib.hid hrow5; clear hW5 hk5 hrow5 h774)
      have hr0 : RowAt w W4 W5 g c3 (xs.length + 1) (xs ++ [77]) := ⟨by have h := Hrow5.out; simpa using h, Hk5.out⟩
      have Hr0 := Lib.hid hr0
      clear hr0 Hrow5 Hk5 h775 hcut Hrow4 Hre4 Hra4
      go_wp2
      go_loopw [7] (fun iv wr => ∃ (i : Nat) (zs : List Int), i ≤ xs.length + 1 ∧ iv = .int .i64 i ∧ Hid (RowAt w W4 wr g c3 (xs.length + 1) zs)) (fun iv _ => xs.length + 1 - (intOf iv).toNat)
      case atStart => exact ⟨0, _, Nat.zero_le _, rfl, Hr0⟩
      case round =>
        obtain ⟨i, zs, hi, rfl, HR⟩ := hrel
        clear Hr0
        by_cases hlt : i < xs.length + 1
        · obtain ⟨⟨v, hcv⟩, hfv, zs', hnx⟩ := HR.out.put i hlt
          have Hnx := Lib.hid hnx
          have q0 : (0 : Int) ≤ (i : Int) := by omega
          have q1 : (i : Int) < (xs.length : Int) + 1 := by omega
          clear hnx
          go_wp2
          go_roundw
          case rel => exact ⟨i + 1, zs', by omega, by go_num, Hnx⟩
          case measure => simp [intOf]; omega
        · have q1 : ¬ (i : Int) < (xs.length : Int) + 1 := by omega
          have hP5 := HP4.out.move (W' := wr) (HR.out.kept.block p HP4.out.lt.1 Hpb.out.2.1) (HR.out.kept.block b HP4.out.lt.2 Hpb.out.2.2.1)
          have hbw : Below w.heap.size w wr := HBw4.out.trans (HR.out.kept.below HBw4.out.size (fun k e _ => by rw [e]; exact Hg.out.1))
          obtain ⟨W6, hW6⟩ : ∃ W6, W6 = wr := ⟨_, rfl⟩
          rw [← hW6] at hP5 hbw ⊢
          clear hW6 HR HP4 HBw4 hlt hi
          obtain ⟨M, hM⟩ : ∃ M, M = n.toNat := ⟨_, rfl⟩
          have hM3 : M ≤ 300 := by omega
          have hz0 : (W6.alloc (.cells #[.map none, .int .i64 0] 67)).heap[W6.heap.size]? = some (.cells #[.map none, .int .i64 ((0 : Nat) : Int)] 67 (0, 0)) := blk_new W6 _
          have hP7 : PlanAt (W6.alloc (.cells #[.map none, .int .i64 0] 67)) p b nm D ((0 : Nat) : Int) := hP5.move ((below_alloc (Below.refl W6.heap.size W6) _).block p hP5.lt.1) ((below_alloc (Below.refl W6.heap.size W6) _).block b hP5.lt.2)
          have hb7 : Below w.heap.size w (W6.alloc (.cells #[.map none, .int .i64 0] 67)) := below_then hbw hbw.size (below_alloc (Below.refl _ _) _)
          obtain ⟨z, hz⟩ : ∃ z, z = W6.heap.size := ⟨_, rfl⟩
          have Hzz := Lib.hid (⟨by have := hP5.lt; omega, by have := hP5.lt; omega, by have := hbw.size; omega⟩ : p ≠ z ∧ b ≠ z ∧ w.heap.size ≤ z)
          rw [← hz] at hz0
          have Hz0 := Lib.hid hz0; have HP7 := Lib.hid hP7; have HB7 := Lib.hid hb7; have HM := Lib.hid hM
          clear hz0 hP7 hb7 hM hP5 hbw
          go_wp2
          rw [← hz]
          clear hz
          go_loopw [10] (fun iv wr => ∃ j : Nat, j ≤ M ∧ iv = .int .i64 ((j : Int) + 1) ∧ Hid (PlanAt wr p b nm D (j : Int)) ∧ Hid (wr.heap[z]? = some (.cells #[.map none, .int .i64 (j : Int)] 67 (0, 0))) ∧ Hid (Below w.heap.size w wr)) (fun iv _ => M + 1 - (intOf iv).toNat)
          case atStart => exact ⟨0, Nat.zero_le _, rfl, HP7, Hz0, HB7⟩
          case round =>
            obtain ⟨j, hj, rfl, HP, HZ, HB⟩ := hrel
            clear HP7 Hz0 HB7
            by_cases hlt : j < M
            · have q1 : (j : Int) + 1 ≤ n := by have := HM.out; omega
              obtain ⟨tb, htb⟩ : ∃ tb, tb = decide (0 < tally ((j : Int) + 1) xs) := ⟨_, rfl⟩
              have htick := tick_at HP.out Hpb.out.1 HC.out (by omega)
              rw [← htb] at htick
              have Htb := Lib.hid htb; have Htick := Lib.hid htick
              have hjw : (j : Int) + 1 ≤ 1000 := by omega
              clear htb htick
              obtain ⟨W8, hW8⟩ : ∃ W8, W8 = wr := ⟨_, rfl⟩
              rw [← hW8] at HP HZ HB Htick ⊢
              clear hW8
              go_wp2
              go_loopw [11, 12] (fun bv kv wr' => ∃ k : Nat, k ≤ xs.length ∧ kv = .int .i64 k ∧ bv = .bool (decide (0 < tally ((j : Int) + 1) (xs.take k))) ∧ wr' = W8) (fun _ kv _ => xs.length - (intOf kv).toNat)
              case atStart => exact ⟨0, Nat.zero_le _, rfl, rfl, rfl⟩
              case round =>
                obtain ⟨k, hk, rfl, rfl, hw9⟩ := hrel
                obtain rfl := hw9.symm
                by_cases hkl : k < xs.length
                · obtain ⟨ad, rfl, hcell⟩ := (Hr.out.below HB.out).at_ (k : Int) (by omega) (by omega)
                  rw [Int.toNat_natCast] at hcell
                  have htk := take_snoc xs k hkl
                  have r0 : (0 : Int) ≤ (k : Int) := by omega
                  have r1 : (k : Int) < (xs.length : Int) := by omega
                  obtain ⟨x, hx⟩ : ∃ x, x = rd xs (k : Int) := ⟨_, rfl⟩
                  rw [← hx] at htk hcell
                  have hta := tally_append ((j : Int) + 1) x (xs.take k)
                  rw [← htk] at hta
                  obtain ⟨t, ht⟩ : ∃ t, t = tally ((j : Int) + 1) (xs.take k) := ⟨_, rfl⟩
                  rw [← ht] at hta ⊢
                  have Hta := Lib.hid hta
                  clear hx htk hta ht
                  by_cases h0 : 0 < t
                  · have hd : decide (0 < t) = true := by simpa using h0
                    rw [hd]
                    have hd2 : decide (0 < tally ((j : Int) + 1) (xs.take (k + 1))) = true := by rw [Hta.out]; simp; omega
                    have Hd2 := Lib.hid hd2
                    clear hd hd2 h0
                    go_wp2
                    go_roundw
                    case rel => exact ⟨k + 1, by omega, by go_num, by rw [Hd2.out], trivial⟩
                    case measure => simp [intOf]; omega
                  · have hd : decide (0 < t) = false := by simpa using h0
                    rw [hd]
                    by_cases hxy : x = (j : Int) + 1
                    · have hb1 : (x == (j : Int) + 1) = true := beq_iff_eq.2 hxy
                      have hd2 : decide (0 < tally ((j : Int) + 1) (xs.take (k + 1))) = true := by rw [Hta.out, if_pos hxy]; simp
                      have Hd2 := Lib.hid hd2
                      clear hd hd2 h0 hxy
                      go_wp2
                      go_roundw
                      case rel => exact ⟨k + 1, by omega, by go_num, by rw [Hd2.out], trivial⟩
                      case measure => simp [intOf]; omega
                    · have hb1 : (x == (j : Int) + 1) = false := beq_eq_false_iff_ne.2 hxy
                      have hd2 : decide (0 < tally ((j : Int) + 1) (xs.take (k + 1))) = false := by rw [Hta.out, if_neg hxy]; simp; omega
                      have Hd2 := Lib.hid hd2
                      clear hd hd2 h0 hxy
                      go_wp2
                      go_roundw
                      case rel => exact ⟨k + 1, by omega, by go_num, by rw [Hd2.out], trivial⟩
                      case measure => simp [intOf]; omega
                · have r1 : ¬ (k : Int) < (xs.length : Int) := by omega
                  rw [List.take_of_length_le (by omega), ← Htb.out]
                  clear hkl
                  go_wp2_with (first | (go_at_call 37; have HN2 := HN; refine (tick_zero ((HK9.out.block z (blk_lt HZ.out) (fun e => Hzz.out.1 e.symm)).trans HZ.out) (by omega)).mono ?_; rintro e W11 ⟨rfl, hz11, hk11⟩; have HZ11 := Lib.hid hz11; have HK11 := Lib.hid hk11; clear hz11 hk11) | (go_at_call 37; have HN := HP9; refine (tick_none _).mono ?_; rintro e W10 ⟨rfl, rfl⟩) | (go_at_call 37; refine Htick.out.mono ?_; rintro e W9 ⟨rfl, hp9, hk9⟩; have HP9 := Lib.hid hp9; have HK9 := Lib.hid hk9; clear hp9 hk9))
                  go_roundw
                  case rel =>
                    have hzp : Below w.heap.size w W11 := (HB.out.trans (HK9.out.below HB.out.size (fun k e _ => by rw [e]; exact Hpb.out.2.2.2))).trans (HK11.out.below (Nat.le_trans HB.out.size HK9.out.size) (fun k e _ => by rw [e]; exact Hzz.out.2.2))
                    exact ⟨j + 1, by omega, by go_num, Lib.hid (HP9.out.move (HK11.out.block p HP9.out.lt.1 Hzz.out.1) (HK11.out.block b HP9.out.lt.2 Hzz.out.2.1)), HZ11, Lib.hid hzp⟩
                  case measure => simp [intOf]; omega
            · have q1 : ¬ (j : Int) + 1 ≤ n := by have := HM.out; omega
              have hcp := count_at HP.out.blk
              have hcz := count_at HZ.out
              have Hcp := Lib.hid hcp; have Hcz := Lib.hid hcz
              clear hcp hcz
              by_cases hn0 : 0 < n
              · obtain rfl : n = (j : Int) := by have := HM.out; omega
                clear hlt HM
                go_wp2_with (first | (go_at_call 25; refine (awake25_any _).mono ?_; rintro e W15 ⟨rfl, hb15⟩; have HB15 := Lib.hid (below_then HB.out HB.out.size hb15); clear hb15) | (go_at_call 38; have HN3 := HN2; refine Hcz.out.mono ?_; rintro e W14 ⟨rfl, rfl⟩) | (go_at_call 38; have HN2 := HN1; refine (count_none _).mono ?_; rintro e W13 ⟨rfl, rfl⟩) | (go_at_call 38; have HN1 := Hcp; refine Hcp.out.mono ?_; rintro e W12 ⟨rfl, rfl⟩))
                go_ret
                exact ⟨rfl, HB15.out⟩
              · obtain rfl : j = 0 := by have := HM.out; omega
                clear hlt HM
                by_cases hnz : n = 0
                · subst hnz
                  go_wp2_with (first | (go_at_call 25; refine (awake25_any _).mono ?_; rintro e W15 ⟨rfl, hb15⟩; have HB15 := Lib.hid (below_then HB.out HB.out.size hb15); clear hb15) | (go_at_call 38; have HN3 := HN2; refine Hcz.out.mono ?_; rintro e W14 ⟨rfl, rfl⟩) | (go_at_call 38; have HN2 := HN1; refine (count_none _).mono ?_; rintro e W13 ⟨rfl, rfl⟩) | (go_at_call 38; have HN1 := Hcp; refine Hcp.out.mono ?_; rintro e W12 ⟨rfl, rfl⟩))
                  go_ret
                  exact ⟨rfl, HB15.out⟩
                · have hneg : n < 0 := by omega
                  have hbe : (n == 0) = false := beq_eq_false_iff_ne.2 hnz
                  clear hnz hn0
                  go_wp2_with (first | (go_at_call 25; refine (awake25_any _).mono ?_; rintro e W15 ⟨rfl, hb15⟩; have HB15 := Lib.hid (below_then HB.out HB.out.size hb15); clear hb15) | (go_at_call 38; have HN3 := HN2; refine Hcz.out.mono ?_; rintro e W14 ⟨rfl, rfl⟩) | (go_at_call 38; have HN2 := HN1; refine (count_none _).mono ?_; rintro e W13 ⟨rfl, rfl⟩) | (go_at_call 38; have HN1 := Hcp; refine Hcp.out.mono ?_; rintro e W12 ⟨rfl, rfl⟩))
                  go_ret
                  exact ⟨rfl, HB15.out⟩
    · go_enter Try.func11, Try.ntmps11
      go_upto_region 5 with (fail)
      obtain ⟨n, hn⟩ : ∃ n : Int, n = n0 := ⟨_, rfl⟩
      rw [← hn]
      have hn3 : n ≤ 300 := by omega
      clear hn h300
      go_upto_region 8 with (first | (at_builtin; refine print_append_num (w0 := w) w.heap.size rfl (.tmp 22) (.tmp 23) 22 3 .i64 8 rfl Try.underlying22 info3 (by decide) _ _ _ rfl rfl Hown2.out HB2.out HB2.out.size (by omega) ?_; intro v3 W3 hown3 hb3 hg3 hat3; have Hown3 := Lib.hid hown3; have HB3 := Lib.hid hb3; clear hown3 hb3 hg3 hat3) | (at_builtin; refine print_append_row (w0 := w) w.heap.size rfl (.tmp 19) (.tmp 20) 22 3 .i64 8 rfl Try.underlying22 info3 (by decide) (.slice none 0 0) [] xs A xs.length c rfl rfl (own_nil _ _ _ _) Hr.out (Below.refl _ _) (Nat.le_refl _) (by simp; omega) ?_; intro v2 W2 hown2 hb2 hg2 hat2; rw [List.nil_append] at hown2; obtain ⟨A2, c2, rfl⟩ := own_slice hown2; have Hown2 := Lib.hid hown2; have HB2 := Lib.hid hb2; clear hown2 hb2 hg2 hat2))
      have hown3 := Hown3.out
      obtain ⟨A3, c3, rfl⟩ := own_slice hown3
      obtain ⟨g, rfl, hc3, hg1, hg2, hx3, h77⟩ := copy_of hown3
      have hcut := cut_to (P := Try.prog) 22 3 .i64 Try.underlying22 hi3 (some ⟨g, 0, none⟩) (xs.length + 1) c3 (xs.length : Int) (by omega) (by omega) (by simpa using hc3)
      have Hx3 := Lib.hid hx3; have H77 := Lib.hid h77
      have Hg := Lib.hid (⟨hg1, hg2⟩ : w.heap.size ≤ g ∧ g < W3.heap.size)
      have hforce := force_any (some ⟨g, 0, none⟩) c3 xs Hx3.out (by omega) Hwf.out
      have Hforce := Lib.hid hforce
      clear hown3 hc3 hg1 hg2 hx3 h77 hforce Hown2 HB2
      go_upto_region 9 with (go_at_call 36; refine Hforce.out.mono ?_; rintro e W4 ⟨rfl, ⟨nm, D, hp4, hct⟩, hb4⟩; have HP4 := Lib.hid hp4; have HC := Lib.hid hct; have HB4 := Lib.hid hb4; clear hp4 hct hb4)
      obtain ⟨p, hp⟩ : ∃ p, p = W3.heap.size + 1 := ⟨_, rfl⟩
      obtain ⟨b, hb⟩ : ∃ b, b = W3.heap.size := ⟨_, rfl⟩
      have hP4 := HP4.out
      rw [← hp, ← hb] at hP4
      rw [← hp]
      have HP4 := Lib.hid hP4
      have Hpb := Lib.hid (⟨by omega, by have := Hg.out.2; omega, by have := Hg.out.2; omega, by have := Hg.out; omega⟩ : b ≠ p ∧ p ≠ g ∧ b ≠ g ∧ w.heap.size ≤ p)
      clear hp hb hP4 Hforce
      have hre4 := Hx3.out.below HB4.out
      have hra4 := Hr.out.below (below_then HB3.out HB3.out.size HB4.out)
      have h774 := pw_cell_below HB4.out H77.out
      have hrow4 := own_move Hown3.out (w1 := W4) (fun k e => HB4.out.block k (own_lt Hown3.out k e))
      have Hre4 := Lib.hid hre4; have Hra4 := Lib.hid hra4; have Hrow4 := Lib.hid hrow4
      have HBw4 := Lib.hid (below_then HB3.out HB3.out.size HB4.out)
      clear hre4 hra4 hrow4 Hown3 Hx3 H77 HB3 HB4
      go_upto_region 11 with (go_at_call 29; refine (same_any _ _ _ _ xs _ Hre4.out Hra4.out).mono ?_; rintro e W5 ⟨rfl, q5, hW5⟩; have hk5 : Kept (fun k => k = g) W4 W5 := (by rw [hW5]; exact ⟨rfl, rfl, rfl, Nat.le_refl _, fun _ _ _ => rfl⟩); have h775 : W5.cell? ⟨g, xs.length, none⟩ = some (.int .i64 77) := (by rw [hW5]; exact h774); have hrow5 : W5.ownsRow w.heap.size 3 1 (.slice (some ⟨g, 0, none⟩) (xs ++ [77]).length c3) (xs ++ [77]).length (nums .i64 (xs ++ [77])) := (by rw [hW5]; exact own_move Hrow4.out (fun _ _ => rfl)); have Hk5 := Lib.hid hk5; have Hrow5 := Lib.hid hrow5; clear hW5 hk5 hrow5 h774)
      have hr0 : RowAt w W4 W5 g c3 (xs.length + 1) (xs ++ [77]) := ⟨by have h := Hrow5.out; simpa using h, Hk5.out⟩
      have Hr0 := Lib.hid hr0
      clear hr0 Hrow5 Hk5 h775 hcut Hrow4 Hre4 Hra4
      go_wp2
      go_loopw [7] (fun iv wr => ∃ (i : Nat) (zs : List Int), i ≤ xs.length + 1 ∧ iv = .int .i64 i ∧ Hid (RowAt w W4 wr g c3 (xs.length + 1) zs)) (fun iv _ => xs.length + 1 - (intOf iv).toNat)
      case atStart => exact ⟨0, _, Nat.zero_le _, rfl, Hr0⟩
      case round =>
        obtain ⟨i, zs, hi, rfl, HR⟩ := hrel
        clear Hr0
        by_cases hlt : i < xs.length + 1
        · obtain ⟨⟨v, hcv⟩, hfv, zs', hnx⟩ := HR.out.put i hlt
          have Hnx := Lib.hid hnx
          have q0 : (0 : Int) ≤ (i : Int) := by omega
          have q1 : (i : Int) < (xs.length : Int) + 1 := by omega
          clear hnx
          go_wp2
          go_roundw
          case rel => exact ⟨i + 1, zs', by omega, by go_num, Hnx⟩
          case measure => simp [intOf]; omega
        · have q1 : ¬ (i : Int) < (xs.length : Int) + 1 := by omega
          have hP5 := HP4.out.move (W' := wr) (HR.out.kept.block p HP4.out.lt.1 Hpb.out.2.1) (HR.out.kept.block b HP4.out.lt.2 Hpb.out.2.2.1)
          have hbw : Below w.heap.size w wr := HBw4.out.trans (HR.out.kept.below HBw4.out.size (fun k e _ => by rw [e]; exact Hg.out.1))
          obtain ⟨W6, hW6⟩ : ∃ W6, W6 = wr := ⟨_, rfl⟩
          rw [← hW6] at hP5 hbw ⊢
          clear hW6 HR HP4 HBw4 hlt hi
          obtain ⟨M, hM⟩ : ∃ M, M = n.toNat := ⟨_, rfl⟩
          have hM3 : M ≤ 300 := by omega
          have hz0 : (W6.alloc (.cells #[.map none, .int .i64 0] 67)).heap[W6.heap.size]? = some (.cells #[.map none, .int .i64 ((0 : Nat) : Int)] 67 (0, 0)) := blk_new W6 _
          have hP7 : PlanAt (W6.alloc (.cells #[.map none, .int .i64 0] 67)) p b nm D ((0 : Nat) : Int) := hP5.move ((below_alloc (Below.refl W6.heap.size W6) _).block p hP5.lt.1) ((below_alloc (Below.refl W6.heap.size W6) _).block b hP5.lt.2)
          have hb7 : Below w.heap.size w (W6.alloc (.cells #[.map none, .int .i64 0] 67)) := below_then hbw hbw.size (below_alloc (Below.refl _ _) _)
          obtain ⟨z, hz⟩ : ∃ z, z = W6.heap.size := ⟨_, rfl⟩
          have Hzz := Lib.hid (⟨by have := hP5.lt; omega, by have := hP5.lt; omega, by have := hbw.size; omega⟩ : p ≠ z ∧ b ≠ z ∧ w.heap.size ≤ z)
          rw [← hz] at hz0
          have Hz0 := Lib.hid hz0; have HP7 := Lib.hid hP7; have HB7 := Lib.hid hb7; have HM := Lib.hid hM
          clear hz0 hP7 hb7 hM hP5 hbw
          go_wp2
          rw [← hz]
          clear hz
          go_loopw [10] (fun iv wr => ∃ j : Nat, j ≤ M ∧ iv = .int .i64 ((j : Int) + 1) ∧ Hid (PlanAt wr p b nm D (j : Int)) ∧ Hid (wr.heap[z]? = some (.cells #[.map none, .int .i64 (j : Int)] 67 (0, 0))) ∧ Hid (Below w.heap.size w wr)) (fun iv _ => M + 1 - (intOf iv).toNat)
          case atStart => exact ⟨0, Nat.zero_le _, rfl, HP7, Hz0, HB7⟩
          case round =>
            obtain ⟨j, hj, rfl, HP, HZ, HB⟩ := hrel
            clear HP7 Hz0 HB7
            by_cases hlt : j < M
            · have q1 : (j : Int) + 1 ≤ n := by have := HM.out; omega
              obtain ⟨tb, htb⟩ : ∃ tb, tb = decide (0 < tally ((j : Int) + 1) xs) := ⟨_, rfl⟩
              have htick := tick_at HP.out Hpb.out.1 HC.out (by omega)
              rw [← htb] at htick
              have Htb := Lib.hid htb; have Htick := Lib.hid htick
              have hjw : (j : Int) + 1 ≤ 1000 := by omega
              clear htb htick
              obtain ⟨W8, hW8⟩ : ∃ W8, W8 = wr := ⟨_, rfl⟩
              rw [← hW8] at HP HZ HB Htick ⊢
              clear hW8
              go_wp2
              go_loopw [11, 12] (fun bv kv wr' => ∃ k : Nat, k ≤ xs.length ∧ kv = .int .i64 k ∧ bv = .bool (decide (0 < tally ((j : Int) + 1) (xs.take k))) ∧ wr' = W8) (fun _ kv _ => xs.length - (intOf kv).toNat)
              case atStart => exact ⟨0, Nat.zero_le _, rfl, rfl, rfl⟩
              case round =>
                obtain ⟨k, hk, rfl, rfl, hw9⟩ := hrel
                obtain rfl := hw9.symm
                by_cases hkl : k < xs.length
                · obtain ⟨ad, rfl, hcell⟩ := (Hr.out.below HB.out).at_ (k : Int) (by omega) (by omega)
                  rw [Int.toNat_natCast] at hcell
                  have htk := take_snoc xs k hkl
                  have r0 : (0 : Int) ≤ (k : Int) := by omega
                  have r1 : (k : Int) < (xs.length : Int) := by omega
                  obtain ⟨x, hx⟩ : ∃ x, x = rd xs (k : Int) := ⟨_, rfl⟩
                  rw [← hx] at htk hcell
                  have hta := tally_append ((j : Int) + 1) x (xs.take k)
                  rw [← htk] at hta
                  obtain ⟨t, ht⟩ : ∃ t, t = tally ((j : Int) + 1) (xs.take k) := ⟨_, rfl⟩
                  rw [← ht] at hta ⊢
                  have Hta := Lib.hid hta
                  clear hx htk hta ht
                  by_cases h0 : 0 < t
                  · have hd : decide (0 < t) = true := by simpa using h0
                    rw [hd]
                    have hd2 : decide (0 < tally ((j : Int) + 1) (xs.take (k + 1))) = true := by rw [Hta.out]; simp; omega
                    have Hd2 := Lib.hid hd2
                    clear hd hd2 h0
                    go_wp2
                    go_roundw
                    case rel => exact ⟨k + 1, by omega, by go_num, by rw [Hd2.out], trivial⟩
                    case measure => simp [intOf]; omega
                  · have hd : decide (0 < t) = false := by simpa using h0
                    rw [hd]
                    by_cases hxy : x = (j : Int) + 1
                    · have hb1 : (x == (j : Int) + 1) = true := beq_iff_eq.2 hxy
                      have hd2 : decide (0 < tally ((j : Int) + 1) (xs.take (k + 1))) = true := by rw [Hta.out, if_pos hxy]; simp
                      have Hd2 := Lib.hid hd2
                      clear hd hd2 h0 hxy
                      go_wp2
                      go_roundw
                      case rel => exact ⟨k + 1, by omega, by go_num, by rw [Hd2.out], trivial⟩
                      case measure => simp [intOf]; omega
                    · have hb1 : (x == (j : Int) + 1) = false := beq_eq_false_iff_ne.2 hxy
                      have hd2 : decide (0 < tally ((j : Int) + 1) (xs.take (k + 1))) = false := by rw [Hta.out, if_neg hxy]; simp; omega
                      have Hd2 := Lib.hid hd2
                      clear hd hd2 h0 hxy
                      go_wp2
                      go_roundw
                      case rel => exact ⟨k + 1, by omega, by go_num, by rw [Hd2.out], trivial⟩
                      case measure => simp [intOf]; omega
                · have r1 : ¬ (k : Int) < (xs.length : Int) := by omega
                  rw [List.take_of_length_le (by omega), ← Htb.out]
                  clear hkl
                  go_wp2_with (first | (go_at_call 37; have HN2 := HN; refine (tick_zero ((HK9.out.block z (blk_lt HZ.out) (fun e => Hzz.out.1 e.symm)).trans HZ.out) (by omega)).mono ?_; rintro e W11 ⟨rfl, hz11, hk11⟩; have HZ11 := Lib.hid hz11; have HK11 := Lib.hid hk11; clear hz11 hk11) | (go_at_call 37; have HN := HP9; refine (tick_none _).mono ?_; rintro e W10 ⟨rfl, rfl⟩) | (go_at_call 37; refine Htick.out.mono ?_; rintro e W9 ⟨rfl, hp9, hk9⟩; have HP9 := Lib.hid hp9; have HK9 := Lib.hid hk9; clear hp9 hk9))
                  go_roundw
                  case rel =>
                    have hzp : Below w.heap.size w W11 := (HB.out.trans (HK9.out.below HB.out.size (fun k e _ => by rw [e]; exact Hpb.out.2.2.2))).trans (HK11.out.below (Nat.le_trans HB.out.size HK9.out.size) (fun k e _ => by rw [e]; exact Hzz.out.2.2))
                    exact ⟨j + 1, by omega, by go_num, Lib.hid (HP9.out.move (HK11.out.block p HP9.out.lt.1 Hzz.out.1) (HK11.out.block b HP9.out.lt.2 Hzz.out.2.1)), HZ11, Lib.hid hzp⟩
                  case measure => simp [intOf]; omega
            · have q1 : ¬ (j : Int) + 1 ≤ n := by have := HM.out; omega
              have hcp := count_at HP.out.blk
              have hcz := count_at HZ.out
              have Hcp := Lib.hid hcp; have Hcz := Lib.hid hcz
              clear hcp hcz
              by_cases hn0 : 0 < n
              · obtain rfl : n = (j : Int) := by have := HM.out; omega
                clear hlt HM
                go_wp2_with (first | (go_at_call 25; refine (awake25_any _).mono ?_; rintro e W15 ⟨rfl, hb15⟩; have HB15 := Lib.hid (below_then HB.out HB.out.size hb15); clear hb15) | (go_at_call 38; have HN3 := HN2; refine Hcz.out.mono ?_; rintro e W14 ⟨rfl, rfl⟩) | (go_at_call 38; have HN2 := HN1; refine (count_none _).mono ?_; rintro e W13 ⟨rfl, rfl⟩) | (go_at_call 38; have HN1 := Hcp; refine Hcp.out.mono ?_; rintro e W12 ⟨rfl, rfl⟩))
                go_ret
                exact ⟨rfl, HB15.out⟩
              · obtain rfl : j = 0 := by have := HM.out; omega
                clear hlt HM
                by_cases hnz : n = 0
                · subst hnz
                  go_wp2_with (first | (go_at_call 25; refine (awake25_any _).mono ?_; rintro e W15 ⟨rfl, hb15⟩; have HB15 := Lib.hid (below_then HB.out HB.out.size hb15); clear hb15) | (go_at_call 38; have HN3 := HN2; refine Hcz.out.mono ?_; rintro e W14 ⟨rfl, rfl⟩) | (go_at_call 38; have HN2 := HN1; refine (count_none _).mono ?_; rintro e W13 ⟨rfl, rfl⟩) | (go_at_call 38; have HN1 := Hcp; refine Hcp.out.mono ?_; rintro e W12 ⟨rfl, rfl⟩))
                  go_ret
                  exact ⟨rfl, HB15.out⟩
                · have hneg : n < 0 := by omega
                  have hbe : (n == 0) = false := beq_eq_false_iff_ne.2 hnz
                  clear hnz hn0
                  go_wp2_with (first | (go_at_call 25; refine (awake25_any _).mono ?_; rintro e W15 ⟨rfl, hb15⟩; have HB15 := Lib.hid (below_then HB.out HB.out.size hb15); clear hb15) | (go_at_call 38; have HN3 := HN2; refine Hcz.out.mono ?_; rintro e W14 ⟨rfl, rfl⟩) | (go_at_call 38; have HN2 := HN1; refine (count_none _).mono ?_; rintro e W13 ⟨rfl, rfl⟩) | (go_at_call 38; have HN1 := Hcp; refine Hcp.out.mono ?_; rintro e W12 ⟨rfl, rfl⟩))
                  go_ret
                  exact ⟨rfl, HB15.out⟩
end Go.Proofs.Ytgchgkffoplogaa
