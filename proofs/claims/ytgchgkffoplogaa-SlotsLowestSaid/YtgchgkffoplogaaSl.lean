/- The walk of the law SlotsLowest. -/
import Derived.Test.YtgchgkffoplogaaSk
namespace Go.Proofs.Ytgchgkffoplogaa
open Go.RowKit Go.Proofs.YtgchgkffoplogaaW.PrintWords
set_option linter.unusedVariables false
set_option linter.unusedSimpArgs false

/-- The law's own state: its row of Booleans, and the table beside it. -/
structure LawAt (w W : World) (v : Value) (L : List Int) (T : List Bool) : Prop where
  row : W.ownsRow w.heap.size 4 1 v T.length (encs .bool T)
  tab : Tab W w.heap.size (fun k => w.heap.size ≤ k ∧ v.ownBlock ≠ some k) L T
  bel : Below w.heap.size w W

theorem LawAt.drewN {w W : World} {v : Value} {L : List Int} {T : List Bool} (h : LawAt w W v L T) (q : Nat) : LawAt w (W.drewN q) v L T :=
  ⟨h.row, h.tab.kept (ok' := fun _ => False) ((Kept.refl _ _).drewN q) (fun _ _ _ e => e), pw_below_drewN h.bel q⟩

/-- What holds of the row alone while the table waits. -/
structure MidAt (w W : World) (v : Value) (L : List Int) (T U : List Bool) : Prop where
  row : W.ownsRow w.heap.size 4 1 v U.length (encs .bool U)
  tab : Tab W w.heap.size (fun k => w.heap.size ≤ k ∧ v.ownBlock ≠ some k) L T
  bel : Below w.heap.size w W

theorem LawAt.mid {w W : World} {v : Value} {L : List Int} {T : List Bool} (h : LawAt w W v L T) : MidAt w W v L T T := ⟨h.row, h.tab, h.bel⟩
theorem MidAt.law {w W : World} {v : Value} {L : List Int} {T : List Bool} (h : MidAt w W v L T T) : LawAt w W v L T := ⟨h.row, h.tab, h.bel⟩
theorem MidAt.append {w W w1 : World} {v v1 : Value} {L : List Int} {T U U1 : List Bool} (h : MidAt w W v L T U) (ho : w1.ownsRow w.heap.size 4 1 v1 U1.length (encs .bool U1)) (hg : W.grownBy w1 v.ownBlock) (hat : v1.ownBlock = v.ownBlock ∨ ∃ b, v1.ownBlock = some b ∧ W.heap.size ≤ b) : MidAt w w1 v1 L T U1 := by
  refine ⟨ho, ?_, ?_⟩
  · have h1 : Tab w1 w.heap.size (fun k => (w.heap.size ≤ k ∧ v.ownBlock ≠ some k) ∧ k < W.heap.size) L T := by
      obtain ⟨vl, vt, vf, F, h2⟩ := h.tab
      exact ⟨vl, vt, vf, F, h2.bound.move (fun k hk => hg.block k hk.2 (fun e => hk.1.2 e.symm))⟩
    refine h1.mono (fun k hk _ => ⟨hk.1.1, ?_⟩)
    rcases hat with e | ⟨b, e, hb⟩
    · rw [e]; exact hk.1.2
    · rw [e]; intro e2; injection e2 with e2; have := hk.2; omega
  · exact h.bel.grown hg h.bel.size (own_base h.row)
theorem MidAt.set_ {w W : World} {g n c : Nat} {L : List Int} {T U : List Bool} (h : MidAt w W (.slice (some ⟨g, 0, none⟩) n c) L T U) (hn : n = U.length) (m : Nat) (b : Bool) : MidAt w (W.setCell ⟨g, m, none⟩ (.bool b)) (.slice (some ⟨g, 0, none⟩) n c) L T (U.set m b) := by
  subst hn
  have hs := own_store_of h.row (m : Int) b
  simp only [Int.toNat_natCast] at hs
  have h1 := h.append (U1 := U.set m b) (by simpa using hs.1) hs.2 (.inl rfl)
  exact h1
/-- What the table's methods leave. -/
theorem MidAt.call {w W w' : World} {v : Value} {L L' : List Int} {T T' U : List Bool} (h : MidAt w W v L T U) (ht : Tab w' w.heap.size (fun k => (w.heap.size ≤ k ∧ v.ownBlock ≠ some k) ∨ W.heap.size ≤ k) L' T') (hk : Kept (fun k => w.heap.size ≤ k ∧ v.ownBlock ≠ some k) W w') : MidAt w w' v L' T' U := by
  refine ⟨own_move h.row (fun k e => hk.block k (own_lt h.row k e) (fun hk' => hk'.2 e)), ht.mono (fun k e _ => ?_), h.bel.trans (hk.below h.bel.size (fun k e _ => e.1))⟩
  rcases e with e | e
  · exact e
  · refine ⟨by have := h.bel.size; omega, fun e2 => ?_⟩
    have := own_lt h.row k e2; omega

theorem info4l : (Try.prog.info? 4).map (fun i => (i.zero, i.size, i.bytes)) = some (some (.bool false), 1, 1) := by kernel_rfl

set_option maxRecDepth 100000 in
set_option maxHeartbeats 3200000 in
theorem lowest_law (A B : Option Addr) (cA cB : Nat) (xs ys : List Int) (w : World) (hx : ReadsInt w .i64 A xs.length xs) (hy : ReadsInt w .i64 B ys.length ys) :
    Calls Try.prog 3 #[.slice A xs.length cA, .slice B ys.length cB] w fun e w' => e = .returned (.bool true) ∧ Below w.heap.size w w' := by
  have hxm := hx.2.1; have hym := hy.2.1
  by_cases hlx : 400 < xs.length
  · go_enter Try.func3, Try.ntmps3
    go_wp2_with (go_at_call 12; refine (awake12_any _).mono ?_; rintro e w3 ⟨rfl, hb⟩)
    go_ret
    exact ⟨rfl, hb⟩
  by_cases hly : 400 < ys.length
  · go_enter Try.func3, Try.ntmps3
    go_wp2_with (go_at_call 12; refine (awake12_any _).mono ?_; rintro e w3 ⟨rfl, hb⟩)
    go_ret
    exact ⟨rfl, hb⟩
  have Hx := Lib.hid hx; have Hy := Lib.hid hy; clear hx hy
  go_enter Try.func3, Try.ntmps3
  go_wp2_with (go_at_call 13; refine (new_any _).mono ?_; rintro e w1 ⟨rfl, rfl⟩)
  go_loopw [6, 7, 8, 9] (fun v hi nn iv wr => ∃ (j : Nat) (L : List Int) (T : List Bool), j ≤ xs.length ∧ T.length ≤ j ∧ iv = .int .i64 j ∧ hi = .int .i64 T.length ∧ nn = .int .i64 (cnt T) ∧ Hid (LawAt w wr v L T)) (fun _ _ _ iv _ => xs.length - (intOf iv).toNat)
  case atStart => exact ⟨0, [], [], Nat.zero_le _, Nat.le_refl _, rfl, rfl, rfl, Lib.hid ⟨own_nil _ _ _ _, tab_new.mono (fun k e _ => ⟨e, by simp [Value.ownBlock]⟩), below_alloc (Below.refl _ _) _⟩⟩
  case round =>
    obtain ⟨j, L, T, hj, hTj, rfl, rfl, rfl, H⟩ := hrel
    by_cases hjx : j < xs.length
    · have hTl : T.length ≤ 400 := by omega
      obtain ⟨gT, cT, hv⟩ : ∃ A c, _ = Value.slice A T.length c := own_slice H.out.row
      subst hv
      go_upto_block 2 with (fail)
      go_cut [10] (fun lo wc => lo = .int .i64 (lowest T) ∧ wc = wr)
      case first =>
        rcases Nat.eq_zero_or_pos T.length with hT0 | hT0
        · have hlow : lowest T = 0 := lowest_is T 0 (fun i hi => by omega) (.inl hT0.symm)
          have Hlow := Lib.hid hlow; clear hlow
          have hz : ¬ (0 : Int) < (T.length : Int) := by omega
          clear hT0
          go_wp2_with fail
          go_loop [10] (fun lo => lo = .int .i64 0) (fun _ => 0)
          case atStart => rfl
          case round =>
            subst hrel
            go_wp2
            go_meet
            exact ⟨by rw [Hlow.out]; rfl, rfl⟩
        · obtain ⟨g, c, hv, _, _⟩ := H.out.row.form hT0
          injection hv with hA _ hc
          subst hA
          subst hc
          go_wp2_with fail
          go_loop [10] (fun lo => ∃ m : Nat, m ≤ T.length ∧ lo = .int .i64 m ∧ ∀ i : Nat, i < m → T[i]? = some true) (fun lo => T.length - (intOf lo).toNat)
          case atStart => exact ⟨0, Nat.zero_le _, rfl, fun i hi => by omega⟩
          case round =>
            obtain ⟨m, hm, rfl, hall⟩ := hrel
            have Hall := Lib.hid hall; clear hall
            by_cases hmT : m < T.length
            · obtain ⟨hcell, _⟩ := own_at_of (d := false) H.out.row (m : Int) (by omega) (by omega)
              rw [Int.toNat_natCast] at hcell
              have p1 : (0 : Int) ≤ (m : Int) := by omega
              have p2 : (m : Int) < (T.length : Int) := by omega
              have hget : T[m]? = some (rdOf false T (m : Int)) := by rw [List.getElem?_eq_getElem hmT]; simp [rdOf, List.getD, List.getElem?_eq_getElem hmT]
              have Hget := Lib.hid hget; clear hget
              cases hb : rdOf false T (m : Int)
              · rw [hb] at hcell Hget
                clear hb
                have hlow : lowest T = m := lowest_is T m Hall.out (.inr Hget.out)
                have Hlow := Lib.hid hlow; clear hlow
                go_wp2
                go_meet
                exact ⟨by rw [Hlow.out], rfl⟩
              · rw [hb] at hcell Hget
                clear hb
                go_wp2
                go_round
                case rel =>
                  refine ⟨m + 1, by omega, by go_num, fun i hi => ?_⟩
                  by_cases e : i = m
                  · subst e; exact Hget.out
                  · exact Hall.out i (by omega)
                case measure => simp [intOf]; omega
            · have hlow : lowest T = m := lowest_is T m Hall.out (.inl (by omega))
              have Hlow := Lib.hid hlow; clear hlow
              have hmm : ¬ (m : Int) < (T.length : Int) := by omega
              go_wp2
              go_meet
              exact ⟨by rw [Hlow.out], rfl⟩
      case rest =>
        obtain ⟨rfl, rfl⟩ := hcut
        obtain ⟨U, hU⟩ : ∃ U, U = if lowest T = T.length then T ++ [false] else T := ⟨_, rfl⟩
        have hUl : lowest T < U.length ∧ U.length ≤ 401 ∧ U.set (lowest T) true = addT T := by
          rw [hU]; unfold addT
          have := lowest_le T
          split
          · rename_i e; rw [e]; exact ⟨by simp, by simp; omega, by simp⟩
          · exact ⟨by omega, by omega, rfl⟩
        have HU := Lib.hid hU; clear hU
        have HUl := Lib.hid hUl; clear hUl
        go_upto_if 45 with (fail)
        go_cut [6] (fun v wc => Hid (MidAt w wc v L T U))
        case first =>
          by_cases hf : lowest T = T.length
          · have hfi : ((lowest T : Int) == (T.length : Int)) = true := by rw [beq_iff_eq]; omega
            have hUe := HU.out
            rw [if_pos hf] at hUe
            have HUe := Lib.hid hUe
            clear hUe hf
            obtain ⟨i4, hi4, z41, z42, z43⟩ := info_parts info4l
            go_wp2_with (at_builtin; refine print_append_of (w0 := w) Value.bool w.heap.size rfl (.tmp 46) (.tmp 47) 26 4 (.bool false) 1 rfl Try.underlying26 info4l rfl (by decide) _ T false rfl rfl rfl H.out.row H.out.bel H.out.bel.size (by omega) ?_; intro v1 w1 hown hb hg hat)
            go_meet
            exact Lib.hid (H.out.mid.append (by rw [HUe.out]; exact hown) hg hat)
          · have hfi : ((lowest T : Int) == (T.length : Int)) = false := by rw [beq_eq_false_iff_ne]; omega
            have hUe := HU.out
            rw [if_neg hf] at hUe
            have HUe := Lib.hid hUe
            clear hUe hf
            go_wp2
            go_meet
            exact Lib.hid (by rw [HUe.out]; exact H.out.mid)
        case rest =>
          clear H
          have hml : lowest T < U.length := HUl.out.1
          have hU4 : U.length ≤ 401 := HUl.out.2.1
          obtain ⟨g, c, hv, _, _⟩ := hcut.out.row.form (by omega)
          subst hv
          obtain ⟨hcl, hfl⟩ := own_at_of (d := false) hcut.out.row (lowest T : Int) (by omega) (by omega)
          rw [Int.toNat_natCast] at hcl hfl
          have p1 : (0 : Int) ≤ (lowest T : Int) := by omega
          have p2 : (lowest T : Int) < (U.length : Int) := by omega
          have hcn := cnt_le T
          have HM := Lib.hid (hcut.out.set_ rfl (lowest T) true)
          clear hcut
          rw [HUl.out.2.2] at HM
          have hUa : U.length = (addT T).length := by rw [← HUl.out.2.2]; simp
          have HUa := Lib.hid hUa; clear hUa
          have hq1 : (addT T).length = (if cnt T + 1 > T.length then cnt T + 1 else T.length) := by
            rw [len_addT]
            by_cases hf : lowest T = T.length
            · have := cnt_full T hf
              rw [if_pos hf, if_pos (by omega)]; omega
            · have := cnt_lt T hf
              rw [if_neg hf, if_neg (by omega)]
          have Hq1 := Lib.hid hq1
          clear hq1
          go_upto_if 56 with (fail)
          go_cut [7] (fun hi wx => hi = .int .i64 (addT T).length ∧ wx = wc.setCell ⟨g, lowest T, none⟩ (.bool true))
          case first =>
            by_cases hgt : (T.length : Int) < (cnt T : Int) + 1
            · have e : (addT T).length = cnt T + 1 := by have := Hq1.out; rw [if_pos (by omega)] at this; exact this
              have He := Lib.hid e; clear e
              go_wp2
              go_meet
              exact ⟨by rw [He.out]; rfl, rfl⟩
            · have e : (addT T).length = T.length := by have := Hq1.out; rw [if_neg (by omega)] at this; exact this
              have He := Lib.hid e; clear e
              go_wp2
              go_meet
              exact ⟨by rw [He.out], rfl⟩
          case rest =>
            obtain ⟨rfl, rfl⟩ := hcut
            clear hcl hfl p1 p2
            obtain ⟨W, hW⟩ : ∃ W, W = wc.setCell ⟨g, lowest T, none⟩ (.bool true) := ⟨_, rfl⟩
            rw [← hW] at HM ⊢
            clear hW
            obtain ⟨adx, hax, hxc⟩ := (Hx.out.below HM.out.bel).at_ (j : Int) (by omega) (by omega)
            subst hax
            rw [Int.toNat_natCast] at hxc
            have hadd := add_any HM.out.tab (by have := HM.out.tab.len; omega) (rd xs (j : Int))
            have Hadd := Lib.hid hadd; clear hadd
            have p1 : (0 : Int) ≤ (j : Int) := by omega
            have p2 : (j : Int) < (xs.length : Int) := by omega
            have hTl2 : (addT T).length ≤ 401 := by rw [← HUa.out]; exact hU4
            have hc1 : cnt (addT T) = cnt T + 1 := cnt_addT T
            have Hc1 := Lib.hid hc1; clear hc1
            have hLl : (addL L T (rd xs (j : Int))).length ≤ 100000 := by rw [len_addL L T _ HM.out.tab.len]; omega
            go_upto_if 77 with (first | (go_at_call 14; refine Hadd.out.mono ?_; rintro e w2 ⟨rfl, ht, hk⟩; have H2 := Lib.hid (HM.out.call ht hk).law; clear ht hk) | (go_at_call 15; refine (thigh_any H2.out.tab).mono ?_; rintro e w3 ⟨rfl, rfl⟩) | (go_at_call 16; refine (tlen_any H2.out.tab hLl).mono ?_; rintro e w4 ⟨rfl, q, rfl⟩; rw [Hc1.out]))
            have hT3 : (addT T).length ≤ j + 1 ∧ 0 < (addT T).length := by
              refine ⟨?_, by have := HUa.out; omega⟩
              rw [len_addT]; split <;> omega
            have H3 := Lib.hid (H2.out.drewN q)
            clear H2
            rw [HUa.out] at H3 ⊢
            have hn3 : (cnt T : Int) + 1 = (cnt (addT T) : Int) := by rw [Hc1.out]; rfl
            rw [hn3]
            have hcn3 := cnt_le (addT T)
            clear Hadd Hc1 HUa HUl HU HM hn3 Hq1 hLl
            generalize addT T = T3 at *
            generalize addL L T (rd xs (j : Int)) = L3 at *
            generalize w2.drewN q = W3 at *
            obtain ⟨hTj, hT0⟩ := hT3
            have hend : ∀ (W4 : World) (L4 : List Int) (T4 : List Bool), T4.length = T3.length → LawAt w W4 (.slice (some ⟨g, 0, none⟩) T3.length c) L4 T4 → Hid (LawAt w W4 (.slice (some ⟨g, 0, none⟩) T3.length c) L4 T4) := fun _ _ _ _ h => Lib.hid h
            by_cases hjy : j < ys.length
            · obtain ⟨ady, hay, hyc⟩ := (Hy.out.below H3.out.bel).at_ (j : Int) (by omega) (by omega)
              subst hay
              rw [Int.toNat_natCast] at hyc
              have p3 : (j : Int) < (ys.length : Int) := by omega
              by_cases hf : 0 ≤ rd ys (j : Int)
              · obtain ⟨fn, hfn⟩ := Int.eq_ofNat_of_zero_le hf
                rw [hfn] at hyc
                clear hfn hf
                have hr : (fn : Int).tmod (T3.length : Int) = ((fn % T3.length : Nat) : Int) := by rw [Int.ofNat_tmod]
                have hmod : fn % T3.length < T3.length := Nat.mod_lt _ hT0
                have hnz : (T3.length : Int) ≠ 0 := by omega
                obtain ⟨kk, hkk⟩ : ∃ kk, kk = fn % T3.length := ⟨_, rfl⟩
                have he : (fn : Int) % (T3.length : Int) = (kk : Int) := by rw [hkk]; rfl
                rw [← hkk] at hmod hr
                have Hkk := Lib.hid hkk; clear hkk
                go_upto_region 25 with (fail)
                obtain ⟨hk3, hk3f⟩ := own_at_of (d := false) H3.out.row (kk : Int) (by omega) (by omega)
                rw [Int.toNat_natCast] at hk3 hk3f
                have p4 : (0 : Int) ≤ (kk : Int) := by omega
                have p5 : (kk : Int) < (T3.length : Int) := by omega
                have H3d : LawAt w W3.drew (.slice (some ⟨g, 0, none⟩) T3.length c) L3 T3 := H3.out.drewN 1
                have hk3d : W3.drew.cell? ⟨g, kk, none⟩ = some (.bool (rdOf false T3 (kk : Int))) := hk3
                have hfree := free_any H3d.tab (by have := H3d.tab.len; omega) (kk : Int)
                have hiT : isT T3 (kk : Int) = rdOf false T3 (kk : Int) := by simp [isT]
                have hfs := free_set T3 kk hmod
                rw [Int.toNat_natCast, hfs] at hfree
                rw [hiT] at hfree
                have Hfree := Lib.hid hfree; have H3D := Lib.hid H3d; clear hfree hiT hfs H3d
                clear he hr
                obtain ⟨b, hb⟩ : ∃ b, b = rdOf false T3 (kk : Int) := ⟨_, rfl⟩
                rw [← hb] at hk3d Hfree
                have Hb := Lib.hid hb; clear hb hk3
                go_region_held3 (fun w' => w'.cell? ⟨g, kk, none⟩ = some (.bool b)) (first | exact hk3d | exact hc5) ((go_at_call 17; refine Hfree.out.mono ?_; rintro e w5 ⟨rfl, ht5, hk5⟩; have H5 := Lib.hid (H3D.out.mid.call ht5 hk5); clear ht5 hk5; have hc5 : w5.cell? ⟨g, kk, none⟩ = some (.bool b) := by rw [Hb.out]; exact (own_at_of (d := false) H5.out.row (kk : Int) p4 p5).1))
                obtain ⟨hc5', hf5⟩ := own_at_of (d := false) H5.out.row (kk : Int) p4 p5
                rw [Int.toNat_natCast, ← Hb.out] at hc5'
                rw [Int.toNat_natCast] at hf5
                have H6 := Lib.hid (H5.out.set_ rfl kk false).law
                have hget : T3[kk]? = some (rdOf false T3 (kk : Int)) := by rw [List.getElem?_eq_getElem hmod]; simp [rdOf, List.getD, List.getElem?_eq_getElem hmod]
                rw [← Hb.out] at hget
                have Hget := Lib.hid hget; clear hget
                clear Hfree H3D H5 hk3f hk3d hc5 Hb
                cases b
                · have hsame : cnt (T3.set kk false) = cnt T3 := by rw [set_same T3 kk false Hget.out]
                  have Hs := Lib.hid hsame; clear hsame
                  go_wp2
                  go_roundw
                  case rel => exact ⟨j + 1, _, T3.set kk false, by omega, by simp; omega, by go_num, by simp, by rw [Hs.out], H6⟩
                  case measure => simp [intOf]; omega
                · have hsame : cnt (T3.set kk false) + 1 = cnt T3 := cnt_set_false T3 kk Hget.out
                  have Hs := Lib.hid hsame
                  have hpos : 0 < cnt T3 := by omega
                  clear hsame
                  go_wp2
                  go_roundw
                  case rel => exact ⟨j + 1, _, T3.set kk false, by omega, by simp; omega, by go_num, by simp, congrArg _ (by have := Hs.out; omega), H6⟩
                  case measure => simp [intOf]; omega
              · go_wp2
                go_roundw
                case rel => exact ⟨j + 1, L3, T3, by omega, hTj, by go_num, rfl, rfl, H3⟩
                case measure => simp [intOf]; omega
            · go_wp2
              go_roundw
              case rel => exact ⟨j + 1, L3, T3, by omega, hTj, by go_num, rfl, rfl, H3⟩
              case measure => simp [intOf]; omega
    · go_wp2_with (go_at_call 12; refine (awake12_any _).mono ?_; rintro e w3 ⟨rfl, hb⟩)
      go_ret
      exact ⟨rfl, H.out.bel.trans (hb.mono H.out.bel.size)⟩
end Go.Proofs.Ytgchgkffoplogaa
