/- The walk of the document's Mark. -/
import Derived.Test.YtgchgkffoplogaaCa
import Derived.Deep.LoopGhost
namespace Go.Proofs.Ytgchgkffoplogaa
open Go.RowKit Go.Proofs.YtgchgkffoplogaaW.PrintWords
set_option linter.unusedVariables false
set_option linter.unusedSimpArgs false

/-- The row of bools that a call made. -/
structure RAt (w W : World) (g n : Nat) (R : List Bool) : Prop where
  row : W.ownsRow w.heap.size 4 1 (.slice (some ⟨g, 0, none⟩) n n) n (encs Value.bool R)
  bel : Below w.heap.size w W
theorem RAt.set_ {w W : World} {g n : Nat} {R : List Bool} (h : RAt w W g n R) (j : Nat) : RAt w (W.setCell ⟨g, j, none⟩ (.bool true)) g n (R.set j true) := by
  have := own_store_of h.row (j : Int) true
  rw [Int.toNat_natCast] at this
  exact ⟨this.1, h.bel.setCell (p := ⟨g, j, none⟩) (own_base h.row g rfl) _⟩
theorem RAt.len {w W : World} {g n : Nat} {R : List Bool} (h : RAt w W g n R) : R.length = n := by
  have := h.row.1
  rw [encs_length] at this
  omega
theorem RAt.at_ {w W : World} {g n : Nat} {R : List Bool} (h : RAt w W g n R) (j : Nat) (hj : j < n) : W.cell? ⟨g, j, none⟩ = some (.bool (fR R j)) ∧ W.frozen? ⟨g, j, none⟩ = false := by
  have := own_at_of (d := false) h.row (j : Int) (by omega) (by omega)
  rw [Int.toNat_natCast] at this
  have e : rdOf false R (j : Int) = fR R j := by simp [rdOf]
  rw [e] at this
  exact this

set_option maxRecDepth 100000 in
set_option maxHeartbeats 3200000 in
theorem refMark_any {w : World} {C : Nat} {ok okE : Nat → Prop} {vL vT : Value} {M : List Value} {T : List Bool} {X : List (List Int)} (h : RefAt w C ok okE vL vT M T X) (hl : M.length ≤ 100000)
    (A : Option Addr) (cA : Nat) (rl : List Int) (hr : ReadsInt w .i64 A rl.length rl) :
    Calls Try.prog 30 #[.pointer (some ⟨C, 0, none⟩), .slice A rl.length cA] w fun e w' => ∃ v, e = .returned v ∧ w'.ownsRow w.heap.size 3 1 v (marks T X rl).length (nums .i64 (marks T X rl)) ∧ Below w.heap.size w w' := by
  have hc : w.cell? ⟨C, 0, none⟩ = some vL := blk_cell h.blk 0
  obtain ⟨A0, c0, rfl⟩ := own_slice h.rl
  have hlen := h.len
  have hlenX := h.lenX
  obtain ⟨n, hn⟩ : ∃ n, n = M.length := ⟨_, rfl⟩
  rw [← hn] at hc
  have hmake := print_make_of (P := Try.prog) 26 4 (.bool false) 1 Try.underlying26 info4 rfl (by decide) n (by omega)
  have hr0 : RAt w (w.alloc (.cells (madeCells #[.bool false] n) 4)) w.heap.size n (List.replicate n false) :=
    ⟨own_made_of (enc := Value.bool) (d := false) w w.heap.size 4 n (Nat.le_refl _) (by omega), below_alloc (Below.refl _ _) _⟩
  have his : ∀ W, Below w.heap.size w W → ∀ i : Int, Calls Try.prog 35 #[.pointer (some ⟨C, 0, none⟩), .int .i64 i] W fun e w' => e = .returned (.bool (isT T i)) ∧ W = w' := fun W hb i =>
    is_any (h.bound.move (w' := W) (fun k hk _ => hb.block k hk.2) (fun k _ hlt => hb.block k hlt)) hl i
  have H := Lib.hid h; have Hlen := Lib.hid hlen; have HlenX := Lib.hid hlenX; have Hn := Lib.hid hn; have Hr0 := Lib.hid hr0; have His := Lib.hid his; have Hr := Lib.hid hr; have Hc := Lib.hid hc
  have hrn := hr.2.1
  clear h hlen hlenX hn hr0 his hr
  have hn1 : n ≤ 100000 := by rw [Hn.out]; exact hl
  go_enter Try.func30, Try.ntmps30
  go_wp2
  clear hmake hc
  obtain ⟨g, hg⟩ : ∃ g, g = w.heap.size := ⟨_, rfl⟩
  rw [← hg]
  rw [← hg] at Hr0
  have Hg := Lib.hid hg
  clear hg
  go_loopw [6] (fun iv wr => ∃ (j : Nat) (R : List Bool), j ≤ rl.length ∧ iv = .int .i64 j ∧ Hid (RAt w wr g n R) ∧ Hid ((∀ q : Nat, fR R q = true → Reach T X rl (q : Int)) ∧ ∀ q : Nat, q < j → isT T (rd rl (q : Int)) = true → fR R (rd rl (q : Int)).toNat = true)) (fun iv _ => rl.length - (intOf iv).toNat)
  case atStart => exact ⟨0, _, Nat.zero_le _, rfl, Hr0, Lib.hid ⟨fun q hq => by simp [fR, List.getD_eq_getElem?_getD, List.getElem?_replicate] at hq; split at hq <;> simp at hq, fun q hq => by omega⟩⟩
  case round =>
    obtain ⟨j, R, hj, rfl, HR, HI⟩ := hrel
    clear Hr0
    by_cases hlt : j < rl.length
    · obtain ⟨ad, rfl, hcell⟩ := (Hr.out.below HR.out.bel).at_ (j : Int) (by omega) (by omega)
      rw [Int.toNat_natCast] at hcell
      have p0 : (0 : Int) ≤ (j : Int) := by omega
      have p1 : (j : Int) < (rl.length : Int) := by omega
      obtain ⟨x, hx⟩ : ∃ x, x = rd rl (j : Int) := ⟨_, rfl⟩
      rw [← hx] at hcell
      have Hx := Lib.hid hx
      clear hx
      have his := His.out _ HR.out.bel x
      cases ht : isT T x
      · rw [ht] at his
        have Ht := Lib.hid ht
        clear ht
        go_wp2_with (go_at_call 35; refine his.mono ?_; rintro e w1 ⟨rfl, rfl⟩)
        go_roundw
        case rel =>
          refine ⟨j + 1, R, by omega, by go_num, HR, Lib.hid ⟨HI.out.1, fun q hq h1 => ?_⟩⟩
          by_cases e : q = j
          · subst e; rw [← Hx.out, Ht.out] at h1; cases h1
          · exact HI.out.2 q (by omega) h1
        case measure => simp [intOf]; omega
      · rw [ht] at his
        obtain ⟨m, rfl, hm⟩ := isT_ofNat ht
        have hmn : m < n := by rw [Hn.out, ← Hlen.out]; exact hm
        obtain ⟨hc1, hf1⟩ := HR.out.at_ m hmn
        have HS := Lib.hid (HR.out.set_ m)
        have Ht := Lib.hid ht
        have Hm := Lib.hid hm
        have p2 : (0 : Int) ≤ (m : Int) := by omega
        have p3 : (m : Int) < (n : Int) := by omega
        clear ht hm
        go_wp2_with (go_at_call 35; refine his.mono ?_; rintro e w1 ⟨rfl, rfl⟩)
        go_roundw
        case rel =>
          have hRl : R.length = T.length := by rw [HR.out.len, Hn.out, Hlen.out]
          have hmR : m < R.length := by rw [hRl]; exact Hm.out
          refine ⟨j + 1, _, by omega, by go_num, HS, Lib.hid ⟨root_set hRl HI.out.1 (by rw [Hx.out]; exact rd_mem rl j hlt) Ht.out Hm.out, fun q hq h1 => ?_⟩⟩
          by_cases e : q = j
          · subst e; rw [← Hx.out, Int.toNat_natCast]; exact fR_set_same R m hmR
          · exact fR_set_keep R m _ hmR (HI.out.2 q (by omega) h1)
        case measure => simp [intOf]; omega
    · have hRl : R.length = T.length := by rw [HR.out.len, Hn.out, Hlen.out]
      have hinv : RefInv T X rl R := ⟨hRl, HI.out.1, fun r hr ht => by
        obtain ⟨q, hq, e⟩ := List.getElem_of_mem hr
        have e2 : rd rl (q : Int) = r := by
          unfold rd
          rw [List.getD_eq_getElem?_getD, Int.toNat_natCast, List.getElem?_eq_getElem hq, e]; rfl
        have := HI.out.2 q (by omega) (by rw [e2]; exact ht)
        rwa [e2] at this⟩
      have HV := Lib.hid hinv
      clear hinv hRl HI
      go_wp2
      go_loopg [7] (2 * (T.length - cF (fR R) T.length) + 1) (fun k mv wq => ∃ (R1 : List Bool) (mb : Bool), mv = .bool mb ∧ Hid (RAt w wq g n R1) ∧ Hid (RefInv T X rl R1 ∧ (mb = false → ClosedTo T X R1 T.length 0)) ∧ Hid (2 * (T.length - cF (fR R1) T.length) + (if mb then 1 else 0) ≤ k))
      case atStart => exact ⟨R, true, rfl, HR, Lib.hid ⟨HV.out, fun e => (Bool.noConfusion e)⟩, Lib.hid (Nat.le_refl _)⟩
      case round =>
        obtain ⟨R1, mb, rfl, HR1, HV1, HK⟩ := hrel
        clear HR HV
        cases mb
        · have hfin := ref_end HV1.out.1 (by rw [HlenX.out, Hlen.out]) (HV1.out.2 rfl)
          have HF := Lib.hid hfin
          clear hfin
          go_wp2
          go_loopw [11, 12] (fun v iv wo => ∃ i : Nat, i ≤ n ∧ iv = .int .i64 i ∧ Hid (wo.ownsRow w.heap.size 3 1 v (takesTo R1 i).length (nums .i64 (takesTo R1 i))) ∧ Hid (RAt w wo g n R1)) (fun _ iv _ => n - (intOf iv).toNat)
          case atStart => exact ⟨0, Nat.zero_le _, rfl, Lib.hid (own_nil _ _ _ _), HR1⟩
          case round =>
            obtain ⟨i, hi, rfl, HO, HRo⟩ := hrel
            clear HR1
            by_cases hin : i < n
            · obtain ⟨hc1, hf1⟩ := HRo.out.at_ i hin
              have hs : takesTo R1 (i + 1) = takesTo R1 i ++ if R1.getD i false then [(i : Int)] else [] := rfl
              have hle := takesTo_le R1 i
              have p0 : (0 : Int) ≤ (i : Int) := by omega
              have p1 : (i : Int) < (n : Int) := by omega
              have hsg : fR R1 i = R1.getD i false := rfl
              rw [← hsg] at hs
              clear hsg
              cases hb : fR R1 i
              · rw [hb] at hs hc1
                rw [if_neg (by simp), List.append_nil] at hs
                have Hs := Lib.hid hs
                clear hs hb
                go_wp2
                go_roundw
                case rel => exact ⟨i + 1, by omega, by go_num, by rw [Hs.out]; exact HO, HRo⟩
                case measure => simp [intOf]; omega
              · rw [hb] at hs hc1
                rw [if_pos rfl] at hs
                have Hs := Lib.hid hs
                clear hs hb
                go_wp2_with (at_builtin; refine print_append_num (w0 := w) w.heap.size rfl (.tmp 97) (.tmp 99) 22 3 .i64 8 rfl Try.underlying22 info3 (by decide) _ _ _ rfl rfl HO.out HRo.out.bel HRo.out.bel.size (by omega) ?_; intro v1 w1 hown hb1 hg1 hat1; have HRn := Lib.hid (RAt.mk (own_other HRo.out.row hg1 (own_type_ne HRo.out.row HO.out (by decide))) hb1))
                go_roundw
                case rel => exact ⟨i + 1, by omega, by go_num, Lib.hid (by rw [Hs.out]; exact hown), HRn⟩
                case measure => simp [intOf]; omega
            · have hiH : i = T.length := by rw [Hlen.out, ← Hn.out]; omega
              have HiH := Lib.hid hiH
              have hz : ¬ (i : Int) < (n : Int) := by omega
              clear hiH
              go_wp2
              go_ret
              exact ⟨_, rfl, by rw [← HF.out, ← HiH.out]; exact HO.out, HRo.out.bel⟩
        · go_wp2
          go_loopw [7, 8] (fun mv iv wo => ∃ (i : Nat) (R2 : List Bool) (more : Bool), i ≤ n ∧ mv = .bool more ∧ iv = .int .i64 i ∧ Hid (RAt w wo g n R2) ∧ Hid (PassAt T X rl R1 R2 more i 0)) (fun _ iv _ => n - (intOf iv).toNat)
          case atStart => exact ⟨0, R1, false, Nat.zero_le _, rfl, rfl, HR1, Lib.hid (pass_begin HV1.out.1)⟩
          case round =>
            obtain ⟨i, R2, more, hi, rfl, rfl, HR2, HP⟩ := hrel
            clear HR1
            have hcC := pw_cell_below HR2.out.bel Hc.out
            by_cases hin : i < n
            · obtain ⟨hc1, hf1⟩ := HR2.out.at_ i hin
              have p0 : (0 : Int) ≤ (i : Int) := by omega
              have p1 : (i : Int) < (n : Int) := by omega
              cases hb : fR R2 i
              · rw [hb] at hc1
                have Hb := Lib.hid hb
                clear hb
                go_wp2
                go_roundw
                case rel => exact ⟨i + 1, R2, more, by omega, rfl, by go_num, HR2, Lib.hid (pass_skip HP.out Hb.out)⟩
                case measure => simp [intOf]; omega
              · rw [hb] at hc1
                have Hb := Lib.hid hb
                clear hb
                obtain ⟨gL, cL, hvL, hvM, _, hel⟩ := ref_elem H.out (i : Int) p0 (by have := Hn.out; omega)
                injection hvL with e1 e2 e3
                subst e1; subst e3
                obtain ⟨Ae, ce, hme, hce, hre, _⟩ := hel
                have hxs : rdOf [] X (i : Int) = X.getD i [] := by simp [rdOf]
                rw [hxs] at hre hme hce
                obtain ⟨xs, hxs2⟩ : ∃ xs, xs = X.getD i [] := ⟨_, rfl⟩
                rw [← hxs2] at hre hme hce
                rw [hme, Int.toNat_natCast] at hvM
                have Hxs := Lib.hid hxs2
                have Hre := Lib.hid hre
                have HvM := Lib.hid hvM
                have hxl := hre.2.1
                clear hxs hxs2 hre hme hvM
                have hcM := pw_cell_below HR2.out.bel HvM.out
                go_wp2
                go_loopw [7, 9] (fun mv kv wi => ∃ (k : Nat) (R3 : List Bool) (more3 : Bool), k ≤ xs.length ∧ mv = .bool more3 ∧ kv = .int .i64 k ∧ Hid (RAt w wi g n R3) ∧ Hid (PassAt T X rl R1 R3 more3 i k ∧ fR R3 i = true)) (fun _ kv _ => xs.length - (intOf kv).toNat)
                case atStart => exact ⟨0, R2, more, Nat.zero_le _, rfl, rfl, HR2, Lib.hid ⟨HP.out, Hb.out⟩⟩
                case round =>
                  obtain ⟨k, R3, more3, hk, rfl, rfl, HR3, HP3⟩ := hrel
                  clear HR2 HP Hb hcC hcM hc1 hf1
                  have hcC := pw_cell_below HR3.out.bel Hc.out
                  have hcM := pw_cell_below HR3.out.bel HvM.out
                  by_cases hkx : k < xs.length
                  · obtain ⟨ad, rfl, hcell⟩ := (Hre.out.below HR3.out.bel).at_ (k : Int) (by omega) (by omega)
                    rw [Int.toNat_natCast] at hcell
                    have p2 : (0 : Int) ≤ (k : Int) := by omega
                    have p3 : (k : Int) < (xs.length : Int) := by omega
                    obtain ⟨x, hx⟩ : ∃ x, x = rd xs (k : Int) := ⟨_, rfl⟩
                    rw [← hx] at hcell
                    rw [Hxs.out] at hx
                    have Hx := Lib.hid hx
                    clear hx
                    have his := His.out _ HR3.out.bel x
                    cases ht : isT T x
                    · rw [ht] at his
                      have Ht := Lib.hid ht
                      clear ht
                      go_wp2_with (go_at_call 35; refine his.mono ?_; rintro e w1 ⟨rfl, rfl⟩)
                      go_roundw
                      case rel => exact ⟨k + 1, R3, more3, by omega, rfl, by go_num, HR3, Lib.hid ⟨pass_old HP3.out.1 (fun e => by rw [← Hx.out, Ht.out] at e; cases e), HP3.out.2⟩⟩
                      case measure => simp [intOf]; omega
                    · rw [ht] at his
                      obtain ⟨m, rfl, hm⟩ := isT_ofNat ht
                      have hmn : m < n := by rw [Hn.out, ← Hlen.out]; exact hm
                      obtain ⟨hc1, hf1⟩ := HR3.out.at_ m hmn
                      have Ht := Lib.hid ht
                      have Hm := Lib.hid hm
                      have p4 : (0 : Int) ≤ (m : Int) := by omega
                      have p5 : (m : Int) < (n : Int) := by omega
                      clear ht hm
                      cases hb3 : fR R3 m
                      · rw [hb3] at hc1
                        have Hb3 := Lib.hid hb3
                        have HS := Lib.hid (HR3.out.set_ m)
                        clear hb3
                        go_wp2_with (go_at_call 35; refine his.mono ?_; rintro e w1 ⟨rfl, rfl⟩)
                        go_roundw
                        case rel =>
                          have hmR : m < R3.length := by rw [HR3.out.len]; exact hmn
                          exact ⟨k + 1, _, true, by omega, rfl, by go_num, HS, Lib.hid ⟨pass_set HP3.out.1 HP3.out.2 (by rw [← Hxs.out]; exact hkx) Hx.out.symm Ht.out Hb3.out Hm.out, fR_set_keep R3 m i hmR HP3.out.2⟩⟩
                        case measure => simp [intOf]; omega
                      · rw [hb3] at hc1
                        have Hb3 := Lib.hid hb3
                        clear hb3
                        go_wp2_with (go_at_call 35; refine his.mono ?_; rintro e w1 ⟨rfl, rfl⟩)
                        go_roundw
                        case rel => exact ⟨k + 1, R3, more3, by omega, rfl, by go_num, HR3, Lib.hid ⟨pass_old HP3.out.1 (fun e => by rw [← Hx.out, Int.toNat_natCast]; exact Hb3.out), HP3.out.2⟩⟩
                        case measure => simp [intOf]; omega
                  · have hkl : k = (X.getD i []).length := by rw [← Hxs.out]; omega
                    have Hkl := Lib.hid hkl
                    have hz : ¬ (k : Int) < (xs.length : Int) := by omega
                    clear hkl
                    go_wp2
                    go_roundw
                    case rel => exact ⟨i + 1, R3, more3, by omega, rfl, by go_num, HR3, Lib.hid (pass_next HP3.out.1 Hkl.out)⟩
                    case measure => simp [intOf]; omega
            · have hiT : i = T.length := by rw [Hlen.out, ← Hn.out]; omega
              have HiT := Lib.hid hiT
              have hz : ¬ (i : Int) < (n : Int) := by omega
              clear hiT
              go_wp2
              go_roundg (2 * (T.length - cF (fR R2) T.length) + (if more then 1 else 0))
              case measure =>
                have h1 := HK.out
                have h2 := cF_le (fR R2) T.length
                simp only [if_true] at h1
                cases hm : more
                · have := (HP.out.no hm).1
                  rw [this]
                  simp only [Bool.false_eq_true, if_false]; omega
                · have := HP.out.yes hm
                  simp only [if_true]; omega
              case rel => exact ⟨R2, more, rfl, HR2, Lib.hid ⟨HP.out.inv, fun e => by rw [← HiT.out]; exact (HP.out.no e).2⟩, Lib.hid (Nat.le_refl _)⟩
end Go.Proofs.Ytgchgkffoplogaa
