/- Whole numbers: Parse. -/
import Derived.Test.YtiofeehcnegejaaDoorTp
import Derived.Test.YtiofeehcnegejaaDoorWhZ
namespace Go.Proofs.YtiofeehcnegejaaDoor
open Go.RowKit Go.Proofs.YtiofeehcnegejaaDoorW.PrintWords
set_option linter.unusedVariables false
set_option linter.unusedSimpArgs false

theorem bt_eq {d : ByteArray} {k : Nat} (h : k < d.size) : bt d (k : Nat) = ((d[k]'h).toNat : Int) := by simp [bt, h]
/-- An answer that is a refusal, as it lies in the answer's box. -/
theorem refuse {w W : World} {d : ByteArray} {neg : Bool} (hb : Below w.heap.size w W) {er : Int} (h : (er = 4 ∧ BadD d neg) ∨ (er = 3 ∧ ¬ BadD d neg ∧ tooBig ≤ valD d d.size)) (W' : World) (hb' : Below w.heap.size w W') : ParsePost w d neg (.returned (.tuple #[.agg #[.bool false, .slice none 0 0], .int .i64 er])) W' := by
  refine ⟨false, none, 0, 0, er, rfl, hb', ?_⟩
  rcases h with ⟨rfl, h⟩ | ⟨rfl, h1, h2⟩
  · exact .inl ⟨rfl, rfl, rfl, rfl, rfl, h⟩
  · exact .inr ⟨h1, ansBig W' neg _ h2⟩
/-- At the head of the loop over the digits. -/
structure DecW (w : World) (d : ByteArray) (A : Option Addr) (c : Nat) (zs : List Int) (i : Nat) (wr : World) : Prop where
  own : wr.ownsRow w.heap.size 62 1 (.slice A zs.length c) zs.length (nums .u32 zs)
  bel : Below w.heap.size w wr
  box : wr.heap[w.heap.size]? = some (.cells #[.bool false, .slice none 0 0] 24 (0, 0))
  wd : Dv.Wd zs
  len : zs.length ≤ i
  val : Dv.valW zs = valD d i
structure DecJ (w : World) (A : Option Addr) (c : Nat) (z0 zs : List Int) (dg : Int) (j : Nat) (k : Int) (wr : World) : Prop where
  own : wr.ownsRow w.heap.size 62 1 (.slice A z0.length c) z0.length (nums .u32 zs)
  bel : Below w.heap.size w wr
  box : wr.heap[w.heap.size]? = some (.cells #[.bool false, .slice none 0 0] 24 (0, 0))
  dec : DecIn z0 zs dg j k

set_option maxRecDepth 100000 in
set_option maxHeartbeats 4000000 in
theorem Parse_any (s d : ByteArray) (neg : Bool) (w : World) (hsz : d.size ≤ 3000) (hcut : ∀ W, Calls Tryd.prog 47 #[.string s, .string ⟨#[45]⟩] W fun e w' => e = .returned (.tuple #[.string d, .bool neg]) ∧ w' = W)
    (hs : bt d 0 = 48 → 0 < d.size → (s.data.toList = [48] ↔ ¬ (neg = true ∨ 1 < d.size))) :
    Calls Tryd.prog 16 #[.string s] w (ParsePost w d neg) := by
  obtain ⟨W0, hW0⟩ : ∃ W0, W0 = w.alloc (.cells #[.bool false, .slice none 0 0] 24) := ⟨_, rfl⟩
  have hb0 : Below w.heap.size w W0 := by rw [hW0]; exact below_alloc (Below.refl _ _) _
  have hk0 : W0.heap[w.heap.size]? = some (.cells #[.bool false, .slice none 0 0] 24 (0, 0)) := by rw [hW0]; exact blk_new _ _
  have r0 := blk_cell hk0 0; have r1 := blk_cell hk0 1; have f0 := blk_frozen hk0 0; have f1 := blk_frozen hk0 1
  have Hcut := Lib.hid hcut; have HW0 := Lib.hid hW0; have HB0 := Lib.hid hb0; have HK0 := Lib.hid hk0; have Hs := Lib.hid hs
  have hbz : Below w.heap.size w ((W0.setCell ⟨w.heap.size, 0, none⟩ (.bool false)).setCell ⟨w.heap.size, 1, none⟩ (.slice none 0 0)) := (hb0.setCell (p := ⟨w.heap.size, 0, none⟩) (Nat.le_refl _) _).setCell (p := ⟨w.heap.size, 1, none⟩) (Nat.le_refl _) _
  have HBz := Lib.hid hbz
  clear hcut hW0 hb0 hk0 hs hbz
  go_enter Tryd.func16, Tryd.ntmps16
  go_upto_region 1 with (fail)
  rw [← HW0.out]
  go_wp2_with (go_at_call 47; refine (Hcut.out _).mono ?_; rintro e W1 ⟨rfl, rfl⟩)
  go_loop [19] (fun iv => ∃ k : Nat, k ≤ d.size ∧ iv = .int .i64 k ∧ Hid (DigB d k)) (fun iv => d.size - (intOf iv).toNat)
  case atStart => exact ⟨0, Nat.zero_le _, rfl, Lib.hid fun j hj => by omega⟩
  case round =>
    obtain ⟨k, hk, rfl, HD⟩ := hrel
    by_cases hlt : k < d.size
    · have hb := bt_eq hlt
      have Hb := Lib.hid hb; clear hb
      have p1 : (k : Int) < (d.size : Int) := by omega
      have u0 : (0 : Int) ≤ ((d[k]'hlt).toNat : Int) := by omega
      have u1 : ((d[k]'hlt).toNat : Int) ≤ 255 := by have := bt_range d (k : Nat); rw [Hb.out] at this; omega
      by_cases hd : 48 ≤ ((d[k]'hlt).toNat : Int) ∧ ((d[k]'hlt).toNat : Int) ≤ 57
      · obtain ⟨d0, d1⟩ := hd
        have q1 : decide (((d[k]'hlt).toNat : Int) < 48) = false := by simp; omega
        have q2 : decide (57 < ((d[k]'hlt).toNat : Int)) = false := by simp; omega
        have HD2 := Lib.hid (HD.out.succ (by rw [Hb.out]; exact d0) (by rw [Hb.out]; exact d1))
        go_wp2
        go_round
        case rel => exact ⟨k + 1, by omega, by go_num, HD2⟩
        case measure => simp [intOf]; omega
      · have hbad : BadD d neg := .inr (.inr fun h => by have := h k hlt; rw [Hb.out] at this; exact hd this)
        have Hbad := Lib.hid hbad
        clear hbad
        by_cases h48 : ((d[k]'hlt).toNat : Int) < 48
        · have q1 : decide (((d[k]'hlt).toNat : Int) < 48) = true := by simpa using h48
          go_wp2
          refine bodyPost_ret (results_ct rfl _ _ w.heap.size 24 #[.bool false, .slice none 0 0] (0, 0) _ rfl (blk_put (cs := #[.bool false, .slice none 0 0]) (blk_put (cs := #[.bool false, .slice none 0 0]) HK0.out 0 _ rfl) 1 _ rfl) Tryd.underlying24 rfl (by kernel_rfl)) rfl ?_
          exact refuse HB0.out (.inl ⟨rfl, Hbad.out⟩) _ HBz.out
        · have h57 : 57 < ((d[k]'hlt).toNat : Int) := by omega
          have q1 : decide (((d[k]'hlt).toNat : Int) < 48) = false := by simpa using h48
          have q2 : decide (57 < ((d[k]'hlt).toNat : Int)) = true := by simpa using h57
          go_wp2
          refine bodyPost_ret (results_ct rfl _ _ w.heap.size 24 #[.bool false, .slice none 0 0] (0, 0) _ rfl (blk_put (cs := #[.bool false, .slice none 0 0]) (blk_put (cs := #[.bool false, .slice none 0 0]) HK0.out 0 _ rfl) 1 _ rfl) Tryd.underlying24 rfl (by kernel_rfl)) rfl ?_
          exact refuse HB0.out (.inl ⟨rfl, Hbad.out⟩) _ HBz.out
    · have hkn : k = d.size := by omega
      have HDn := Lib.hid (show DigB d d.size by rw [← hkn]; exact HD.out)
      subst hkn
      clear HD hlt hk
      by_cases hz : d.size = 0
      · have e1 : d.toList = [] := by rw [ByteArray.toList_eq]; exact List.length_eq_zero_iff.1 (by simpa using hz)
        have e2 : d.toList.isEmpty = true := by rw [e1]; rfl
        have Hbad := Lib.hid (show BadD d neg from .inl hz)
        clear e1
        · go_wp2
          refine bodyPost_ret (results_ct rfl _ _ w.heap.size 24 #[.bool false, .slice none 0 0] (0, 0) _ rfl (blk_put (cs := #[.bool false, .slice none 0 0]) (blk_put (cs := #[.bool false, .slice none 0 0]) HK0.out 0 _ rfl) 1 _ rfl) Tryd.underlying24 rfl (by kernel_rfl)) rfl ?_
          exact refuse HB0.out (.inl ⟨rfl, Hbad.out⟩) _ HBz.out
      · have hp : 0 < d.size := by omega
        have e1 : ¬ d.toList = [] := fun e => hz (by have := congrArg List.length e; rw [ByteArray.toList_eq] at this; simpa using this)
        have e2 : d.toList.isEmpty = false := by rw [List.isEmpty_eq_false_iff]; exact e1
        have hb0 : bt d 0 = ((d[0]'hp).toNat : Int) := bt_eq (k := 0) hp
        have Hb0 := Lib.hid hb0; clear hb0
        by_cases hx : ((d[0]'hp).toNat : Int) = 48
        · by_cases hneg : neg = true ∨ 1 < d.size
          · have Hbad := Lib.hid (show BadD d neg from .inr (.inl ⟨by rw [Hb0.out]; exact hx, hneg⟩))
            have q1 : (s.toList == [48]) = false := by
              rw [Bool.eq_false_iff]
              intro h
              rw [beq_iff_eq, ByteArray.toList_eq] at h
              exact ((Hs.out (by rw [Hb0.out]; exact hx) hp).1 h) hneg
            clear hneg
            go_wp2
            refine bodyPost_ret (results_ct rfl _ _ w.heap.size 24 #[.bool false, .slice none 0 0] (0, 0) _ rfl (blk_put (cs := #[.bool false, .slice none 0 0]) (blk_put (cs := #[.bool false, .slice none 0 0]) HK0.out 0 _ rfl) 1 _ rfl) Tryd.underlying24 rfl (by kernel_rfl)) rfl ?_
            exact refuse HB0.out (.inl ⟨rfl, Hbad.out⟩) _ HBz.out
          · have q1 : (s.toList == [48]) = true := by rw [beq_iff_eq, ByteArray.toList_eq]; exact (Hs.out (by rw [Hb0.out]; exact hx) hp).2 hneg
            have Hgood := Lib.hid (show ¬ BadD d neg from fun h => by
              rcases h with h | h | h
              · exact hz h
              · exact hneg h.2
              · exact h HDn.out)
            have q2 : ¬ 2467 < (d.size : Int) := by omega
            have q3 : decide (2467 < (d.size : Int)) = false := by simpa using q2
            clear hneg hz
            go_wp2
            have Hst := Lib.hid (show DecW w d none 0 [] 0 W1 from ⟨own_nil _ _ _ _, HB0.out, HK0.out, (fun x hx => by cases hx), by simp, by simp [Dv.valW, valD_zero]⟩)
            clear r0 r1 f0 f1
            go_loopw [7, 54] (fun mv iv wr => ∃ (k c : Nat) (A : Option Addr) (zs : List Int), k ≤ d.size ∧ mv = .slice A zs.length c ∧ iv = .int .i64 k ∧ Hid (DecW w d A c zs k wr)) (fun _ iv _ => d.size - (intOf iv).toNat)
            case atStart => exact ⟨0, 0, none, [], Nat.zero_le _, rfl, rfl, Hst⟩
            case round =>
              obtain ⟨k, c, A, zs, hk, rfl, rfl, HW⟩ := hrel
              clear Hst
              obtain ⟨zl, hzl⟩ : ∃ zl, zl = zs.length := ⟨_, rfl⟩
              rw [← hzl]
              have Hzl := Lib.hid hzl
              clear hzl
              by_cases hlt : k < d.size
              · have hdg := HDn.out k hlt
                rw [bt_eq hlt] at hdg
                obtain ⟨u0, u1⟩ := hdg
                have hzk : zl ≤ k := by rw [Hzl.out]; exact HW.out.len
                have p1 : (k : Int) < (d.size : Int) := by omega
                have w1 : IntKind.u8.wrap (((d[k]'hlt).toNat : Int) - 48) = ((d[k]'hlt).toNat : Int) - 48 := by rw [IntKind.wrap_u8]; omega
                have hj0 := DecIn.start HW.out.wd (dg := ((d[k]'hlt).toNat : Int) - 48) (by omega) (by omega)
                have Hj0 := Lib.hid (show DecJ w A c zs zs (((d[k]'hlt).toNat : Int) - 48) 0 (((d[k]'hlt).toNat : Int) - 48) wr from ⟨HW.out.own, HW.out.bel, HW.out.box, hj0⟩)
                have hvd : valD d (k + 1) = valD d k * 10 + (((d[k]'hlt).toNat : Int) - 48) := by rw [valD_succ, bt_eq hlt]
                have Hvd := Lib.hid hvd
                clear hj0 hvd
                go_wp2
                go_loopw [9, 64] (fun kv jv wr => ∃ (j : Nat) (kk : Int) (zs' : List Int), j ≤ zl ∧ kv = .int .u64 kk ∧ jv = .int .i64 j ∧ Hid (DecJ w A c zs zs' (((d[k]'hlt).toNat : Int) - 48) j kk wr)) (fun _ jv _ => zl - (intOf jv).toNat)
                case atStart => exact ⟨0, _, zs, Nat.zero_le _, rfl, rfl, Hj0⟩
                case round =>
                  obtain ⟨j, kk, zs', hj, rfl, rfl, HJ⟩ := hrel
                  clear Hj0
                  have k0 := HJ.out.dec.k0
                  have k1 := HJ.out.dec.k1
                  by_cases hjl : j < zl
                  · have hown := HJ.out.own
                    rw [← Hzl.out] at hown
                    obtain ⟨g, c9, hv, hg1, _⟩ := hown.form (by omega)
                    injection hv with hv1 _ hv2
                    subst hv1
                    have hgb : g ≠ w.heap.size := fun e => by have := own_ne hown HJ.out.box (by decide); rw [e] at this; exact this rfl
                    have hzw := HW.out.wd.get (j : Int)
                    obtain ⟨hoc, hof⟩ := own_at hown (j : Int) (by omega) (by omega)
                    rw [Int.toNat_natCast, HJ.out.dec.same j (Nat.le_refl _)] at hoc
                    rw [Int.toNat_natCast] at hof
                    have hstep := HJ.out.dec.step HW.out.wd (by rw [← Hzl.out]; exact hjl) rfl
                    obtain ⟨x, hx⟩ : ∃ x, x = rd zs (j : Int) := ⟨_, rfl⟩
                    rw [← hx] at hzw hoc hstep
                    have hput : DecJ w (some ⟨g, 0, none⟩) c zs (zs'.set j ((kk + x * 10) % 4294967296)) (((d[k]'hlt).toNat : Int) - 48) (j + 1) ((kk + x * 10) / 4294967296) (wr.setCell ⟨g, j, none⟩ (.int .u32 ((kk + x * 10) % 4294967296))) := by
                      have h := (own_store hown (j : Int) ((kk + x * 10) % 4294967296)).1
                      rw [Int.toNat_natCast, Hzl.out] at h
                      exact ⟨h, HJ.out.bel.setCell (p := ⟨g, j, none⟩) hg1 _, blk_far HJ.out.box (fun e => hgb e.symm) _, hstep⟩
                    have Hput := Lib.hid hput
                    have p2 : (0 : Int) ≤ (j : Int) := by omega
                    have p3 : (j : Int) < (zl : Int) := by omega
                    obtain ⟨hz0, hz1⟩ := hzw
                    clear hstep hx hput hown hgb hg1
                    go_wp2
                    go_roundw
                    case rel => exact ⟨j + 1, _, _, by omega, rfl, by go_num, Hput⟩
                    case measure => simp [intOf]; omega
                  · have hjz : j = zl := by omega
                    subst hjz
                    have hlast := HJ.out.dec
                    rw [Hzl.out] at hlast
                    have hl2 := hlast.last
                    have hlen := HJ.out.dec.len
                    have hown := HJ.out.own
                    have hown' : wr.ownsRow w.heap.size 62 1 (.slice A j c) zs'.length (nums .u32 zs') := by rw [hlen, ← Hzl.out]; rw [← Hzl.out] at hown; exact hown
                    have hB := HJ.out.bel.size
                    have Hhzk := Lib.hid hzk
                    by_cases hkk : 0 < kk
                    · have q9 : decide (0 < kk) = true := by simpa using hkk
                      have happ : ∀ (v1 : Value) (W6 : World), W6.ownsRow w.heap.size 62 1 v1 (zs' ++ [kk]).length (nums .u32 (zs' ++ [kk])) → Below w.heap.size w W6 → wr.grownBy W6 (Value.slice A j c).ownBlock → ∃ c6 A6, v1 = .slice A6 (zs' ++ [kk]).length c6 ∧ Hid (DecW w d A6 c6 (zs' ++ [kk]) (k + 1) W6) := fun v1 W6 h1 h2 h3 => by
                        obtain ⟨A6, c6, rfl⟩ := own_slice h1
                        refine ⟨c6, A6, rfl, Lib.hid ⟨h1, h2, blk_grown HJ.out.box h3 (own_ne hown' HJ.out.box (by decide)), Wd_snoc HJ.out.dec.wd k0 (by omega), by rw [List.length_append, hlen]; simp; have := HW.out.len; omega, ?_⟩⟩
                        rw [Dv.valW_snoc, hl2, HW.out.val, Hvd.out]
                      have Happ := Lib.hid happ
                      have Hf := Lib.hid (show zs'.length ≤ 3000 by rw [hlen, ← Hzl.out]; omega)
                      clear hl2 hlast hlen happ hown hzk
                      go_wp2_with (at_builtin; refine print_append_num (w0 := w) w.heap.size rfl _ _ 22 62 .u32 4 rfl Tryd.underlying22 info62 (by decide) (.slice A j c) zs' kk rfl rfl hown' HJ.out.bel hB (by have := Hf.out; omega) ?_; intro v1 W6 h1 h2 h3 h4; obtain ⟨c6, A6, rfl, HW6⟩ := Happ.out v1 W6 h1 h2 h3; clear h1 h2 h3 h4)
                      go_roundw
                      case rel => exact ⟨k + 1, c6, A6, _, by omega, by simp, by go_num, HW6⟩
                      case measure => simp [intOf]; omega
                    · have q9 : decide (0 < kk) = false := by simpa using hkk
                      have hk0 : kk = 0 := by omega
                      subst hk0
                      have HW6 := Lib.hid (show DecW w d A c zs' (k + 1) wr from ⟨by rw [hlen]; exact hown, HJ.out.bel, HJ.out.box, HJ.out.dec.wd, by rw [hlen]; have := HW.out.len; omega, by rw [Hvd.out, ← HW.out.val, ← hl2]; simp⟩)
                      have hjl2 : j = zs'.length := by rw [hlen]; exact Hzl.out
                      have Hjl2 := Lib.hid hjl2
                      clear hl2 hlast hlen hown hown' hjl2 hzk
                      go_wp2
                      go_roundw
                      case rel => exact ⟨k + 1, c, A, zs', by omega, by rw [← Hjl2.out], by go_num, HW6⟩
                      case measure => simp [intOf]; omega
              · have hkn : k = d.size := by omega
                subst hkn
                have hrz : ReadsInt wr .u32 A zl zs := by rw [Hzl.out]; exact own_reads' HW.out.own
                have hle : zl ≤ c := by rw [Hzl.out]; exact own_le HW.out.own
                have hform := form_any neg A zl c zs wr hrz hle (by have := HW.out.len; have := Hzl.out; omega)
                have Hform := Lib.hid hform; have Hrz := Lib.hid hrz
                clear hrz hle hform hlt hk
                go_wp2_with (first | (go_at_call 48; have HN := HB5; with_reducible refine (fits_form neg A5 c5 zs W5 HW.out.wd (by have := HW.out.len; omega) Hle5.out Hr5.out).mono ?_; rintro e W6 ⟨s6, A6, n6, c6, er6, rfl, hans, hA6, hb6⟩; have HB6 := Lib.hid (below_then HB5.out HB5.out.size hb6); have HK6 := Lib.hid (blk_below HK5.out hb6); have r0 := blk_cell HK6.out 0; have r1 := blk_cell HK6.out 1; have fr0 := blk_frozen HK6.out 0; have fr1 := blk_frozen HK6.out 1; have Hans := Lib.hid (hans.sgn HW.out.val); clear hans hA6 hb6) | (go_at_call 46; with_reducible refine Hform.out.mono ?_; rintro e W5 ⟨A5, c5, rfl, hle5, hor5, hb5⟩; have HB5 := Lib.hid (below_then HW.out.bel HW.out.bel.size hb5); have HK5 := Lib.hid (blk_below HW.out.box hb5); have Hr5 := Lib.hid (form_reads (c' := c5) (by rw [← Hzl.out]; exact Hrz.out.below hb5) (hor5.imp id (fun h => ⟨h.1, h.2.1⟩))); have Hle5 := Lib.hid hle5; clear hle5 hor5 hb5))
                have k2 := blk_put (cs := #[.bool false, .slice none 0 0]) (cs' := #[.bool s6, .slice none 0 0]) HK6.out 0 (.bool s6) rfl
                refine bodyPost_ret (results_ct rfl _ _ w.heap.size 24 #[.bool s6, .slice A6 n6 c6] (0, 0) _ rfl (blk_put (cs := #[.bool s6, .slice none 0 0]) k2 1 _ rfl) Tryd.underlying24 rfl (by kernel_rfl)) rfl ?_
                exact ⟨s6, A6, n6, c6, er6, rfl, (HB6.out.setCell (p := ⟨w.heap.size, 0, none⟩) (Nat.le_refl _) _).setCell (p := ⟨w.heap.size, 1, none⟩) (Nat.le_refl _) _, .inr ⟨Hgood.out, (Hans.out.put HK6.out (no_words _ _ _ _) 0 (.bool s6)).put k2 (no_words _ _ _ _) 1 (.slice A6 n6 c6)⟩⟩
        · have qx : (((d[0]'hp).toNat : Int) == 48) = false := beq_eq_false_iff_ne.2 hx
          have Hgood := Lib.hid (show ¬ BadD d neg from fun h => by
            rcases h with h | h | h
            · exact hz h
            · exact hx (by rw [← Hb0.out]; exact h.1)
            · exact h HDn.out)
          have hx0 : bt d 0 ≠ 48 := by rw [Hb0.out]; exact hx
          by_cases hbg : 2467 < d.size
          · have q2 : 2467 < (d.size : Int) := by omega
            have q3 : decide (2467 < (d.size : Int)) = true := by simpa using q2
            have Hbig := Lib.hid (valD_big HDn.out hx0 hbg)
            clear hz hx0 hx
            go_wp2
            refine bodyPost_ret (results_ct rfl _ _ w.heap.size 24 #[.bool false, .slice none 0 0] (0, 0) _ rfl (blk_put (cs := #[.bool false, .slice none 0 0]) (blk_put (cs := #[.bool false, .slice none 0 0]) HK0.out 0 _ rfl) 1 _ rfl) Tryd.underlying24 rfl (by kernel_rfl)) rfl ?_
            exact refuse HB0.out (.inr ⟨rfl, Hgood.out, Hbig.out⟩) _ HBz.out
          · have q2 : ¬ 2467 < (d.size : Int) := by omega
            have q3 : decide (2467 < (d.size : Int)) = false := by simpa using q2
            clear hz hx0
            go_wp2
            have Hst := Lib.hid (show DecW w d none 0 [] 0 W1 from ⟨own_nil _ _ _ _, HB0.out, HK0.out, (fun x hx => by cases hx), by simp, by simp [Dv.valW, valD_zero]⟩)
            clear r0 r1 f0 f1
            go_loopw [7, 54] (fun mv iv wr => ∃ (k c : Nat) (A : Option Addr) (zs : List Int), k ≤ d.size ∧ mv = .slice A zs.length c ∧ iv = .int .i64 k ∧ Hid (DecW w d A c zs k wr)) (fun _ iv _ => d.size - (intOf iv).toNat)
            case atStart => exact ⟨0, 0, none, [], Nat.zero_le _, rfl, rfl, Hst⟩
            case round =>
              obtain ⟨k, c, A, zs, hk, rfl, rfl, HW⟩ := hrel
              clear Hst
              obtain ⟨zl, hzl⟩ : ∃ zl, zl = zs.length := ⟨_, rfl⟩
              rw [← hzl]
              have Hzl := Lib.hid hzl
              clear hzl
              by_cases hlt : k < d.size
              · have hdg := HDn.out k hlt
                rw [bt_eq hlt] at hdg
                obtain ⟨u0, u1⟩ := hdg
                have hzk : zl ≤ k := by rw [Hzl.out]; exact HW.out.len
                have p1 : (k : Int) < (d.size : Int) := by omega
                have w1 : IntKind.u8.wrap (((d[k]'hlt).toNat : Int) - 48) = ((d[k]'hlt).toNat : Int) - 48 := by rw [IntKind.wrap_u8]; omega
                have hj0 := DecIn.start HW.out.wd (dg := ((d[k]'hlt).toNat : Int) - 48) (by omega) (by omega)
                have Hj0 := Lib.hid (show DecJ w A c zs zs (((d[k]'hlt).toNat : Int) - 48) 0 (((d[k]'hlt).toNat : Int) - 48) wr from ⟨HW.out.own, HW.out.bel, HW.out.box, hj0⟩)
                have hvd : valD d (k + 1) = valD d k * 10 + (((d[k]'hlt).toNat : Int) - 48) := by rw [valD_succ, bt_eq hlt]
                have Hvd := Lib.hid hvd
                clear hj0 hvd
                go_wp2
                go_loopw [9, 64] (fun kv jv wr => ∃ (j : Nat) (kk : Int) (zs' : List Int), j ≤ zl ∧ kv = .int .u64 kk ∧ jv = .int .i64 j ∧ Hid (DecJ w A c zs zs' (((d[k]'hlt).toNat : Int) - 48) j kk wr)) (fun _ jv _ => zl - (intOf jv).toNat)
                case atStart => exact ⟨0, _, zs, Nat.zero_le _, rfl, rfl, Hj0⟩
                case round =>
                  obtain ⟨j, kk, zs', hj, rfl, rfl, HJ⟩ := hrel
                  clear Hj0
                  have k0 := HJ.out.dec.k0
                  have k1 := HJ.out.dec.k1
                  by_cases hjl : j < zl
                  · have hown := HJ.out.own
                    rw [← Hzl.out] at hown
                    obtain ⟨g, c9, hv, hg1, _⟩ := hown.form (by omega)
                    injection hv with hv1 _ hv2
                    subst hv1
                    have hgb : g ≠ w.heap.size := fun e => by have := own_ne hown HJ.out.box (by decide); rw [e] at this; exact this rfl
                    have hzw := HW.out.wd.get (j : Int)
                    obtain ⟨hoc, hof⟩ := own_at hown (j : Int) (by omega) (by omega)
                    rw [Int.toNat_natCast, HJ.out.dec.same j (Nat.le_refl _)] at hoc
                    rw [Int.toNat_natCast] at hof
                    have hstep := HJ.out.dec.step HW.out.wd (by rw [← Hzl.out]; exact hjl) rfl
                    obtain ⟨x, hx⟩ : ∃ x, x = rd zs (j : Int) := ⟨_, rfl⟩
                    rw [← hx] at hzw hoc hstep
                    have hput : DecJ w (some ⟨g, 0, none⟩) c zs (zs'.set j ((kk + x * 10) % 4294967296)) (((d[k]'hlt).toNat : Int) - 48) (j + 1) ((kk + x * 10) / 4294967296) (wr.setCell ⟨g, j, none⟩ (.int .u32 ((kk + x * 10) % 4294967296))) := by
                      have h := (own_store hown (j : Int) ((kk + x * 10) % 4294967296)).1
                      rw [Int.toNat_natCast, Hzl.out] at h
                      exact ⟨h, HJ.out.bel.setCell (p := ⟨g, j, none⟩) hg1 _, blk_far HJ.out.box (fun e => hgb e.symm) _, hstep⟩
                    have Hput := Lib.hid hput
                    have p2 : (0 : Int) ≤ (j : Int) := by omega
                    have p3 : (j : Int) < (zl : Int) := by omega
                    obtain ⟨hz0, hz1⟩ := hzw
                    clear hstep hx hput hown hgb hg1
                    go_wp2
                    go_roundw
                    case rel => exact ⟨j + 1, _, _, by omega, rfl, by go_num, Hput⟩
                    case measure => simp [intOf]; omega
                  · have hjz : j = zl := by omega
                    subst hjz
                    have hlast := HJ.out.dec
                    rw [Hzl.out] at hlast
                    have hl2 := hlast.last
                    have hlen := HJ.out.dec.len
                    have hown := HJ.out.own
                    have hown' : wr.ownsRow w.heap.size 62 1 (.slice A j c) zs'.length (nums .u32 zs') := by rw [hlen, ← Hzl.out]; rw [← Hzl.out] at hown; exact hown
                    have hB := HJ.out.bel.size
                    have Hhzk := Lib.hid hzk
                    by_cases hkk : 0 < kk
                    · have q9 : decide (0 < kk) = true := by simpa using hkk
                      have happ : ∀ (v1 : Value) (W6 : World), W6.ownsRow w.heap.size 62 1 v1 (zs' ++ [kk]).length (nums .u32 (zs' ++ [kk])) → Below w.heap.size w W6 → wr.grownBy W6 (Value.slice A j c).ownBlock → ∃ c6 A6, v1 = .slice A6 (zs' ++ [kk]).length c6 ∧ Hid (DecW w d A6 c6 (zs' ++ [kk]) (k + 1) W6) := fun v1 W6 h1 h2 h3 => by
                        obtain ⟨A6, c6, rfl⟩ := own_slice h1
                        refine ⟨c6, A6, rfl, Lib.hid ⟨h1, h2, blk_grown HJ.out.box h3 (own_ne hown' HJ.out.box (by decide)), Wd_snoc HJ.out.dec.wd k0 (by omega), by rw [List.length_append, hlen]; simp; have := HW.out.len; omega, ?_⟩⟩
                        rw [Dv.valW_snoc, hl2, HW.out.val, Hvd.out]
                      have Happ := Lib.hid happ
                      have Hf := Lib.hid (show zs'.length ≤ 3000 by rw [hlen, ← Hzl.out]; omega)
                      clear hl2 hlast hlen happ hown hzk
                      go_wp2_with (at_builtin; refine print_append_num (w0 := w) w.heap.size rfl _ _ 22 62 .u32 4 rfl Tryd.underlying22 info62 (by decide) (.slice A j c) zs' kk rfl rfl hown' HJ.out.bel hB (by have := Hf.out; omega) ?_; intro v1 W6 h1 h2 h3 h4; obtain ⟨c6, A6, rfl, HW6⟩ := Happ.out v1 W6 h1 h2 h3; clear h1 h2 h3 h4)
                      go_roundw
                      case rel => exact ⟨k + 1, c6, A6, _, by omega, by simp, by go_num, HW6⟩
                      case measure => simp [intOf]; omega
                    · have q9 : decide (0 < kk) = false := by simpa using hkk
                      have hk0 : kk = 0 := by omega
                      subst hk0
                      have HW6 := Lib.hid (show DecW w d A c zs' (k + 1) wr from ⟨by rw [hlen]; exact hown, HJ.out.bel, HJ.out.box, HJ.out.dec.wd, by rw [hlen]; have := HW.out.len; omega, by rw [Hvd.out, ← HW.out.val, ← hl2]; simp⟩)
                      have hjl2 : j = zs'.length := by rw [hlen]; exact Hzl.out
                      have Hjl2 := Lib.hid hjl2
                      clear hl2 hlast hlen hown hown' hjl2 hzk
                      go_wp2
                      go_roundw
                      case rel => exact ⟨k + 1, c, A, zs', by omega, by rw [← Hjl2.out], by go_num, HW6⟩
                      case measure => simp [intOf]; omega
              · have hkn : k = d.size := by omega
                subst hkn
                have hrz : ReadsInt wr .u32 A zl zs := by rw [Hzl.out]; exact own_reads' HW.out.own
                have hle : zl ≤ c := by rw [Hzl.out]; exact own_le HW.out.own
                have hform := form_any neg A zl c zs wr hrz hle (by have := HW.out.len; have := Hzl.out; omega)
                have Hform := Lib.hid hform; have Hrz := Lib.hid hrz
                clear hrz hle hform hlt hk
                go_wp2_with (first | (go_at_call 48; have HN := HB5; with_reducible refine (fits_form neg A5 c5 zs W5 HW.out.wd (by have := HW.out.len; omega) Hle5.out Hr5.out).mono ?_; rintro e W6 ⟨s6, A6, n6, c6, er6, rfl, hans, hA6, hb6⟩; have HB6 := Lib.hid (below_then HB5.out HB5.out.size hb6); have HK6 := Lib.hid (blk_below HK5.out hb6); have r0 := blk_cell HK6.out 0; have r1 := blk_cell HK6.out 1; have fr0 := blk_frozen HK6.out 0; have fr1 := blk_frozen HK6.out 1; have Hans := Lib.hid (hans.sgn HW.out.val); clear hans hA6 hb6) | (go_at_call 46; with_reducible refine Hform.out.mono ?_; rintro e W5 ⟨A5, c5, rfl, hle5, hor5, hb5⟩; have HB5 := Lib.hid (below_then HW.out.bel HW.out.bel.size hb5); have HK5 := Lib.hid (blk_below HW.out.box hb5); have Hr5 := Lib.hid (form_reads (c' := c5) (by rw [← Hzl.out]; exact Hrz.out.below hb5) (hor5.imp id (fun h => ⟨h.1, h.2.1⟩))); have Hle5 := Lib.hid hle5; clear hle5 hor5 hb5))
                have k2 := blk_put (cs := #[.bool false, .slice none 0 0]) (cs' := #[.bool s6, .slice none 0 0]) HK6.out 0 (.bool s6) rfl
                refine bodyPost_ret (results_ct rfl _ _ w.heap.size 24 #[.bool s6, .slice A6 n6 c6] (0, 0) _ rfl (blk_put (cs := #[.bool s6, .slice none 0 0]) k2 1 _ rfl) Tryd.underlying24 rfl (by kernel_rfl)) rfl ?_
                exact ⟨s6, A6, n6, c6, er6, rfl, (HB6.out.setCell (p := ⟨w.heap.size, 0, none⟩) (Nat.le_refl _) _).setCell (p := ⟨w.heap.size, 1, none⟩) (Nat.le_refl _) _, .inr ⟨Hgood.out, (Hans.out.put HK6.out (no_words _ _ _ _) 0 (.bool s6)).put k2 (no_words _ _ _ _) 1 (.slice A6 n6 c6)⟩⟩
end Go.Proofs.YtiofeehcnegejaaDoor
