/- The law WholeTells: any whole number is written right, and read back. -/
import Derived.Test.YtiofeehcnegejaaDoorTq
import Derived.Test.YtiofeehcnegejaaDoorWhU
import Derived.Test.YtiofeehcnegejaaDoorRdA
import Derived.Test.YtiofeehcnegejaaDoorRdC
import Derived.Test.YtiofeehcnegejaaDoorRgA
import Derived.Test.YtiofeehcnegejaaDoorRgB
import Derived.Test.YtiofeehcnegejaaDoorRtA
import Derived.Test.YtiofeehcnegejaaDoorRfG
namespace Go.Proofs.YtiofeehcnegejaaDoor
open Go.RowKit Go.Proofs.YtiofeehcnegejaaDoorW.PrintWords
set_option linter.unusedVariables false
set_option linter.unusedSimpArgs false

theorem toB_inj {xs ys : List Int} (hx : Byt xs) (hy : Byt ys) (h : toB xs = toB ys) : xs = ys := by
  have e : nums .u8 xs = nums .u8 ys := by rw [← byteCells_toB xs hx, ← byteCells_toB ys hy, h]
  exact List.map_inj_right (f := fun x => Value.int .u8 x) (fun x y h => by injection h) |>.1 e
/-- The digits of a size. -/
def digV (V : Int) : List Int := if V = 0 then [48] else decI V.natAbs
theorem textV_dig (V : Int) : textV V = (if V < 0 then [45] else []) ++ digV V := by
  unfold textV digV
  by_cases h : V = 0
  · subst h; rfl
  · rw [if_neg h, if_neg h]
theorem digV_digs (V : Int) : Digs (digV V) := by
  unfold digV
  split
  · intro d hd; simp at hd; omega
  · exact decI_digs _
theorem digV_ne (V : Int) : digV V ≠ [] := by
  unfold digV
  split
  · simp
  · intro e
    have h := decI_val V.natAbs
    rw [e] at h
    simp [horner] at h
    omega
theorem digV_val (V : Int) : horner (digV V) = V.natAbs := by
  unfold digV
  split
  · next h => subst h; rfl
  · exact decI_val _
theorem text_parts (V : Int) (s : ByteArray) (hs : s.data.toList = toB (textV V)) : negS s = decide (V < 0) ∧ sgD (restS s) (restS s).size = digV V := by
  have hsp := neg_split s
  have hn : negS s = decide (V < 0) ∧ (restS s).data.toList = toB (digV V) := by
    rw [hs, textV_dig] at hsp
    by_cases hv : V < 0
    · have hneg : negS s = true := by
        unfold negS Lib.hasPrefix
        rw [hs, textV_dig, if_pos hv]
        simp [toB, List.isPrefixOf]
      rw [hneg, if_pos hv] at hsp
      simp [toB] at hsp
      exact ⟨by rw [hneg]; simp [hv], by rw [← hsp]; rfl⟩
    · have hneg : negS s = false := by
        unfold negS Lib.hasPrefix
        rw [hs, textV_dig, if_neg hv]
        cases hd : digV V with
        | nil => rfl
        | cons d tl =>
          have h1 := digV_digs V d (by rw [hd]; simp)
          have : ((45 : UInt8) == UInt8.ofNat d.toNat) = false := by
            rw [beq_eq_false_iff_ne]
            intro e
            have := congrArg UInt8.toNat e
            rw [UInt8.toNat_ofNat'] at this
            have h45 : (45 : UInt8).toNat = 45 := rfl
            omega
          simp [toB, List.isPrefixOf, this]
      rw [hneg, if_neg hv] at hsp
      simp at hsp
      exact ⟨by rw [hneg]; simp [hv], hsp.symm⟩
  refine ⟨hn.1, toB_inj (fun d hd => ?_) (digV_digs V).byt ?_⟩
  · obtain ⟨j, hj, rfl⟩ := List.mem_map.1 hd
    have := bt_range (restS s) (j : Nat)
    omega
  · rw [rest_sgD, hn.2]
theorem text_back (V : Int) (s : ByteArray) (hs : s.data.toList = toB (textV V)) : ¬ BadD (restS s) (negS s) ∧ sgnI (negS s) (valD (restS s) (restS s).size) = V := by
  obtain ⟨h1, h2⟩ := text_parts V s hs
  have hlen : (sgD (restS s) (restS s).size).length = (restS s).size := by simp [sgD]
  have hpos : 0 < (restS s).size := by
    rcases Nat.eq_zero_or_pos (restS s).size with e | e
    · exfalso
      rw [h2, e] at hlen
      exact digV_ne V (List.length_eq_zero_iff.1 hlen)
    · exact e
  have hhead := sgD_head (restS s) (restS s).size hpos
  refine ⟨fun h => ?_, ?_⟩
  · rcases h with h | ⟨h48, h⟩ | h
    · omega
    · rw [h2, h48] at hhead
      unfold digV at hhead h2
      by_cases hv : V = 0
      · rw [if_pos hv] at h2
        rw [h2] at hlen
        rw [h1] at h
        subst hv
        simp at h hlen
        omega
      · rw [if_neg hv] at hhead
        exact decI_nolead _ hhead
    · apply h
      intro j hj
      exact digV_digs V _ (by rw [← h2]; exact List.mem_map.2 ⟨j, List.mem_range.2 hj, rfl⟩)
  · unfold valD
    rw [h2, digV_val, h1]
    unfold sgnI
    by_cases hv : V < 0 <;> simp [hv] <;> omega

set_option maxRecDepth 100000 in
set_option maxHeartbeats 4000000 in
theorem Parse_wide (s d : ByteArray) (neg : Bool) (w : World) (hsz : d.size ≤ 30000) (hcut : ∀ W, Calls Tryd.prog 47 #[.string s, .string ⟨#[45]⟩] W fun e w' => e = .returned (.tuple #[.string d, .bool neg]) ∧ w' = W)
    (hs : bt d 0 = 48 → 0 < d.size → (s.data.toList = [48] ↔ ¬ (neg = true ∨ 1 < d.size))) :
    Calls Tryd.prog 16 #[.string s] w (ParsePost w d neg) := by
  obtain ⟨W0, hW0⟩ : ∃ W0, W0 = w.alloc (.cells #[.bool false, .slice none 0 0] 24) := ⟨_, rfl⟩
  have hb0 : Below w.heap.size w W0 := by rw [hW0]; exact below_alloc (Below.refl _ _) _
  have hk0 : W0.heap[w.heap.size]? = some (.cells #[.bool false, .slice none 0 0] 24 (0, 0)) := by rw [hW0]; exact blk_new _ _
  have r0 := blk_cell hk0 0; have r1 := blk_cell hk0 1; have f0 := blk_frozen hk0 0; have f1 := blk_frozen hk0 1
  have Hcut := Lib.hid hcut; have HW0 := Lib.hid hW0; have HB0 := Lib.hid hb0; have HK0 := Lib.hid hk0; have Hs := Lib.hid hs
  have hbz : Below w.heap.size w ((W0.setCell ⟨w.heap.size, 0, none⟩ (.bool false)).setCell ⟨w.heap.size, 1, none⟩ (.slice none 0 0)) := (hb0.setCell (p := ⟨w.heap.size, 0, none⟩) (Nat.le_refl _) _).setCell (p := ⟨w.heap.size, 1, none⟩) (Nat.le_refl _) _
  have HBz := Lib.hid hbz
  clear hcut hW0 hb0 hk0 hs hbz
  go_enter Tryd.func16, Tryd.ntmps16
  go_upto_region 1 with (fail)
  rw [← HW0.out]
  go_wp2_with (go_at_call 47; refine (Hcut.out _).mono ?_; rintro e W1 ⟨rfl, rfl⟩)
  go_loop [19] (fun iv => ∃ k : Nat, k ≤ d.size ∧ iv = .int .i64 k ∧ Hid (DigB d k)) (fun iv => d.size - (intOf iv).toNat)
  case atStart => exact ⟨0, Nat.zero_le _, rfl, Lib.hid fun j hj => by omega⟩
  case round =>
    obtain ⟨k, hk, rfl, HD⟩ := hrel
    by_cases hlt : k < d.size
    · have hb := bt_eq hlt
      have Hb := Lib.hid hb; clear hb
      have p1 : (k : Int) < (d.size : Int) := by omega
      have u0 : (0 : Int) ≤ ((d[k]'hlt).toNat : Int) := by omega
      have u1 : ((d[k]'hlt).toNat : Int) ≤ 255 := by have := bt_range d (k : Nat); rw [Hb.out] at this; omega
      by_cases hd : 48 ≤ ((d[k]'hlt).toNat : Int) ∧ ((d[k]'hlt).toNat : Int) ≤ 57
      · obtain ⟨d0, d1⟩ := hd
        have q1 : decide (((d[k]'hlt).toNat : Int) < 48) = false := by simp; omega
        have q2 : decide (57 < ((d[k]'hlt).toNat : Int)) = false := by simp; omega
        have HD2 := Lib.hid (HD.out.succ (by rw [Hb.out]; exact d0) (by rw [Hb.out]; exact d1))
        go_wp2
        go_round
        case rel => exact ⟨k + 1, by omega, by go_num, HD2⟩
        case measure => simp [intOf]; omega
      · have hbad : BadD d neg := .inr (.inr fun h => by have := h k hlt; rw [Hb.out] at this; exact hd this)
        have Hbad := Lib.hid hbad
        clear hbad
        by_cases h48 : ((d[k]'hlt).toNat : Int) < 48
        · have q1 : decide (((d[k]'hlt).toNat : Int) < 48) = true := by simpa using h48
          go_wp2
          refine bodyPost_ret (results_ct rfl _ _ w.heap.size 24 #[.bool false, .slice none 0 0] (0, 0) _ rfl (blk_put (cs := #[.bool false, .slice none 0 0]) (blk_put (cs := #[.bool false, .slice none 0 0]) HK0.out 0 _ rfl) 1 _ rfl) Tryd.underlying24 rfl (by kernel_rfl)) rfl ?_
          exact refuse HB0.out (.inl ⟨rfl, Hbad.out⟩) _ HBz.out
        · have h57 : 57 < ((d[k]'hlt).toNat : Int) := by omega
          have q1 : decide (((d[k]'hlt).toNat : Int) < 48) = false := by simpa using h48
          have q2 : decide (57 < ((d[k]'hlt).toNat : Int)) = true := by simpa using h57
          go_wp2
          refine bodyPost_ret (results_ct rfl _ _ w.heap.size 24 #[.bool false, .slice none 0 0] (0, 0) _ rfl (blk_put (cs := #[.bool false, .slice none 0 0]) (blk_put (cs := #[.bool false, .slice none 0 0]) HK0.out 0 _ rfl) 1 _ rfl) Tryd.underlying24 rfl (by kernel_rfl)) rfl ?_
          exact refuse HB0.out (.inl ⟨rfl, Hbad.out⟩) _ HBz.out
    · have hkn : k = d.size := by omega
      have HDn := Lib.hid (show DigB d d.size by rw [← hkn]; exact HD.out)
      subst hkn
      clear HD hlt hk
      by_cases hz : d.size = 0
      · have e1 : d.toList = [] := by rw [ByteArray.toList_eq]; exact List.length_eq_zero_iff.1 (by simpa using hz)
        have e2 : d.toList.isEmpty = true := by rw [e1]; rfl
        have Hbad := Lib.hid (show BadD d neg from .inl hz)
        clear e1
        · go_wp2
          refine bodyPost_ret (results_ct rfl _ _ w.heap.size 24 #[.bool false, .slice none 0 0] (0, 0) _ rfl (blk_put (cs := #[.bool false, .slice none 0 0]) (blk_put (cs := #[.bool false, .slice none 0 0]) HK0.out 0 _ rfl) 1 _ rfl) Tryd.underlying24 rfl (by kernel_rfl)) rfl ?_
          exact refuse HB0.out (.inl ⟨rfl, Hbad.out⟩) _ HBz.out
      · have hp : 0 < d.size := by omega
        have e1 : ¬ d.toList = [] := fun e => hz (by have := congrArg List.length e; rw [ByteArray.toList_eq] at this; simpa using this)
        have e2 : d.toList.isEmpty = false := by rw [List.isEmpty_eq_false_iff]; exact e1
        have hb0 : bt d 0 = ((d[0]'hp).toNat : Int) := bt_eq (k := 0) hp
        have Hb0 := Lib.hid hb0; clear hb0
        by_cases hx : ((d[0]'hp).toNat : Int) = 48
        · by_cases hneg : neg = true ∨ 1 < d.size
          · have Hbad := Lib.hid (show BadD d neg from .inr (.inl ⟨by rw [Hb0.out]; exact hx, hneg⟩))
            have q1 : (s.toList == [48]) = false := by
              rw [Bool.eq_false_iff]
              intro h
              rw [beq_iff_eq, ByteArray.toList_eq] at h
              exact ((Hs.out (by rw [Hb0.out]; exact hx) hp).1 h) hneg
            clear hneg
            go_wp2
            refine bodyPost_ret (results_ct rfl _ _ w.heap.size 24 #[.bool false, .slice none 0 0] (0, 0) _ rfl (blk_put (cs := #[.bool false, .slice none 0 0]) (blk_put (cs := #[.bool false, .slice none 0 0]) HK0.out 0 _ rfl) 1 _ rfl) Tryd.underlying24 rfl (by kernel_rfl)) rfl ?_
            exact refuse HB0.out (.inl ⟨rfl, Hbad.out⟩) _ HBz.out
          · have q1 : (s.toList == [48]) = true := by rw [beq_iff_eq, ByteArray.toList_eq]; exact (Hs.out (by rw [Hb0.out]; exact hx) hp).2 hneg
            have Hgood := Lib.hid (show ¬ BadD d neg from fun h => by
              rcases h with h | h | h
              · exact hz h
              · exact hneg h.2
              · exact h HDn.out)
            have q2 : ¬ 2467 < (d.size : Int) := by omega
            have q3 : decide (2467 < (d.size : Int)) = false := by simpa using q2
            clear hneg hz
            go_wp2
            have Hst := Lib.hid (show DecW w d none 0 [] 0 W1 from ⟨own_nil _ _ _ _, HB0.out, HK0.out, (fun x hx => by cases hx), by simp, by simp [Dv.valW, valD_zero]⟩)
            clear r0 r1 f0 f1
            go_loopw [7, 54] (fun mv iv wr => ∃ (k c : Nat) (A : Option Addr) (zs : List Int), k ≤ d.size ∧ mv = .slice A zs.length c ∧ iv = .int .i64 k ∧ Hid (DecW w d A c zs k wr)) (fun _ iv _ => d.size - (intOf iv).toNat)
            case atStart => exact ⟨0, 0, none, [], Nat.zero_le _, rfl, rfl, Hst⟩
            case round =>
              obtain ⟨k, c, A, zs, hk, rfl, rfl, HW⟩ := hrel
              clear Hst
              obtain ⟨zl, hzl⟩ : ∃ zl, zl = zs.length := ⟨_, rfl⟩
              rw [← hzl]
              have Hzl := Lib.hid hzl
              clear hzl
              by_cases hlt : k < d.size
              · have hdg := HDn.out k hlt
                rw [bt_eq hlt] at hdg
                obtain ⟨u0, u1⟩ := hdg
                have hzk : zl ≤ k := by rw [Hzl.out]; exact HW.out.len
                have p1 : (k : Int) < (d.size : Int) := by omega
                have w1 : IntKind.u8.wrap (((d[k]'hlt).toNat : Int) - 48) = ((d[k]'hlt).toNat : Int) - 48 := by rw [IntKind.wrap_u8]; omega
                have hj0 := DecIn.start HW.out.wd (dg := ((d[k]'hlt).toNat : Int) - 48) (by omega) (by omega)
                have Hj0 := Lib.hid (show DecJ w A c zs zs (((d[k]'hlt).toNat : Int) - 48) 0 (((d[k]'hlt).toNat : Int) - 48) wr from ⟨HW.out.own, HW.out.bel, HW.out.box, hj0⟩)
                have hvd : valD d (k + 1) = valD d k * 10 + (((d[k]'hlt).toNat : Int) - 48) := by rw [valD_succ, bt_eq hlt]
                have Hvd := Lib.hid hvd
                clear hj0 hvd
                go_wp2
                go_loopw [9, 64] (fun kv jv wr => ∃ (j : Nat) (kk : Int) (zs' : List Int), j ≤ zl ∧ kv = .int .u64 kk ∧ jv = .int .i64 j ∧ Hid (DecJ w A c zs zs' (((d[k]'hlt).toNat : Int) - 48) j kk wr)) (fun _ jv _ => zl - (intOf jv).toNat)
                case atStart => exact ⟨0, _, zs, Nat.zero_le _, rfl, rfl, Hj0⟩
                case round =>
                  obtain ⟨j, kk, zs', hj, rfl, rfl, HJ⟩ := hrel
                  clear Hj0
                  have k0 := HJ.out.dec.k0
                  have k1 := HJ.out.dec.k1
                  by_cases hjl : j < zl
                  · have hown := HJ.out.own
                    rw [← Hzl.out] at hown
                    obtain ⟨g, c9, hv, hg1, _⟩ := hown.form (by omega)
                    injection hv with hv1 _ hv2
                    subst hv1
                    have hgb : g ≠ w.heap.size := fun e => by have := own_ne hown HJ.out.box (by decide); rw [e] at this; exact this rfl
                    have hzw := HW.out.wd.get (j : Int)
                    obtain ⟨hoc, hof⟩ := own_at hown (j : Int) (by omega) (by omega)
                    rw [Int.toNat_natCast, HJ.out.dec.same j (Nat.le_refl _)] at hoc
                    rw [Int.toNat_natCast] at hof
                    have hstep := HJ.out.dec.step HW.out.wd (by rw [← Hzl.out]; exact hjl) rfl
                    obtain ⟨x, hx⟩ : ∃ x, x = rd zs (j : Int) := ⟨_, rfl⟩
                    rw [← hx] at hzw hoc hstep
                    have hput : DecJ w (some ⟨g, 0, none⟩) c zs (zs'.set j ((kk + x * 10) % 4294967296)) (((d[k]'hlt).toNat : Int) - 48) (j + 1) ((kk + x * 10) / 4294967296) (wr.setCell ⟨g, j, none⟩ (.int .u32 ((kk + x * 10) % 4294967296))) := by
                      have h := (own_store hown (j : Int) ((kk + x * 10) % 4294967296)).1
                      rw [Int.toNat_natCast, Hzl.out] at h
                      exact ⟨h, HJ.out.bel.setCell (p := ⟨g, j, none⟩) hg1 _, blk_far HJ.out.box (fun e => hgb e.symm) _, hstep⟩
                    have Hput := Lib.hid hput
                    have p2 : (0 : Int) ≤ (j : Int) := by omega
                    have p3 : (j : Int) < (zl : Int) := by omega
                    obtain ⟨hz0, hz1⟩ := hzw
                    clear hstep hx hput hown hgb hg1
                    go_wp2
                    go_roundw
                    case rel => exact ⟨j + 1, _, _, by omega, rfl, by go_num, Hput⟩
                    case measure => simp [intOf]; omega
                  · have hjz : j = zl := by omega
                    subst hjz
                    have hlast := HJ.out.dec
                    rw [Hzl.out] at hlast
                    have hl2 := hlast.last
                    have hlen := HJ.out.dec.len
                    have hown := HJ.out.own
                    have hown' : wr.ownsRow w.heap.size 62 1 (.slice A j c) zs'.length (nums .u32 zs') := by rw [hlen, ← Hzl.out]; rw [← Hzl.out] at hown; exact hown
                    have hB := HJ.out.bel.size
                    have Hhzk := Lib.hid hzk
                    by_cases hkk : 0 < kk
                    · have q9 : decide (0 < kk) = true := by simpa using hkk
                      have happ : ∀ (v1 : Value) (W6 : World), W6.ownsRow w.heap.size 62 1 v1 (zs' ++ [kk]).length (nums .u32 (zs' ++ [kk])) → Below w.heap.size w W6 → wr.grownBy W6 (Value.slice A j c).ownBlock → ∃ c6 A6, v1 = .slice A6 (zs' ++ [kk]).length c6 ∧ Hid (DecW w d A6 c6 (zs' ++ [kk]) (k + 1) W6) := fun v1 W6 h1 h2 h3 => by
                        obtain ⟨A6, c6, rfl⟩ := own_slice h1
                        refine ⟨c6, A6, rfl, Lib.hid ⟨h1, h2, blk_grown HJ.out.box h3 (own_ne hown' HJ.out.box (by decide)), Wd_snoc HJ.out.dec.wd k0 (by omega), by rw [List.length_append, hlen]; simp; have := HW.out.len; omega, ?_⟩⟩
                        rw [Dv.valW_snoc, hl2, HW.out.val, Hvd.out]
                      have Happ := Lib.hid happ
                      have Hf := Lib.hid (show zs'.length ≤ 3000 by rw [hlen, ← Hzl.out]; omega)
                      clear hl2 hlast hlen happ hown hzk
                      go_wp2_with (at_builtin; refine print_append_num (w0 := w) w.heap.size rfl _ _ 22 62 .u32 4 rfl Tryd.underlying22 info62 (by decide) (.slice A j c) zs' kk rfl rfl hown' HJ.out.bel hB (by have := Hf.out; omega) ?_; intro v1 W6 h1 h2 h3 h4; obtain ⟨c6, A6, rfl, HW6⟩ := Happ.out v1 W6 h1 h2 h3; clear h1 h2 h3 h4)
                      go_roundw
                      case rel => exact ⟨k + 1, c6, A6, _, by omega, by simp, by go_num, HW6⟩
                      case measure => simp [intOf]; omega
                    · have q9 : decide (0 < kk) = false := by simpa using hkk
                      have hk0 : kk = 0 := by omega
                      subst hk0
                      have HW6 := Lib.hid (show DecW w d A c zs' (k + 1) wr from ⟨by rw [hlen]; exact hown, HJ.out.bel, HJ.out.box, HJ.out.dec.wd, by rw [hlen]; have := HW.out.len; omega, by rw [Hvd.out, ← HW.out.val, ← hl2]; simp⟩)
                      have hjl2 : j = zs'.length := by rw [hlen]; exact Hzl.out
                      have Hjl2 := Lib.hid hjl2
                      clear hl2 hlast hlen hown hown' hjl2 hzk
                      go_wp2
                      go_roundw
                      case rel => exact ⟨k + 1, c, A, zs', by omega, by rw [← Hjl2.out], by go_num, HW6⟩
                      case measure => simp [intOf]; omega
              · have hkn : k = d.size := by omega
                subst hkn
                have hrz : ReadsInt wr .u32 A zl zs := by rw [Hzl.out]; exact own_reads' HW.out.own
                have hle : zl ≤ c := by rw [Hzl.out]; exact own_le HW.out.own
                have hform := form_any neg A zl c zs wr hrz hle (by have := HW.out.len; have := Hzl.out; omega)
                have Hform := Lib.hid hform; have Hrz := Lib.hid hrz
                clear hrz hle hform hlt hk
                go_wp2_with (first | (go_at_call 48; have HN := HB5; with_reducible refine (fits_form neg A5 c5 zs W5 HW.out.wd (by have := HW.out.len; omega) Hle5.out Hr5.out).mono ?_; rintro e W6 ⟨s6, A6, n6, c6, er6, rfl, hans, hA6, hb6⟩; have HB6 := Lib.hid (below_then HB5.out HB5.out.size hb6); have HK6 := Lib.hid (blk_below HK5.out hb6); have r0 := blk_cell HK6.out 0; have r1 := blk_cell HK6.out 1; have fr0 := blk_frozen HK6.out 0; have fr1 := blk_frozen HK6.out 1; have Hans := Lib.hid (hans.sgn HW.out.val); clear hans hA6 hb6) | (go_at_call 46; with_reducible refine Hform.out.mono ?_; rintro e W5 ⟨A5, c5, rfl, hle5, hor5, hb5⟩; have HB5 := Lib.hid (below_then HW.out.bel HW.out.bel.size hb5); have HK5 := Lib.hid (blk_below HW.out.box hb5); have Hr5 := Lib.hid (form_reads (c' := c5) (by rw [← Hzl.out]; exact Hrz.out.below hb5) (hor5.imp id (fun h => ⟨h.1, h.2.1⟩))); have Hle5 := Lib.hid hle5; clear hle5 hor5 hb5))
                have k2 := blk_put (cs := #[.bool false, .slice none 0 0]) (cs' := #[.bool s6, .slice none 0 0]) HK6.out 0 (.bool s6) rfl
                refine bodyPost_ret (results_ct rfl _ _ w.heap.size 24 #[.bool s6, .slice A6 n6 c6] (0, 0) _ rfl (blk_put (cs := #[.bool s6, .slice none 0 0]) k2 1 _ rfl) Tryd.underlying24 rfl (by kernel_rfl)) rfl ?_
                exact ⟨s6, A6, n6, c6, er6, rfl, (HB6.out.setCell (p := ⟨w.heap.size, 0, none⟩) (Nat.le_refl _) _).setCell (p := ⟨w.heap.size, 1, none⟩) (Nat.le_refl _) _, .inr ⟨Hgood.out, (Hans.out.put HK6.out (no_words _ _ _ _) 0 (.bool s6)).put k2 (no_words _ _ _ _) 1 (.slice A6 n6 c6)⟩⟩
        · have qx : (((d[0]'hp).toNat : Int) == 48) = false := beq_eq_false_iff_ne.2 hx
          have Hgood := Lib.hid (show ¬ BadD d neg from fun h => by
            rcases h with h | h | h
            · exact hz h
            · exact hx (by rw [← Hb0.out]; exact h.1)
            · exact h HDn.out)
          have hx0 : bt d 0 ≠ 48 := by rw [Hb0.out]; exact hx
          by_cases hbg : 2467 < d.size
          · have q2 : 2467 < (d.size : Int) := by omega
            have q3 : decide (2467 < (d.size : Int)) = true := by simpa using q2
            have Hbig := Lib.hid (valD_big HDn.out hx0 hbg)
            clear hz hx0 hx
            go_wp2
            refine bodyPost_ret (results_ct rfl _ _ w.heap.size 24 #[.bool false, .slice none 0 0] (0, 0) _ rfl (blk_put (cs := #[.bool false, .slice none 0 0]) (blk_put (cs := #[.bool false, .slice none 0 0]) HK0.out 0 _ rfl) 1 _ rfl) Tryd.underlying24 rfl (by kernel_rfl)) rfl ?_
            exact refuse HB0.out (.inr ⟨rfl, Hgood.out, Hbig.out⟩) _ HBz.out
          · have q2 : ¬ 2467 < (d.size : Int) := by omega
            have q3 : decide (2467 < (d.size : Int)) = false := by simpa using q2
            clear hz hx0
            go_wp2
            have Hst := Lib.hid (show DecW w d none 0 [] 0 W1 from ⟨own_nil _ _ _ _, HB0.out, HK0.out, (fun x hx => by cases hx), by simp, by simp [Dv.valW, valD_zero]⟩)
            clear r0 r1 f0 f1
            go_loopw [7, 54] (fun mv iv wr => ∃ (k c : Nat) (A : Option Addr) (zs : List Int), k ≤ d.size ∧ mv = .slice A zs.length c ∧ iv = .int .i64 k ∧ Hid (DecW w d A c zs k wr)) (fun _ iv _ => d.size - (intOf iv).toNat)
            case atStart => exact ⟨0, 0, none, [], Nat.zero_le _, rfl, rfl, Hst⟩
            case round =>
              obtain ⟨k, c, A, zs, hk, rfl, rfl, HW⟩ := hrel
              clear Hst
              obtain ⟨zl, hzl⟩ : ∃ zl, zl = zs.length := ⟨_, rfl⟩
              rw [← hzl]
              have Hzl := Lib.hid hzl
              clear hzl
              by_cases hlt : k < d.size
              · have hdg := HDn.out k hlt
                rw [bt_eq hlt] at hdg
                obtain ⟨u0, u1⟩ := hdg
                have hzk : zl ≤ k := by rw [Hzl.out]; exact HW.out.len
                have p1 : (k : Int) < (d.size : Int) := by omega
                have w1 : IntKind.u8.wrap (((d[k]'hlt).toNat : Int) - 48) = ((d[k]'hlt).toNat : Int) - 48 := by rw [IntKind.wrap_u8]; omega
                have hj0 := DecIn.start HW.out.wd (dg := ((d[k]'hlt).toNat : Int) - 48) (by omega) (by omega)
                have Hj0 := Lib.hid (show DecJ w A c zs zs (((d[k]'hlt).toNat : Int) - 48) 0 (((d[k]'hlt).toNat : Int) - 48) wr from ⟨HW.out.own, HW.out.bel, HW.out.box, hj0⟩)
                have hvd : valD d (k + 1) = valD d k * 10 + (((d[k]'hlt).toNat : Int) - 48) := by rw [valD_succ, bt_eq hlt]
                have Hvd := Lib.hid hvd
                clear hj0 hvd
                go_wp2
                go_loopw [9, 64] (fun kv jv wr => ∃ (j : Nat) (kk : Int) (zs' : List Int), j ≤ zl ∧ kv = .int .u64 kk ∧ jv = .int .i64 j ∧ Hid (DecJ w A c zs zs' (((d[k]'hlt).toNat : Int) - 48) j kk wr)) (fun _ jv _ => zl - (intOf jv).toNat)
                case atStart => exact ⟨0, _, zs, Nat.zero_le _, rfl, rfl, Hj0⟩
                case round =>
                  obtain ⟨j, kk, zs', hj, rfl, rfl, HJ⟩ := hrel
                  clear Hj0
                  have k0 := HJ.out.dec.k0
                  have k1 := HJ.out.dec.k1
                  by_cases hjl : j < zl
                  · have hown := HJ.out.own
                    rw [← Hzl.out] at hown
                    obtain ⟨g, c9, hv, hg1, _⟩ := hown.form (by omega)
                    injection hv with hv1 _ hv2
                    subst hv1
                    have hgb : g ≠ w.heap.size := fun e => by have := own_ne hown HJ.out.box (by decide); rw [e] at this; exact this rfl
                    have hzw := HW.out.wd.get (j : Int)
                    obtain ⟨hoc, hof⟩ := own_at hown (j : Int) (by omega) (by omega)
                    rw [Int.toNat_natCast, HJ.out.dec.same j (Nat.le_refl _)] at hoc
                    rw [Int.toNat_natCast] at hof
                    have hstep := HJ.out.dec.step HW.out.wd (by rw [← Hzl.out]; exact hjl) rfl
                    obtain ⟨x, hx⟩ : ∃ x, x = rd zs (j : Int) := ⟨_, rfl⟩
                    rw [← hx] at hzw hoc hstep
                    have hput : DecJ w (some ⟨g, 0, none⟩) c zs (zs'.set j ((kk + x * 10) % 4294967296)) (((d[k]'hlt).toNat : Int) - 48) (j + 1) ((kk + x * 10) / 4294967296) (wr.setCell ⟨g, j, none⟩ (.int .u32 ((kk + x * 10) % 4294967296))) := by
                      have h := (own_store hown (j : Int) ((kk + x * 10) % 4294967296)).1
                      rw [Int.toNat_natCast, Hzl.out] at h
                      exact ⟨h, HJ.out.bel.setCell (p := ⟨g, j, none⟩) hg1 _, blk_far HJ.out.box (fun e => hgb e.symm) _, hstep⟩
                    have Hput := Lib.hid hput
                    have p2 : (0 : Int) ≤ (j : Int) := by omega
                    have p3 : (j : Int) < (zl : Int) := by omega
                    obtain ⟨hz0, hz1⟩ := hzw
                    clear hstep hx hput hown hgb hg1
                    go_wp2
                    go_roundw
                    case rel => exact ⟨j + 1, _, _, by omega, rfl, by go_num, Hput⟩
                    case measure => simp [intOf]; omega
                  · have hjz : j = zl := by omega
                    subst hjz
                    have hlast := HJ.out.dec
                    rw [Hzl.out] at hlast
                    have hl2 := hlast.last
                    have hlen := HJ.out.dec.len
                    have hown := HJ.out.own
                    have hown' : wr.ownsRow w.heap.size 62 1 (.slice A j c) zs'.length (nums .u32 zs') := by rw [hlen, ← Hzl.out]; rw [← Hzl.out] at hown; exact hown
                    have hB := HJ.out.bel.size
                    have Hhzk := Lib.hid hzk
                    by_cases hkk : 0 < kk
                    · have q9 : decide (0 < kk) = true := by simpa using hkk
                      have happ : ∀ (v1 : Value) (W6 : World), W6.ownsRow w.heap.size 62 1 v1 (zs' ++ [kk]).length (nums .u32 (zs' ++ [kk])) → Below w.heap.size w W6 → wr.grownBy W6 (Value.slice A j c).ownBlock → ∃ c6 A6, v1 = .slice A6 (zs' ++ [kk]).length c6 ∧ Hid (DecW w d A6 c6 (zs' ++ [kk]) (k + 1) W6) := fun v1 W6 h1 h2 h3 => by
                        obtain ⟨A6, c6, rfl⟩ := own_slice h1
                        refine ⟨c6, A6, rfl, Lib.hid ⟨h1, h2, blk_grown HJ.out.box h3 (own_ne hown' HJ.out.box (by decide)), Wd_snoc HJ.out.dec.wd k0 (by omega), by rw [List.length_append, hlen]; simp; have := HW.out.len; omega, ?_⟩⟩
                        rw [Dv.valW_snoc, hl2, HW.out.val, Hvd.out]
                      have Happ := Lib.hid happ
                      have Hf := Lib.hid (show zs'.length ≤ 3000 by rw [hlen, ← Hzl.out]; omega)
                      clear hl2 hlast hlen happ hown hzk
                      go_wp2_with (at_builtin; refine print_append_num (w0 := w) w.heap.size rfl _ _ 22 62 .u32 4 rfl Tryd.underlying22 info62 (by decide) (.slice A j c) zs' kk rfl rfl hown' HJ.out.bel hB (by have := Hf.out; omega) ?_; intro v1 W6 h1 h2 h3 h4; obtain ⟨c6, A6, rfl, HW6⟩ := Happ.out v1 W6 h1 h2 h3; clear h1 h2 h3 h4)
                      go_roundw
                      case rel => exact ⟨k + 1, c6, A6, _, by omega, by simp, by go_num, HW6⟩
                      case measure => simp [intOf]; omega
                    · have q9 : decide (0 < kk) = false := by simpa using hkk
                      have hk0 : kk = 0 := by omega
                      subst hk0
                      have HW6 := Lib.hid (show DecW w d A c zs' (k + 1) wr from ⟨by rw [hlen]; exact hown, HJ.out.bel, HJ.out.box, HJ.out.dec.wd, by rw [hlen]; have := HW.out.len; omega, by rw [Hvd.out, ← HW.out.val, ← hl2]; simp⟩)
                      have hjl2 : j = zs'.length := by rw [hlen]; exact Hzl.out
                      have Hjl2 := Lib.hid hjl2
                      clear hl2 hlast hlen hown hown' hjl2 hzk
                      go_wp2
                      go_roundw
                      case rel => exact ⟨k + 1, c, A, zs', by omega, by rw [← Hjl2.out], by go_num, HW6⟩
                      case measure => simp [intOf]; omega
              · have hkn : k = d.size := by omega
                subst hkn
                have hrz : ReadsInt wr .u32 A zl zs := by rw [Hzl.out]; exact own_reads' HW.out.own
                have hle : zl ≤ c := by rw [Hzl.out]; exact own_le HW.out.own
                have hform := form_any neg A zl c zs wr hrz hle (by have := HW.out.len; have := Hzl.out; omega)
                have Hform := Lib.hid hform; have Hrz := Lib.hid hrz
                clear hrz hle hform hlt hk
                go_wp2_with (first | (go_at_call 48; have HN := HB5; with_reducible refine (fits_form neg A5 c5 zs W5 HW.out.wd (by have := HW.out.len; omega) Hle5.out Hr5.out).mono ?_; rintro e W6 ⟨s6, A6, n6, c6, er6, rfl, hans, hA6, hb6⟩; have HB6 := Lib.hid (below_then HB5.out HB5.out.size hb6); have HK6 := Lib.hid (blk_below HK5.out hb6); have r0 := blk_cell HK6.out 0; have r1 := blk_cell HK6.out 1; have fr0 := blk_frozen HK6.out 0; have fr1 := blk_frozen HK6.out 1; have Hans := Lib.hid (hans.sgn HW.out.val); clear hans hA6 hb6) | (go_at_call 46; with_reducible refine Hform.out.mono ?_; rintro e W5 ⟨A5, c5, rfl, hle5, hor5, hb5⟩; have HB5 := Lib.hid (below_then HW.out.bel HW.out.bel.size hb5); have HK5 := Lib.hid (blk_below HW.out.box hb5); have Hr5 := Lib.hid (form_reads (c' := c5) (by rw [← Hzl.out]; exact Hrz.out.below hb5) (hor5.imp id (fun h => ⟨h.1, h.2.1⟩))); have Hle5 := Lib.hid hle5; clear hle5 hor5 hb5))
                have k2 := blk_put (cs := #[.bool false, .slice none 0 0]) (cs' := #[.bool s6, .slice none 0 0]) HK6.out 0 (.bool s6) rfl
                refine bodyPost_ret (results_ct rfl _ _ w.heap.size 24 #[.bool s6, .slice A6 n6 c6] (0, 0) _ rfl (blk_put (cs := #[.bool s6, .slice none 0 0]) k2 1 _ rfl) Tryd.underlying24 rfl (by kernel_rfl)) rfl ?_
                exact ⟨s6, A6, n6, c6, er6, rfl, (HB6.out.setCell (p := ⟨w.heap.size, 0, none⟩) (Nat.le_refl _) _).setCell (p := ⟨w.heap.size, 1, none⟩) (Nat.le_refl _) _, .inr ⟨Hgood.out, (Hans.out.put HK6.out (no_words _ _ _ _) 0 (.bool s6)).put k2 (no_words _ _ _ _) 1 (.slice A6 n6 c6)⟩⟩

theorem decI_len (k : Nat) : ∀ n : Nat, n < 10 ^ k → (decI n).length ≤ k := by
  induction k with
  | zero => intro n h; have : n = 0 := by simpa using h
            subst this; rw [decI_zero]; simp
  | succ k ih =>
    intro n h
    by_cases h0 : n = 0
    · subst h0; rw [decI_zero]; simp
    · rw [decI_pos n h0, List.length_append, List.length_singleton]
      have := ih (n / 10) (by rw [Nat.pow_succ] at h; omega)
      omega
theorem rest_size {V : Int} {s : ByteArray} (hs : s.data.toList = toB (textV V)) {k : Nat} (hV : V.natAbs < 2 ^ k) : (restS s).size ≤ k + 1 := by
  have h2 := (text_parts V s hs).2
  have hlen : (sgD (restS s) (restS s).size).length = (restS s).size := by simp [sgD]
  rw [h2] at hlen
  rw [← hlen]
  unfold digV
  split
  · simp
  · have := decI_len k V.natAbs (Nat.lt_of_lt_of_le hV (Nat.pow_le_pow_left (by omega) k))
    omega
theorem Small_form {s : Bool} {A : Option Addr} {n c : Nat} {v : Int} {W : World} (h : FormIs W s A n c v) (h0 : -9223372036854775808 ≤ v) (h1 : v ≤ 9223372036854775807) :
    Calls Tryd.prog 34 #[.agg #[.bool s, .slice A n c]] W fun e w' => e = .returned (.tuple #[.int .i64 v, .bool true]) ∧ Below W.heap.size W w' := by
  have hg : (9223372036854775808 : Int) < tooBig := by
    have h1 : (2 : Int) ^ 64 ≤ tooBig := by
      unfold tooBig
      rw [show 32 * 256 = 64 + 8128 from rfl, Int.pow_add]
      have := Dv.pow_pos' 8128
      have : (2 : Int) ^ 64 * 1 ≤ 2 ^ 64 * 2 ^ 8128 := Int.mul_le_mul_of_nonneg_left (by omega) (by decide)
      omega
    have h2 : (2 : Int) ^ 64 = 18446744073709551616 := by decide
    omega
  have hn := h.few (by omega) (by omega)
  obtain ⟨zs, h4, h5, h6, h7, h8, h9, h10⟩ := h
  have hs : smallS s (Dv.valW zs) = (v, true) := by
    have := Dv.valW_nonneg h7
    unfold vI at h10
    unfold smallS
    cases s
    · rw [if_neg (by simp), if_neg (by simp at h10; omega)]
      simp at h10; rw [h10]
    · rw [if_pos rfl, if_neg (by simp at h10; omega)]
      simp at h10; rw [h10]
  have := Small_any s A n c zs W h7 h6 h5 (by omega)
  rw [hs] at this
  exact this
theorem rest48 (s : ByteArray) (h48 : bt (restS s) 0 = 48) (hp : 0 < (restS s).size) : s.data.toList = [48] ↔ ¬ (negS s = true ∨ 1 < (restS s).size) := by
  rw [neg_split s]
  cases hn : negS s
  · simp only [Bool.false_eq_true, if_false, List.nil_append, false_or]
    constructor
    · intro h; have := congrArg List.length h; rw [← size_list] at this; simp at this; omega
    · intro h
      have h1 : (restS s).size = 1 := by omega
      have h2 := rest_sgD (restS s)
      rw [← h2, h1]
      have e : sgD (restS s) 1 = [bt (restS s) ((0 : Nat) : Int)] := by simp [sgD, List.range_succ]
      have e0 : bt (restS s) ((0 : Nat) : Int) = bt (restS s) 0 := rfl
      rw [e, e0, h48]; rfl
  · simp
theorem cmp_self {na nb : Bool} {A B : Option Addr} {n n' c c' : Nat} {V : Int} {w : World} (h : NumIs w na A n c V) (h' : NumIs w nb B n' c' V) :
    Calls Tryd.prog 13 #[.agg #[.bool na, .slice A n c], .agg #[.bool nb, .slice B n' c']] w fun e w' => e = .returned (.int .i64 0) ∧ Below w.heap.size w w' := by
  have := Compare_num h h'
  rw [cmpI_self] at this
  exact this
theorem run_field1 (b s : Value) (W : World) : (Instr.field 24 (.agg #[b, s]) 1).run Tryd.prog W = .ok s W := by
  kernel_rfl
/-- The law's calls, once the number is lent. -/
structure TellsAt (neg : Bool) (A : Option Addr) (n c g c' : Nat) (S : ByteArray) (sn : Int) (sb : Bool) (W2 : World) : Prop where
  text : ∀ W, Below W2.heap.size W2 W → Calls Tryd.prog 19 #[.agg #[.bool neg, .slice (some ⟨g, 0, none⟩) n c']] W fun e w' => e = .returned (.string S) ∧ Below W.heap.size W w'
  small : ∀ W, Below W2.heap.size W2 W → Calls Tryd.prog 34 #[.agg #[.bool neg, .slice (some ⟨g, 0, none⟩) n c']] W fun e w' => e = .returned (.tuple #[.int .i64 sn, .bool sb]) ∧ Below W.heap.size W w'
  small2 : ∀ W, Below W2.heap.size W2 W → Calls Tryd.prog 35 #[.agg #[.bool neg, .slice A n c]] W fun e w' => e = .returned (.tuple #[.int .i64 sn, .bool sb]) ∧ Below W.heap.size W w'
  text2 : ∀ W, Below W2.heap.size W2 W → Calls Tryd.prog 36 #[.agg #[.bool neg, .slice A n c]] W fun e w' => e = .returned (.string S) ∧ Below W.heap.size W w'
  back : ∀ W, Below W2.heap.size W2 W → Calls Tryd.prog 31 #[.agg #[.bool neg, .slice (some ⟨g, 0, none⟩) n c'], .agg #[.bool neg, .slice A n c]] W fun e w' => e = .returned (.bool true) ∧ Below W.heap.size W w'
theorem tells_at {neg : Bool} {A : Option Addr} {n c : Nat} {xs : List Int} {w W1 W2 : World} {g c' : Nat} (hw : Dv.Wd xs) (hr : ReadsInt w .u32 A n xs) (hc : n ≤ c) (hn : n ≤ 600) (hb1 : Below w.heap.size w W1) (hb2 : Below W1.heap.size W1 W2) (ho : W2.ownsRow W1.heap.size 62 1 (.slice (some ⟨g, 0, none⟩) (n + 1) c') (n + 1) (nums .u32 (xs ++ [77]))) (hc' : n + 1 ≤ c') :
    TellsAt neg A n c g c' ⟨(toB (textI neg xs)).toArray⟩ (smallS neg (Dv.valW xs)).1 (smallS neg (Dv.valW xs)).2 W2 := by
  have hl := hr.1
  have hr2 : ReadsInt W2 .u32 A n xs := hr.below (below_then hb1 hb1.size hb2)
  have hrp := own_reads' ho
  have hrt : ReadsInt W2 .u32 (some ⟨g, 0, none⟩) n xs := by
    have h := hrp.take_ n (by omega)
    rw [List.take_append_of_le_length (by omega), List.take_of_length_le (by omega)] at h
    exact h
  exact ⟨fun W h => text_any neg _ n c' xs W hw (hrt.below h) (by omega) (by omega), fun W h => Small_any neg _ n c' xs W hw (hrt.below h) (by omega) (by omega), fun W h => small_any neg A n c xs W hw (hr2.below h) hc (by omega), fun W h => refText_any neg A n c xs W hw (hr2.below h) hc (by omega), fun W h => lawBack_any neg g c' A n c xs W (hr2.below h) (hrp.below h) hc' (by omega)⟩

set_option maxRecDepth 100000 in
set_option maxHeartbeats 4000000 in
theorem tells_law (neg : Bool) (A : Option Addr) (n c : Nat) (xs : List Int) (v : Int) (w : World) (hw : Dv.Wd xs) (hr : ReadsInt w .u32 A n xs) (hc : n ≤ c) (h0 : -9223372036854775808 ≤ v) (h1 : v ≤ 9223372036854775807) :
    Calls Tryd.prog 7 #[.agg #[.bool neg, .slice A n c], .int .i64 v] w fun e w' => e = .returned (.bool true) ∧ Below w.heap.size w w' := by
  obtain ⟨W0, hW0⟩ : ∃ W0, W0 = w.alloc (.cells #[.bool neg, .slice A n c] 24) := ⟨_, rfl⟩
  have hb0 : Below w.heap.size w W0 := by rw [hW0]; exact below_alloc (Below.refl _ _) _
  have hk0 : W0.heap[w.heap.size]? = some (.cells #[.bool neg, .slice A n c] 24 (0, 0)) := by rw [hW0]; exact blk_new _ _
  have a0 := blk_cell hk0 0; have a1 := blk_cell hk0 1
  have HW0 := Lib.hid hW0; have HB0 := Lib.hid hb0; have HK0 := Lib.hid hk0
  clear hW0 hb0 hk0
  by_cases hl : (600 : Int) < (n : Int)
  · have q : decide ((600 : Int) < (n : Int)) = true := by simpa using hl
    clear hr hw
    go_enter Tryd.func7, Tryd.ntmps7
    go_upto_region 1 with (fail)
    rw [← HW0.out]
    go_wp2_with (first | (go_at_call 20; refine (large_any neg A n c W0).mono ?_; rintro e W1 ⟨rfl, hb1⟩; have HB1 := Lib.hid (below_then HB0.out HB0.out.size hb1); clear hb1) | (go_at_call 12; refine (awake_any _).mono ?_; rintro e Wz ⟨rfl, hbz⟩; have HZ := Lib.hid hbz; clear hbz))
    go_ret
    exact ⟨rfl, below_then HB1.out HB1.out.size HZ.out⟩
  · have q : decide ((600 : Int) < (n : Int)) = false := by simpa using hl
    obtain ⟨V, hV⟩ : ∃ V, V = vI neg xs := ⟨_, rfl⟩
    obtain ⟨S, hS⟩ : ∃ S : ByteArray, S = ⟨(toB (textI neg xs)).toArray⟩ := ⟨_, rfl⟩
    have hSl : S.data.toList = toB (textV V) := by rw [hS, text_val neg xs hw, ← hV]
    have hVa : (V.natAbs : Int) = Dv.valW xs := by have := Dv.valW_nonneg hw; rw [hV]; unfold vI; cases neg <;> simp <;> omega
    have hsz : (restS S).size ≤ 30000 := by
      have h9 := val_less xs hw
      have h8 := trimLen_le xs
      have h7 := hr.1
      have h6 : V.natAbs < 2 ^ (32 * trimLen xs) := by
        have e : ((2 ^ (32 * trimLen xs) : Nat) : Int) = 2 ^ (32 * trimLen xs) := by simp
        omega
      have := rest_size hSl h6
      omega
    obtain ⟨hnb, hsv⟩ := text_back V S hSl
    have hcut : ∀ W, Calls Tryd.prog 47 #[.string S, .string ⟨#[45]⟩] W fun e w' => e = .returned (.tuple #[.string (restS S), .bool (negS S)]) ∧ w' = W := fun W => Tryd.strings_CutPrefix S ⟨#[45]⟩ W
    have hs48 : bt (restS S) 0 = 48 → 0 < (restS S).size → (S.data.toList = [48] ↔ ¬ (negS S = true ∨ 1 < (restS S).size)) := rest48 S
    have hp := fun W => Parse_wide S (restS S) (negS S) W hsz hcut hs48
    have hdig : DigB (restS S) (restS S).size := Classical.byContradiction fun e => hnb (.inr (.inr e))
    have hv0 := valD_nonneg hdig
    have hvV : valD (restS S) (restS S).size = Dv.valW xs := by unfold sgnI at hsv; cases h : negS S <;> rw [h] at hsv <;> simp at hsv <;> omega
    have hsm := small_iff hw
    have hform := fun W h => refForm_any neg A n c xs W h hc (by omega)
    have htl : (xs.take (trimLen xs)).length = trimLen xs := by rw [List.length_take]; have := trimLen_le xs; omega
    have hta := fun W1 W2 g c' (h1 : Below w.heap.size w W1) => @tells_at neg A n c xs w W1 W2 g c' hw hr hc (by omega) h1
    rw [← hS] at hta
    generalize (smallS neg (Dv.valW xs)).1 = sn at hta
    generalize (smallS neg (Dv.valW xs)).2 = sb at hta
    have hnum : ∀ W, Below w.heap.size w W → NumIs W neg A n c V := fun W h => ⟨xs, hr.1.symm, hc, by omega, hr.below h, hw, hV.symm⟩
    have hlent := fun W (h : Below w.heap.size w W) => lent_any neg A n c xs W (hr.below h) (by omega)
    have Hta := Lib.hid hta; have Hnum := Lib.hid hnum; have Hlent := Lib.hid hlent; have Hr := Lib.hid hr; have Hform := Lib.hid hform; have Htl := Lib.hid htl
    clear hta hnum hlent hr hw hform hV hS hcut hs48 htl
    by_cases hbig : trimLen xs ≤ 256
    · have hlt := hsm.1 hbig
      have hpg := fun W => (hp W).mono fun e w' h => post_good h hnb hv0 (by omega)
      rw [hsv] at hpg
      have Hp := Lib.hid hpg
      have q2 : decide ((trimLen xs : Int) ≤ 256) = true := by simp; omega
      have q3 : (((0 : Int)) == 0) = true := rfl
      clear hsm hp hpg hlt hnb hsv hvV hSl hVa hdig hsz hv0
      generalize trimLen xs = tl at *
      go_enter Tryd.func7, Tryd.ntmps7
      go_upto_region 1 with (fail)
      rw [← HW0.out]
      go_upto_region 4 with (first | (go_at_call 20; refine (large_any neg A n c W0).mono ?_; rintro e W1 ⟨rfl, hb1⟩; have HB1 := Lib.hid (below_then HB0.out HB0.out.size hb1); have HK1 := Lib.hid (blk_below HK0.out hb1); have b0 := blk_cell HK1.out 0; have b1 := blk_cell HK1.out 1; clear hb1) | (go_at_call 21; refine (Hlent.out _ HB1.out).mono ?_; rintro e W2 ht; unfold LentPost at ht; obtain ⟨g, c', rfl, ho2, hc2, hb2⟩ := ht; rw [Hr.out.1] at ho2 hc2 ⊢; have Hat := Lib.hid (Hta.out _ _ _ _ HB1.out hb2 ho2 hc2); have HB2 := Lib.hid (below_alloc (below_then HB1.out HB1.out.size hb2) (.cells #[.bool neg, .slice (some ⟨g, 0, none⟩) n c'] 24)); have HC2 := Lib.hid (below_alloc (Below.refl W2.heap.size W2) (.cells #[.bool neg, .slice (some ⟨g, 0, none⟩) n c'] 24)); have HK2 := Lib.hid (blk_alloc (blk_below HK1.out hb2) (.cells #[.bool neg, .slice (some ⟨g, 0, none⟩) n c'] 24)); have HP2 := Lib.hid (blk_new W2 (.cells #[.bool neg, .slice (some ⟨g, 0, none⟩) n c'] 24)); have p20 := blk_cell HP2.out 0; have p21 := blk_cell HP2.out 1; have k20 := blk_cell HK2.out 0; have k21 := blk_cell HK2.out 1; clear ho2 hc2 hb2))
      go_upto_region 8 with (first | (go_at_call 31; have HN_ := HB6; refine (Hat.out.back _ HC6.out).mono ?_; rintro e W7 ⟨rfl, hb⟩; have HB7 := Lib.hid (below_then HB6.out HB6.out.size hb); have HC7 := Lib.hid (below_then HC6.out HC6.out.size hb); have HK7 := Lib.hid (blk_below HK6.out hb); have HP7 := Lib.hid (blk_below HP6.out hb); have p70 := blk_cell HP7.out 0; have p71 := blk_cell HP7.out 1; have k70 := blk_cell HK7.out 0; have k71 := blk_cell HK7.out 1; clear hb) | (go_at_call 36; have HN_ := HB5; refine (Hat.out.text2 _ HC5.out).mono ?_; rintro e W6 ⟨rfl, hb⟩; have HB6 := Lib.hid (below_then HB5.out HB5.out.size hb); have HC6 := Lib.hid (below_then HC5.out HC5.out.size hb); have HK6 := Lib.hid (blk_below HK5.out hb); have HP6 := Lib.hid (blk_below HP5.out hb); have p60 := blk_cell HP6.out 0; have p61 := blk_cell HP6.out 1; have k60 := blk_cell HK6.out 0; have k61 := blk_cell HK6.out 1; clear hb) | (go_at_call 35; have HN_ := HB4; refine (Hat.out.small2 _ HC4.out).mono ?_; rintro e W5 ⟨rfl, hb⟩; have HB5 := Lib.hid (below_then HB4.out HB4.out.size hb); have HC5 := Lib.hid (below_then HC4.out HC4.out.size hb); have HK5 := Lib.hid (blk_below HK4.out hb); have HP5 := Lib.hid (blk_below HP4.out hb); have p50 := blk_cell HP5.out 0; have p51 := blk_cell HP5.out 1; have k50 := blk_cell HK5.out 0; have k51 := blk_cell HK5.out 1; clear hb) | (go_at_call 34; have HN_ := HB3; refine (Hat.out.small _ HC3.out).mono ?_; rintro e W4 ⟨rfl, hb⟩; have HB4 := Lib.hid (below_then HB3.out HB3.out.size hb); have HC4 := Lib.hid (below_then HC3.out HC3.out.size hb); have HK4 := Lib.hid (blk_below HK3.out hb); have HP4 := Lib.hid (blk_below HP3.out hb); have p40 := blk_cell HP4.out 0; have p41 := blk_cell HP4.out 1; have k40 := blk_cell HK4.out 0; have k41 := blk_cell HK4.out 1; clear hb) | (go_at_call 19; have HN_ := HB2; refine (Hat.out.text _ HC2.out).mono ?_; rintro e W3 ⟨rfl, hb⟩; have HB3 := Lib.hid (below_then HB2.out HB2.out.size hb); have HC3 := Lib.hid (below_then HC2.out HC2.out.size hb); have HK3 := Lib.hid (blk_below HK2.out hb); have HP3 := Lib.hid (blk_below HP2.out hb); have p30 := blk_cell HP3.out 0; have p31 := blk_cell HP3.out 1; have k30 := blk_cell HK3.out 0; have k31 := blk_cell HK3.out 1; clear hb))
      have hfld := run_field1
      go_wp2_with (first | (go_at_call 12; have HN_ := HB15; refine (awake_any _).mono ?_; rintro e W16 ⟨rfl, hb⟩; have HB16 := Lib.hid (below_then HB15.out HB15.out.size hb); clear hb) | (go_at_call 18; have HN_ := HB14; refine (same_form HF13b.out HF14.out).mono ?_; rintro e W15 ⟨rfl, hb⟩; have HB15 := Lib.hid (below_then HB14.out HB14.out.size hb); clear hb) | (go_at_call 38; have HN_ := HB13; refine (refOf_any v _ h0 h1).mono ?_; rintro e W14 ⟨s14, A14, n14, c14, rfl, hf, hb⟩; have HB14 := Lib.hid (below_then HB13.out HB13.out.size hb); have HF14 := Lib.hid hf; have HF13b := Lib.hid (FormIs.below HF13.out hb); clear hf; clear hb) | (go_at_call 33; have HN_ := HB12; refine (Of_any v _ h0 h1).mono ?_; rintro e W13 ⟨s13, A13, n13, c13, rfl, hf, hb⟩; have HB13 := Lib.hid (below_then HB12.out HB12.out.size hb); have HF13 := Lib.hid hf; clear hf; clear hb) | (go_at_call 34; have HN_ := HB11; refine (Small_form HF11.out h0 h1).mono ?_; rintro e W12 ⟨rfl, hb⟩; have HB12 := Lib.hid (below_then HB11.out HB11.out.size hb); clear hb) | (go_at_call 33; have HN_ := HB10; refine (Of_any v _ h0 h1).mono ?_; rintro e W11 ⟨s11, A11, n11, c11, rfl, hf, hb⟩; have HB11 := Lib.hid (below_then HB10.out HB10.out.size hb); have HF11 := Lib.hid hf; clear hf; clear hb) | (go_at_call 13; have HN_ := HB9; refine (cmp_self (HF9.out.num (by omega)) (Hnum.out _ HB9.out)).mono ?_; rintro e W10 ⟨rfl, hb⟩; have HB10 := Lib.hid (below_then HB9.out HB9.out.size hb); clear hb) | (go_at_call 37; have HN_ := HB8; refine (Hform.out _ (Hr.out.below HB8.out)).mono ?_; rintro e W9 ⟨y9, rfl, ho, hb⟩; obtain ⟨A9, c9, rfl, _, _⟩ := ho.slice; rw [Htl.out]; have HB9 := Lib.hid (below_then HB8.out HB8.out.size hb); have HK9 := Lib.hid (blk_below HK8.out hb); have HX9 := Lib.hid (blk_below HX8.out hb); have k90 := blk_cell HK9.out 0; have k91 := blk_cell HK9.out 1; have x90 := blk_cell HX9.out 0; have x91 := blk_cell HX9.out 1; have HF9 := Lib.hid (FormIs.below HF8.out hb); clear hb; clear ho) | (go_at_call 16; have HN_ := HB7; refine (Hp.out _).mono ?_; rintro e W8 ⟨s8, A8, n8, c8, rfl, hf, hn8, hb⟩; have HB8 := Lib.hid (below_alloc (below_then HB7.out HB7.out.size hb) (.cells #[.bool s8, .slice A8 n8 c8] 24)); have HK8 := Lib.hid (blk_alloc (blk_below HK7.out hb) (.cells #[.bool s8, .slice A8 n8 c8] 24)); have HX8 := Lib.hid (blk_new W8 (.cells #[.bool s8, .slice A8 n8 c8] 24)); have k80 := blk_cell HK8.out 0; have k81 := blk_cell HK8.out 1; have HF8 := Lib.hid (FormIs.below hf (below_alloc (Below.refl _ _) (.cells #[.bool s8, .slice A8 n8 c8] 24))); clear hf; clear hb))
      go_ret
      exact ⟨rfl, HB16.out⟩
    · have hgt := hsm.2 (by omega)
      have hpg := fun W => (hp W).mono fun e w' h => post_big h hnb (by omega)
      have Hp := Lib.hid hpg
      have q2 : decide ((trimLen xs : Int) ≤ 256) = false := by simp; omega
      clear hsm hp hpg hgt hnb hsv hvV hSl hVa hdig hsz hv0
      generalize trimLen xs = tl at *
      go_enter Tryd.func7, Tryd.ntmps7
      go_upto_region 1 with (fail)
      rw [← HW0.out]
      go_upto_region 4 with (first | (go_at_call 20; refine (large_any neg A n c W0).mono ?_; rintro e W1 ⟨rfl, hb1⟩; have HB1 := Lib.hid (below_then HB0.out HB0.out.size hb1); have HK1 := Lib.hid (blk_below HK0.out hb1); have b0 := blk_cell HK1.out 0; have b1 := blk_cell HK1.out 1; clear hb1) | (go_at_call 21; refine (Hlent.out _ HB1.out).mono ?_; rintro e W2 ht; unfold LentPost at ht; obtain ⟨g, c', rfl, ho2, hc2, hb2⟩ := ht; rw [Hr.out.1] at ho2 hc2 ⊢; have Hat := Lib.hid (Hta.out _ _ _ _ HB1.out hb2 ho2 hc2); have HB2 := Lib.hid (below_alloc (below_then HB1.out HB1.out.size hb2) (.cells #[.bool neg, .slice (some ⟨g, 0, none⟩) n c'] 24)); have HC2 := Lib.hid (below_alloc (Below.refl W2.heap.size W2) (.cells #[.bool neg, .slice (some ⟨g, 0, none⟩) n c'] 24)); have HK2 := Lib.hid (blk_alloc (blk_below HK1.out hb2) (.cells #[.bool neg, .slice (some ⟨g, 0, none⟩) n c'] 24)); have HP2 := Lib.hid (blk_new W2 (.cells #[.bool neg, .slice (some ⟨g, 0, none⟩) n c'] 24)); have p20 := blk_cell HP2.out 0; have p21 := blk_cell HP2.out 1; have k20 := blk_cell HK2.out 0; have k21 := blk_cell HK2.out 1; clear ho2 hc2 hb2))
      go_upto_region 8 with (first | (go_at_call 31; have HN_ := HB6; refine (Hat.out.back _ HC6.out).mono ?_; rintro e W7 ⟨rfl, hb⟩; have HB7 := Lib.hid (below_then HB6.out HB6.out.size hb); have HC7 := Lib.hid (below_then HC6.out HC6.out.size hb); have HK7 := Lib.hid (blk_below HK6.out hb); have HP7 := Lib.hid (blk_below HP6.out hb); have p70 := blk_cell HP7.out 0; have p71 := blk_cell HP7.out 1; have k70 := blk_cell HK7.out 0; have k71 := blk_cell HK7.out 1; clear hb) | (go_at_call 36; have HN_ := HB5; refine (Hat.out.text2 _ HC5.out).mono ?_; rintro e W6 ⟨rfl, hb⟩; have HB6 := Lib.hid (below_then HB5.out HB5.out.size hb); have HC6 := Lib.hid (below_then HC5.out HC5.out.size hb); have HK6 := Lib.hid (blk_below HK5.out hb); have HP6 := Lib.hid (blk_below HP5.out hb); have p60 := blk_cell HP6.out 0; have p61 := blk_cell HP6.out 1; have k60 := blk_cell HK6.out 0; have k61 := blk_cell HK6.out 1; clear hb) | (go_at_call 35; have HN_ := HB4; refine (Hat.out.small2 _ HC4.out).mono ?_; rintro e W5 ⟨rfl, hb⟩; have HB5 := Lib.hid (below_then HB4.out HB4.out.size hb); have HC5 := Lib.hid (below_then HC4.out HC4.out.size hb); have HK5 := Lib.hid (blk_below HK4.out hb); have HP5 := Lib.hid (blk_below HP4.out hb); have p50 := blk_cell HP5.out 0; have p51 := blk_cell HP5.out 1; have k50 := blk_cell HK5.out 0; have k51 := blk_cell HK5.out 1; clear hb) | (go_at_call 34; have HN_ := HB3; refine (Hat.out.small _ HC3.out).mono ?_; rintro e W4 ⟨rfl, hb⟩; have HB4 := Lib.hid (below_then HB3.out HB3.out.size hb); have HC4 := Lib.hid (below_then HC3.out HC3.out.size hb); have HK4 := Lib.hid (blk_below HK3.out hb); have HP4 := Lib.hid (blk_below HP3.out hb); have p40 := blk_cell HP4.out 0; have p41 := blk_cell HP4.out 1; have k40 := blk_cell HK4.out 0; have k41 := blk_cell HK4.out 1; clear hb) | (go_at_call 19; have HN_ := HB2; refine (Hat.out.text _ HC2.out).mono ?_; rintro e W3 ⟨rfl, hb⟩; have HB3 := Lib.hid (below_then HB2.out HB2.out.size hb); have HC3 := Lib.hid (below_then HC2.out HC2.out.size hb); have HK3 := Lib.hid (blk_below HK2.out hb); have HP3 := Lib.hid (blk_below HP2.out hb); have p30 := blk_cell HP3.out 0; have p31 := blk_cell HP3.out 1; have k30 := blk_cell HK3.out 0; have k31 := blk_cell HK3.out 1; clear hb))
      have hfld := run_field1
      go_wp2_with (first | (go_at_call 12; have HN_ := HB15; refine (awake_any _).mono ?_; rintro e W16 ⟨rfl, hb⟩; have HB16 := Lib.hid (below_then HB15.out HB15.out.size hb); clear hb) | (go_at_call 18; have HN_ := HB14; refine (same_form HF13b.out HF14.out).mono ?_; rintro e W15 ⟨rfl, hb⟩; have HB15 := Lib.hid (below_then HB14.out HB14.out.size hb); clear hb) | (go_at_call 38; have HN_ := HB13; refine (refOf_any v _ h0 h1).mono ?_; rintro e W14 ⟨s14, A14, n14, c14, rfl, hf, hb⟩; have HB14 := Lib.hid (below_then HB13.out HB13.out.size hb); have HF14 := Lib.hid hf; have HF13b := Lib.hid (FormIs.below HF13.out hb); clear hf; clear hb) | (go_at_call 33; have HN_ := HB12; refine (Of_any v _ h0 h1).mono ?_; rintro e W13 ⟨s13, A13, n13, c13, rfl, hf, hb⟩; have HB13 := Lib.hid (below_then HB12.out HB12.out.size hb); have HF13 := Lib.hid hf; clear hf; clear hb) | (go_at_call 34; have HN_ := HB11; refine (Small_form HF11.out h0 h1).mono ?_; rintro e W12 ⟨rfl, hb⟩; have HB12 := Lib.hid (below_then HB11.out HB11.out.size hb); clear hb) | (go_at_call 33; have HN_ := HB9; refine (Of_any v _ h0 h1).mono ?_; rintro e W11 ⟨s11, A11, n11, c11, rfl, hf, hb⟩; have HB11 := Lib.hid (below_then HB9.out HB9.out.size hb); have HF11 := Lib.hid hf; clear hf; clear hb) | (go_at_call 37; have HN_ := HB8; refine (Hform.out _ (Hr.out.below HB8.out)).mono ?_; rintro e W9 ⟨y9, rfl, ho, hb⟩; obtain ⟨A9, c9, rfl, _, _⟩ := ho.slice; rw [Htl.out]; have HB9 := Lib.hid (below_then HB8.out HB8.out.size hb); have HK9 := Lib.hid (blk_below HK8.out hb); have HX9 := Lib.hid (blk_below HX8.out hb); have k90 := blk_cell HK9.out 0; have k91 := blk_cell HK9.out 1; have x90 := blk_cell HX9.out 0; have x91 := blk_cell HX9.out 1; clear hb; clear ho) | (go_at_call 16; have HN_ := HB7; refine (Hp.out _).mono ?_; rintro e W8 ⟨rfl, hb⟩; have HB8 := Lib.hid (below_alloc (below_then HB7.out HB7.out.size hb) (.cells #[.bool false, .slice none 0 0] 24)); have HK8 := Lib.hid (blk_alloc (blk_below HK7.out hb) (.cells #[.bool false, .slice none 0 0] 24)); have HX8 := Lib.hid (blk_new W8 (.cells #[.bool false, .slice none 0 0] 24)); have k80 := blk_cell HK8.out 0; have k81 := blk_cell HK8.out 1; clear hb))
      go_ret
      exact ⟨rfl, HB16.out⟩
theorem i64_of_wf {v : Int} (h : (Lit.int .i64 v).wf = true) : -9223372036854775808 ≤ v ∧ v ≤ 9223372036854775807 := by
  simp only [Lit.wf, IntKind.min, IntKind.max, IntKind.bits, IntKind.signed] at h
  simpa using h
theorem tells_law' (neg : Bool) (A : Option Addr) (n c : Nat) (xs : List Int) (v : Int) (w : World) (hw : Dv.Wd xs) (hr : ReadsInt w .u32 A n xs) (hc : n ≤ c) (hv : (Lit.int .i64 v).wf = true) :
    Calls Tryd.prog 7 #[.agg #[.bool neg, .slice A n c], .int .i64 v] w fun e w' => e = .returned (.bool true) ∧ Below w.heap.size w w' :=
  tells_law neg A n c xs v w hw hr hc (i64_of_wf hv).1 (i64_of_wf hv).2
end Go.Proofs.YtiofeehcnegejaaDoor
