/- The document's own Text. -/
import Derived.Test.YtiofeehcnegejaaDoorTr
import Derived.Test.YtiofeehcnegejaaDoorRfE
import Derived.Test.YtiofeehcnegejaaDoorWhT
namespace Go.Proofs.YtiofeehcnegejaaDoor
open Go.RowKit Go.Proofs.YtiofeehcnegejaaDoorW.PrintWords
set_option linter.unusedVariables false
set_option linter.unusedSimpArgs false

theorem own_apart {W : World} {base n m : Nat} {v u : Value} {xs ys : List Value} (h : W.ownsRow base 62 1 v n xs) (h2 : W.ownsRow base 5 1 u m ys) : v.ownBlock = none ∨ v.ownBlock ≠ u.ownBlock := by
  cases hv : v.ownBlock with
  | none => exact .inl rfl
  | some k =>
    obtain ⟨cells, hc⟩ := own_typed h k hv
    exact .inr (own_ne h2 hc (by decide))
/-- At the outer loop's head. -/
structure RtW (w : World) (box : Array Value) (V : Int) (zs ps : List Int) (mv bv : Value) (wr : World) : Prop where
  own : wr.ownsRow w.heap.size 62 1 mv zs.length (nums .u32 zs)
  bown : wr.ownsRow w.heap.size 5 1 bv (lowP ps).length (nums .u8 (lowP ps))
  bel : Below w.heap.size w wr
  box : wr.heap[w.heap.size]? = some (.cells box 24 (0, 0))
  at_ : TextAt V zs ps zs.length
/-- At the inner loop's head. -/
structure RtI (w : World) (box : Array Value) (z0 zs bs : List Int) (i : Nat) (r : Int) (mv bv : Value) (wr : World) : Prop where
  own : wr.ownsRow w.heap.size 62 1 mv zs.length (nums .u32 zs)
  bown : wr.ownsRow w.heap.size 5 1 bv bs.length (nums .u8 bs)
  bel : Below w.heap.size w wr
  box : wr.heap[w.heap.size]? = some (.cells box 24 (0, 0))
  at_ : DivAt 1000000000 z0 zs z0.length i r
theorem RtI.step {w : World} {box : Array Value} {z0 zs bs : List Int} {j g k c : Nat} {r r' qd : Int} {bv : Value} {wr : World} (h : RtI w box z0 zs bs (j + 1) r (.slice (some ⟨g, 0, none⟩) k c) bv wr) (hk : zs.length = k) (hd : DivAt 1000000000 z0 (zs.set j qd) z0.length j r') :
    RtI w box z0 (zs.set j qd) bs j r' (.slice (some ⟨g, 0, none⟩) k c) bv (wr.setCell ⟨g, j, none⟩ (.int .u32 qd)) := by
  subst hk
  have ho := (own_store h.own (j : Int) qd).1
  rw [Int.toNat_natCast] at ho
  have hgw : w.heap.size ≤ g := own_base h.own g rfl
  have hgb : g ≠ w.heap.size := fun e => by have := own_ne h.own h.box (by decide); rw [e] at this; exact this rfl
  have hne : some g ≠ bv.ownBlock := by
    rcases own_apart h.own h.bown with e | e
    · cases e
    · exact e
  exact ⟨by rw [List.length_set]; exact ho, own_setCell h.bown (p := ⟨g, j, none⟩) hne _, h.bel.setCell (p := ⟨g, j, none⟩) hgw _, blk_far h.box (fun e => hgb e.symm) _, hd⟩
/-- At the head of the loop over nine digits. -/
structure RtD (w : World) (box : Array Value) (zs bs : List Int) (mv bv : Value) (wr : World) : Prop where
  own : wr.ownsRow w.heap.size 62 1 mv zs.length (nums .u32 zs)
  bown : wr.ownsRow w.heap.size 5 1 bv bs.length (nums .u8 bs)
  bel : Below w.heap.size w wr
  box : wr.heap[w.heap.size]? = some (.cells box 24 (0, 0))
theorem RtD.grown {w wr W1 : World} {box : Array Value} {zs bs bs' : List Int} {mv bv bv' : Value} (h : RtD w box zs bs mv bv wr) (h1 : W1.ownsRow w.heap.size 5 1 bv' bs'.length (nums .u8 bs')) (h2 : Below w.heap.size w W1) (h3 : wr.grownBy W1 bv.ownBlock) : RtD w box zs bs' mv bv' W1 :=
  ⟨own_other h.own h3 (own_apart h.own h.bown), h1, h2, blk_grown h.box h3 (own_ne h.bown h.box (by decide))⟩

/-- What has been written. -/
structure RtO (Wb : World) (os : List Int) (ov : Value) (wr : World) : Prop where
  own : wr.ownsRow Wb.heap.size 5 1 ov os.length (nums .u8 os)
  bel : Below Wb.heap.size Wb wr
/-- string(out). -/
theorem out_string {W : World} {B g ol c : Nat} {os : List Int} (h : W.ownsRow B 5 1 (.slice (some ⟨g, 0, none⟩) ol c) ol (nums .u8 os)) (hb : Byt os) (hl : os.length = ol) :
    (convert 70 9 (.slice (some ⟨g, 0, none⟩) ol c)).run Tryd.prog W = .ok (.string ⟨(toB os).toArray⟩) W := by
  have hlen : (toB os).length = ol := by rw [← hl]; simp [toB]
  have hr := own_reads' h
  have key := run_convert_bytes_back (P := Tryd.prog) W 70 9 5 ⟨g, 0, none⟩ c (toB os) Tryd.underlying70 Tryd.underlying5 Tryd.underlying9 (fun j hj => by
    obtain ⟨ad, e, hc⟩ := hr.2.2 (by omega)
    injection e with e
    subst e
    rw [hc j (by omega)]
    have hj2 : j < os.length := by omega
    have hx := hb _ (List.getElem_mem hj2)
    rw [List.getD_eq_getElem?_getD, List.getElem?_eq_getElem hj2]
    simp only [toB, List.getElem_map, Option.getD_some]
    rw [UInt8.toNat_ofNat']
    congr 2
    omega)
  rw [hlen] at key
  exact key

set_option maxRecDepth 100000 in
set_option maxHeartbeats 4000000 in
theorem refText_any (neg : Bool) (A : Option Addr) (n c : Nat) (xs : List Int) (w : World) (hw : Dv.Wd xs) (hr : ReadsInt w .u32 A n xs) (hc : n ≤ c) (hn : n ≤ 100000) :
    Calls Tryd.prog 36 #[.agg #[.bool neg, .slice A n c]] w fun e w' => e = .returned (.string ⟨(toB (textI neg xs)).toArray⟩) ∧ Below w.heap.size w w' := by
  have hlt : (xs.take (trimLen xs)).length = trimLen xs := by rw [List.length_take]; have := trimLen_le xs; omega
  have hln := hr.1
  have htle := trimLen_le xs
  have htx : textI neg xs = textI (neg && decide (0 < trimLen xs)) (xs.take (trimLen xs)) := by
    unfold textI
    rw [valW_trim]
    by_cases h0 : trimLen xs = 0
    · rw [if_pos (trim_zero h0), if_pos (trim_zero h0)]
    · have : decide (0 < trimLen xs) = true := by simp; omega
      rw [this, Bool.and_true]
  have hti := trim_idem xs
  have hwt := hw.take (trimLen xs)
  have hmade := fun w hr => refForm_any neg A n c xs w hr hc (by omega)
  obtain ⟨R, hR⟩ : ∃ R, (neg && decide (0 < trimLen xs)) = R := ⟨_, rfl⟩
  rw [hR] at hmade htx
  rw [htx]
  have Hr := Lib.hid hr
  clear htx
  clear hr hR hw
  have htn : trimLen xs ≤ 100000 := by omega
  clear hln htle
  have Hmade := Lib.hid hmade; clear hmade
  generalize trimLen xs = t at *
  generalize xs.take t = ts at *
  obtain ⟨T, hT⟩ : ∃ T, textI R ts = T := ⟨_, rfl⟩
  rw [hT]
  have HT := Lib.hid hT; clear hT
  have Hlt := Lib.hid hlt; have Hti := Lib.hid hti; have Hwt := Lib.hid hwt
  clear hlt hti hwt
  go_enter Tryd.func36, Tryd.ntmps36
  go_upto_region 2 with (go_at_call 37; refine (Hmade.out _ (Hr.out.below ((Below.refl _ w).alloc (Nat.le_refl _) _))).mono ?_; rintro e w' ⟨v, rfl, hown, hb⟩; obtain ⟨A', c', rfl, hc', hr'⟩ := hown.slice; rw [Hlt.out]; have Hown := Lib.hid hown; clear hown; have hb0 := (hb.block w.heap.size (by simp)).trans (blk_new w (.cells #[Value.bool neg, Value.slice A n c] 24)); have Hb0 := Lib.hid hb0; have k0 := blk_cell hb0 0; have k1 := blk_cell hb0 1; have f0 := blk_frozen hb0 0; have f1 := blk_frozen hb0 1; have hz := blk_lt hb0; clear hb0)
  have hcs : Own32 w' w.heap.size (.slice A' t c') ts := by rw [← Hlt.out]; exact Hown.out.lower (by simp)
  have hne : some w.heap.size ≠ (Value.slice A' t c').ownBlock := own_ne hcs Hb0.out (by decide)
  have hB : Below w.heap.size w w' := ((Below.refl _ w).alloc (Nat.le_refl _) _).trans (hb.mono (by simp))
  have hB2 := (hB.setCell (p := ⟨w.heap.size, 0, none⟩) (Nat.le_refl _) (.bool R)).setCell (p := ⟨w.heap.size, 1, none⟩) (Nat.le_refl _) (.slice A' t c')
  have hb2 := blk_put (cs := #[.bool R, .slice A n c]) (blk_put (cs := #[.bool neg, .slice A n c]) Hb0.out 0 (.bool R) rfl) 1 (.slice A' t c') rfl
  have hown2 : Own32 ((w'.setCell ⟨w.heap.size, 0, none⟩ (.bool R)).setCell ⟨w.heap.size, 1, none⟩ (.slice A' t c')) w.heap.size (.slice A' t c') ts := own_setCell (own_setCell hcs hne _) hne _
  obtain ⟨A2, c2, e2, hle2, hr2⟩ := hown2.slice
  rw [Hlt.out] at e2 hr2 hle2
  obtain ⟨rfl, _, rfl⟩ := Value.slice.inj e2
  generalize (w'.setCell ⟨w.heap.size, 0, none⟩ (.bool R)).setCell ⟨w.heap.size, 1, none⟩ (.slice A' t c') = W2 at *
  have k20 := blk_cell hb2 0
  have k21 := blk_cell hb2 1
  have HB2 := Lib.hid (show Below w.heap.size w W2 from hB2); have Hb2 := Lib.hid (show W2.heap[w.heap.size]? = some (.cells #[.bool R, .slice A' t c'] 24 (0, 0)) from hb2); have Hr2 := Lib.hid hr2; have Hle2 := Lib.hid hle2
  clear k0 k1 f0 f1 hcs hne hB hb hb2 hown2 e2 hr' Hown Hb0 hz hc' hB2 hr2 hle2 Hmade Hr
  by_cases ht0 : t = 0
  · have hts : ts = [] := List.length_eq_zero_iff.1 (by rw [Hlt.out]; exact ht0)
    have htx : T = [48] := by rw [← HT.out, hts]; rfl
    have Htx := Lib.hid htx
    have q0 : ((t : Int) == 0) = true := by simp [ht0]
    clear htx hts
    go_wp2
    go_ret
    exact ⟨by rw [Htx.out]; rfl, HB2.out⟩
  · have q0 : ((t : Int) == 0) = false := beq_eq_false_iff_ne.2 (by omega)
    have hVp : 0 < Dv.valW ts := trim_pos Hwt.out (by rw [Hti.out]; omega)
    have hVt : Dv.valW ts < 2 ^ (32 * t) := by have := val_less ts Hwt.out; rwa [Hti.out] at this
    have htx : T = (if R then [45] else []) ++ decI (Dv.valW ts).toNat := by rw [← HT.out]; unfold textI; rw [if_neg (by omega)]
    have htrim := refTrim_any A' t c' ts W2 Hr2.out Hle2.out (by omega)
    rw [Hti.out, List.take_of_length_le (Nat.le_of_eq Hlt.out)] at htrim
    obtain ⟨V, hV⟩ : ∃ V, V = Dv.valW ts := ⟨_, rfl⟩
    rw [← hV] at hVp hVt htx
    have Htx := Lib.hid htx
    have Htrim := Lib.hid htrim; have HV := Lib.hid hV; have HVt := Lib.hid hVt
    clear htrim hV hVt htx
    go_upto_block 0 with (go_at_call 49; refine Htrim.out.mono ?_; rintro e W3 ⟨v3, rfl, ho3, hb3⟩; obtain ⟨A3, c3, rfl, hc3, hr3⟩ := ho3.slice; have Ho3 := Lib.hid ho3; have HB3 := Lib.hid hb3; clear ho3 hb3 hc3 hr3)
    have hst : RtW w #[.bool R, .slice A' t c'] V ts [] (.slice A3 ts.length c3) (.slice none 0 0) W3 :=
      ⟨own_weaken Ho3.out HB2.out.size, own_nil _ _ _ _, below_then HB2.out HB2.out.size HB3.out, blk_below Hb2.out HB3.out, ⟨Hwt.out, by rw [Hti.out, Hlt.out], fun x hx => (by cases hx), by rw [HV.out]; simp [valP]⟩⟩
    have Hst := Lib.hid hst
    clear hst Ho3 HB3
    go_wp2
    go_loopw [3, 4] (fun mv bv wr => ∃ (k L c3 c4 : Nat) (A3 A4 : Option Addr) (zs ps : List Int), k = zs.length ∧ L = 9 * ps.length ∧ L ≤ 18 * t ∧ k ≤ t ∧ mv = .slice A3 k c3 ∧ bv = .slice A4 L c4 ∧ Hid (RtW w #[.bool R, .slice A' t c'] V zs ps (.slice A3 k c3) (.slice A4 L c4) wr)) (fun _ bv _ => 18 * t - lenOf bv)
    case atStart => exact ⟨_, 0, c3, 0, A3, none, ts, [], rfl, rfl, by omega, by rw [Hlt.out]; exact Nat.le_refl _, rfl, rfl, Hst⟩
    case round =>
      obtain ⟨k, L, c3, c4, A3, A4, zs, ps, hkz, hL, hLt, hkt, rfl, rfl, HS⟩ := hrel
      clear Hst
      by_cases hk0 : 0 < k
      · have hfew := HS.out.at_.few (by omega) HVt.out
        have hownk := HS.out.own
        rw [← hkz] at hownk
        obtain ⟨g, c5, hv, hg, _⟩ := hownk.form (by omega)
        obtain ⟨rfl, _, rfl⟩ := Value.slice.inj hv
        have Hkz := Lib.hid hkz; have HL := Lib.hid hL; have Hg := Lib.hid hg
        have hz1 : RtI w #[.bool R, .slice A' t c'] zs zs (lowP ps) k 0 (.slice (some ⟨g, 0, none⟩) k c3) (.slice A4 L c4) _ := ⟨HS.out.own, HS.out.bown, HS.out.bel, HS.out.box, by rw [hkz]; exact DivAt.start _ (by omega) zs zs.length HS.out.at_.wd (fun j hj => trim_high zs j (by rw [HS.out.at_.k0]; exact hj))⟩
        have Hz1 := Lib.hid hz1; clear hz1 hownk hv hg hkz hL
        go_wp2
        go_loopw [5, 6] (fun rv iv wr' => ∃ (i : Nat) (r z : Int) (zs' : List Int), i ≤ k ∧ z + 1 = (i : Int) ∧ rv = .int .u64 r ∧ iv = .int .i64 z ∧ Hid (RtI w #[.bool R, .slice A' t c'] zs zs' (lowP ps) i r (.slice (some ⟨g, 0, none⟩) k c3) (.slice A4 L c4) wr')) (fun _ iv _ => (intOf iv + 1).toNat)
        case atStart => exact ⟨k, 0, _, zs, Nat.le_refl _, by omega, rfl, rfl, Hz1⟩
        case round =>
          obtain ⟨i, r, z, zs', hi, hz, rfl, rfl, HI⟩ := hrel
          clear Hz1
          cases i with
          | zero =>
            obtain rfl : z = -1 := by omega
            have hzl : zs'.length = k := by rw [HI.out.at_.len, Hkz.out]
            have hown1 := HI.out.own
            rw [hzl] at hown1
            have hrd1 := own_reads' hown1
            have htr := refTrim_any (some ⟨g, 0, none⟩) k c3 zs' _ hrd1 (own_le hown1) (by omega)
            have hta := HS.out.at_.step HI.out.at_
            have hr0 := HI.out.at_.r0
            have hr1 := HI.out.at_.r1
            have hta2 : TextAt V (zs'.take (trimLen zs')) (ps ++ [r]) (zs'.take (trimLen zs')).length := ⟨HI.out.at_.wd.take _, by rw [trim_idem, List.length_take]; have := trimLen_le zs'; omega, hta.pcs, by rw [valW_trim]; exact hta.eq⟩
            have hk5 : (zs'.take (trimLen zs')).length ≤ k := by rw [List.length_take]; omega
            have hLl : (lowP ps).length = L := by rw [lowP_len, HL.out]
            have hLf : L + 9 ≤ 18 * t := by rw [HL.out]; omega
            generalize zs'.take (trimLen zs') = z5 at *
            have Htr := Lib.hid htr; have Hta := Lib.hid hta2; have HLl := Lib.hid hLl
            clear htr hta hta2 hrd1 hown1 hzl hz hLl
            go_upto_block 4 with (go_at_call 49; refine Htr.out.mono ?_; rintro e W5 ⟨v5, rfl, ho5, hb5⟩; obtain ⟨A5, c5, rfl, hc5, hr5⟩ := ho5.slice; have hst5 : RtD w #[.bool R, .slice A' t c'] z5 (lowP ps) (.slice A5 z5.length c5) (.slice A4 L c4) W5 := ⟨own_weaken ho5 HI.out.bel.size, pw_own_below HI.out.bown hb5, below_then HI.out.bel HI.out.bel.size hb5, blk_below HI.out.box hb5⟩; have Hst5 := Lib.hid hst5; clear hst5 ho5 hb5 hc5 hr5)
            go_wp2
            go_loopw [4, 5, 7] (fun bv cv kv wr'' => ∃ (j c6 : Nat) (A6 : Option Addr), j ≤ 9 ∧ bv = .slice A6 (L + j) c6 ∧ cv = .int .u64 (r / 10 ^ j) ∧ kv = .int .i64 j ∧ Hid (RtD w #[.bool R, .slice A' t c'] z5 (lowP ps ++ low9 r j) (.slice A5 z5.length c5) (.slice A6 (L + j) c6) wr'')) (fun _ _ kv _ => 9 - (intOf kv).toNat)
            case atStart => exact ⟨0, c4, A4, by omega, rfl, by simp, rfl, by rw [low9_zero, List.append_nil]; exact Hst5⟩
            case round =>
              obtain ⟨j, c6, A6, hj, rfl, rfl, rfl, HD⟩ := hrel
              clear Hst5
              obtain ⟨bs, hbs⟩ : ∃ bs, bs = lowP ps ++ low9 r j := ⟨_, rfl⟩
              have hbl : bs.length = L + j := by rw [hbs, List.length_append, HLl.out, low9_len]
              rw [← hbs] at HD
              by_cases hj9 : j < 9
              · obtain ⟨d0, d1⟩ := ten_range hr0 hr1 j
                have hnx := ten_step r j
                have hsn : bs ++ [48 + r / 10 ^ j % 10] = lowP ps ++ low9 r (j + 1) := by rw [hbs, low9_succ, List.append_assoc]
                obtain ⟨x, hx⟩ : ∃ x, x = r / 10 ^ j := ⟨_, rfl⟩
                rw [← hx] at hnx hsn d0 d1
                rw [← hx]
                have hob := HD.out.bown
                have hB := HD.out.bel
                have hBs := hB.size
                have Hnx := Lib.hid hnx; have Hsn := Lib.hid hsn; have Hbl := Lib.hid hbl; have Hob := Lib.hid hob; have HB := Lib.hid hB; have HBs := Lib.hid hBs
                clear hnx hsn hbl hbs hx hob hB hBs
                go_wp2_with (at_builtin; refine print_append_num (w0 := w) w.heap.size rfl _ _ 70 5 .u8 1 rfl Tryd.underlying70 infoByte (by decide) (.slice A6 (L + j) c6) bs (48 + x % 10) rfl rfl Hob.out HB.out HBs.out (by rw [Hbl.out]; omega) ?_; intro v1 W6 h1 h2 h3 _; have HT6 := Lib.hid (HD.out.grown h1 h2 h3); obtain ⟨A7, c7, rfl⟩ := own_slice h1; clear h1 h2 h3)
                go_roundw
                case rel =>
                  have hl1 : (bs ++ [48 + x % 10]).length = L + (j + 1) := by rw [List.length_append, Hbl.out]; rfl
                  have h6 := HT6.out
                  rw [hl1, Hsn.out] at h6
                  exact ⟨j + 1, c7, A7, by omega, by rw [show bs.length + 1 = L + (j + 1) by have := Hbl.out; omega], by rw [Hnx.out], by go_num, Lib.hid h6⟩
                case measure => simp [intOf]; omega
              · obtain rfl : j = 9 := by omega
                have hL9 : lowP (ps ++ [r]) = bs := by rw [hbs, lowP_snoc]
                have HL9 := Lib.hid hL9
                clear hL9 hbs hj9 hj
                go_wp2
                go_roundw
                case rel => exact ⟨z5.length, L + 9, c5, c6, A5, A6, z5, ps ++ [r], rfl, by rw [HL.out, List.length_append, List.length_singleton]; omega, hLf, by omega, rfl, rfl, Lib.hid ⟨HD.out.own, by rw [HL9.out]; exact HD.out.bown, HD.out.bel, HD.out.box, Hta.out⟩⟩
                case measure => simp [lenOf]; omega
          | succ j =>
            obtain rfl : z = (j : Int) := by omega
            have hzl : zs'.length = k := by rw [HI.out.at_.len, Hkz.out]
            have hlow := HI.out.at_.low j (by omega)
            have hr0 := HI.out.at_.r0
            have hr1 := HI.out.at_.r1
            have hown1 := HI.out.own
            rw [hzl] at hown1
            obtain ⟨hoc, hof⟩ := own_at hown1 (j : Int) (by omega) (by omega)
            rw [Int.toNat_natCast, hlow] at hoc
            rw [Int.toNat_natCast] at hof
            have hxb := HS.out.at_.wd.get (j : Int)
            have hstep := HI.out.at_.step (by omega) (by rw [← Hkz.out]; omega) (by rw [← Hkz.out]; omega) HS.out.at_.wd
            obtain ⟨x, hx⟩ : ∃ x, x = rd zs (j : Int) := ⟨_, rfl⟩
            rw [← hx] at hoc hxb hstep
            obtain ⟨x0, x1⟩ := hxb
            have hor := Dv.or_sum r x 32 hr0 (by omega) x0 (by omega) (by omega)
            obtain ⟨N, hN⟩ : ∃ N, N = r * 4294967296 + x := ⟨_, rfl⟩
            have hor2 : bits .or .u64 (r * 4294967296) x = N := by rw [hN]; exact hor
            have hwr : IntKind.u64.wrap (r * 4294967296) = r * 4294967296 := by rw [IntKind.wrap_u64]; omega
            have n0 : 0 ≤ N := by omega
            have n1 : N ≤ 18446744073709551615 := by omega
            have n2 : N / 1000000000 < 4294967296 := by omega
            have n3 : 0 ≤ N / 1000000000 := by omega
            rw [← hN] at hstep
            have Hst2 := Lib.hid (HI.out.step hzl hstep)
            have p0 : (0 : Int) ≤ (j : Int) := by omega
            have p1 : (j : Int) < (k : Int) := by omega
            clear hor hN hx hlow hz hzl hstep hown1
            go_wp2
            go_roundw
            case rel => exact ⟨j, N % 1000000000, _, _, by omega, by omega, rfl, rfl, Hst2⟩
            case measure => simp [intOf]
      · obtain rfl : k = 0 := by omega
        have hzs0 : zs.length = 0 := hkz.symm
        have hta := HS.out.at_
        rw [hzs0] at hta
        have hlast := hta.last
        have hbown := HS.out.bown
        have hLl : (lowP ps).length = L := by rw [lowP_len, hL]
        rw [hLl] at hbown
        have hrb := own_reads' hbown
        have hdec : decI V.toNat ≠ [] := fun e => by have h := decI_val V.toNat; rw [e] at h; simp [horner] at h; omega
        have hrev : (lowP ps).reverse = outP ps := by unfold lowP; rw [List.reverse_reverse]
        rw [← hrev] at hlast
        rw [← hlast] at hdec
        have hbel := HS.out.bel
        have hboxw := HS.out.box
        clear HS hta hrev hbown hzs0 hkz
        generalize lowP ps = bs at *
        have hL0 : 0 < L := by
          rcases Nat.eq_zero_or_pos L with e | e
          · exfalso
            have : bs = [] := List.length_eq_zero_iff.1 (by omega)
            rw [this] at hdec
            exact hdec rfl
          · exact e
        have hcs : CutAt bs L := by rw [← hLl]; exact CutAt.start bs (by omega)
        have Hcs := Lib.hid hcs; have Hbl := Lib.hid hLl; have Hrb := Lib.hid hrb; have Hlast := Lib.hid hlast; have Hdec := Lib.hid hdec; have Hbel := Lib.hid hbel; have Hbox := Lib.hid hboxw
        clear hcs hLl hrb hlast hdec hbel hboxw hL
        go_upto_block 6 with (fail)
        go_cut [8] (fun nv wc => ∃ m : Nat, nv = .int .i64 m ∧ Hid (0 < m ∧ m ≤ L ∧ (bs.take m).reverse = decI V.toNat) ∧ ∃ q, wc = wr.drewN q)
        case first =>
          go_wp2
          go_loopw [8] (fun nv wr2 => ∃ (m q : Nat), nv = .int .i64 m ∧ Hid (CutAt bs m) ∧ wr2 = wr.drewN q) (fun nv _ => (intOf nv).toNat)
          case atStart => exact ⟨L, 0, rfl, Hcs, rfl⟩
          case round =>
            obtain ⟨m, q, rfl, HC, rfl⟩ := hrel
            clear Hcs
            have hmp := HC.out.pos
            have hml := HC.out.le
            rw [Hbl.out] at hml
            obtain ⟨m, rfl⟩ : ∃ k, m = k + 1 := ⟨m - 1, by omega⟩
            obtain ⟨ad, rfl, hcell⟩ := Hrb.out.at_ (m : Int) (by omega) (by omega)
            rw [Int.toNat_natCast] at hcell
            by_cases hm0 : 0 < m
            · have p1 : (1 : Int) < (m : Int) + 1 := by omega
              by_cases hz : rd bs m = 48
              · have Hst4 := Lib.hid (HC.out.step hm0 hz)
                have hz' : (rd bs m == 48) = true := beq_iff_eq.2 hz
                clear hz HC
                go_wp2
                go_roundw
                case rel => exact ⟨m, _, by go_num, Hst4, rfl⟩
                case measure => simp [intOf]
              · have hd := HC.out.done (.inr (by rw [show ((m + 1 : Nat) : Int) - 1 = (m : Int) by omega]; exact hz)) Hdec.out
                have hz' : (rd bs m == 48) = false := beq_eq_false_iff_ne.2 hz
                have Hd := Lib.hid (show 0 < m + 1 ∧ m + 1 ≤ L ∧ (bs.take (m + 1)).reverse = decI V.toNat from ⟨by omega, hml, hd.trans Hlast.out⟩)
                clear hz HC hd
                go_wp2
                go_meet
                exact ⟨m + 1, rfl, Hd, _, rfl⟩
            · obtain rfl : m = 0 := by omega
              have hd := HC.out.done (.inl (by omega)) Hdec.out
              have Hd := Lib.hid (show 0 < 0 + 1 ∧ 0 + 1 ≤ L ∧ (bs.take (0 + 1)).reverse = decI V.toNat from ⟨by omega, hml, hd.trans Hlast.out⟩)
              clear HC hd
              go_wp2
              go_meet
              exact ⟨0 + 1, rfl, Hd, _, rfl⟩
        case rest =>
          obtain ⟨m, rfl, HM, q, rfl⟩ := hcut
          obtain ⟨hm0, hmL, hds⟩ := HM.out
          obtain ⟨Wb, hWb⟩ : ∃ Wb, Wb = wr.drewN q := ⟨_, rfl⟩
          have hbb : Below w.heap.size w Wb := by rw [hWb]; exact pw_below_drewN Hbel.out q
          have hbxb : Wb.heap[w.heap.size]? = some (.cells #[.bool R, .slice A' t c'] 24 (0, 0)) := by rw [hWb]; exact blk_drewN Hbox.out q
          have hrbb : ReadsInt Wb .u8 A4 L bs := Hrb.out.below (by rw [hWb]; exact pw_below_drewN (Below.refl _ _) q)
          rw [← hWb]
          have hx0 := blk_cell hbxb 0
          obtain ⟨ds, hds2⟩ : ∃ ds, ds = bs.take m := ⟨_, rfl⟩
          have hdl : ds.length = m := by rw [hds2, List.length_take, Hbl.out]; omega
          have hdr : ∀ j : Nat, j < m → rd ds (j : Int) = rd bs (j : Int) := fun j hj => by
            unfold rd
            rw [Int.toNat_natCast, List.getD_eq_getElem?_getD, List.getD_eq_getElem?_getD, hds2, List.getElem?_take_of_lt hj]
          rw [← hds2] at hds
          obtain ⟨pre, hpre⟩ : ∃ pre : List Int, pre = if R then [45] else [] := ⟨_, rfl⟩
          have hfin : T = pre ++ ds.reverse := by rw [Htx.out, hds, hpre]
          have hbyt : Byt T := by
            rw [hfin, hds, hpre]
            intro d hd
            rcases List.mem_append.1 hd with hd | hd
            · cases R <;> simp at hd
              omega
            · exact (decI_digs _).byt d hd
          have Hrbb := Lib.hid hrbb; have Hbb := Lib.hid hbb; have Hdl := Lib.hid hdl; have Hdr := Lib.hid hdr; have Hfin := Lib.hid hfin; have Hbyt := Lib.hid hbyt; have Hpre := Lib.hid hpre
          clear hWb hbb hbxb hrbb hds hds2 hdl hdr hpre hfin hbyt Hrb Hbel Hbox Hlast Hdec Hcs Htx HM
          have hL8 : L ≤ 2000000 := by omega
          have hst0 : ∃ pl, pre.length = pl ∧ pl ≤ 1 := ⟨_, rfl, by rw [Hpre.out]; cases R <;> simp⟩
          obtain ⟨pl, hpl, hpl1⟩ := hst0
          have Hpl := Lib.hid hpl; clear hpl
          cases R
          case' false =>
            have hp0 : pre = [] := by rw [Hpre.out]; rfl
            have hpl0 : pl = 0 := by rw [← Hpl.out, hp0]; rfl
            have Hst9 := Lib.hid (show RtO Wb pre (.slice none 0 0) Wb from ⟨by rw [hp0]; exact own_nil _ _ _ _, Below.refl _ _⟩)
            clear hp0
            go_wp2
          case' true =>
            have hp0 : pre = [45] := by rw [Hpre.out]; rfl
            have hpl0 : pl = 1 := by rw [← Hpl.out, hp0]; rfl
            have Hp0 := Lib.hid hp0
            clear hp0
            go_wp2_with (at_builtin; refine print_append_num (w0 := Wb) Wb.heap.size rfl _ _ 70 5 .u8 1 rfl Tryd.underlying70 infoByte (by decide) (.slice none 0 0) [] 45 rfl rfl (own_nil _ _ _ _) (Below.refl _ _) (Nat.le_refl _) (by simp) ?_; intro v1 W6 h1 h2 h3 _; have Hst9 := Lib.hid (show RtO Wb pre v1 W6 from by rw [Hp0.out]; exact ⟨h1, h2⟩); obtain ⟨A7, c7, rfl⟩ := own_slice h1; clear h1 h2 h3)
          all_goals
            go_loopw [9, 10] (fun ov iv wr2 => ∃ (i ol c9 : Nat) (z : Int) (A9 : Option Addr) (os : List Int), i ≤ m ∧ z + 1 = (i : Int) ∧ ov = .slice A9 ol c9 ∧ iv = .int .i64 z ∧ ol + i = pl + m ∧ Hid (os = pre ++ (ds.drop i).reverse) ∧ Hid (os.length = ol) ∧ Hid (RtO Wb os (.slice A9 ol c9) wr2)) (fun _ iv _ => (intOf iv + 1).toNat)
            case atStart =>
              have hd0 : pre = pre ++ (ds.drop m).reverse := by rw [List.drop_eq_nil_of_le (by rw [Hdl.out]; exact Nat.le_refl _)]; simp
              subst hpl0
              exact ⟨m, _, _, _, _, pre, Nat.le_refl _, by omega, rfl, rfl, rfl, Lib.hid hd0, Hpl, Hst9⟩
            case round =>
              obtain ⟨i, ol, c9, z, A9, os, hi, hz, rfl, rfl, hol, HO, Hol, HR⟩ := hrel
              clear Hst9
              cases i with
              | zero =>
                obtain rfl : z = -1 := by omega
                have hos : os = T := by rw [Hfin.out, HO.out, List.drop_zero]
                have hown := HR.out.own
                rw [Hol.out] at hown
                obtain ⟨g9, c8, hv9, hg9, _⟩ := hown.form (by omega)
                obtain ⟨rfl, _, rfl⟩ := Value.slice.inj hv9
                have hcv := out_string hown (by rw [hos]; exact Hbyt.out) Hol.out
                rw [hos] at hcv
                have hBz := below_then Hbb.out Hbb.out.size HR.out.bel
                have HBz := Lib.hid hBz
                clear hown hv9 hg9 hos hBz
                go_wp2
                go_ret
                exact ⟨rfl, HBz.out⟩
              | succ j =>
                obtain rfl : z = (j : Int) := by omega
                obtain ⟨ad, rfl, hcell⟩ := (Hrbb.out.below HR.out.bel).at_ (j : Int) (by omega) (by omega)
                rw [Int.toNat_natCast] at hcell
                have hnew : os ++ [rd bs (j : Int)] = pre ++ (ds.drop j).reverse := by
                  have e := Dv.drop_rd (xs := ds) (k := j) (by rw [Hdl.out]; omega)
                  rw [e, List.reverse_cons, HO.out, Hdr.out j (by omega), List.append_assoc]
                obtain ⟨x, hx⟩ : ∃ x, x = rd bs (j : Int) := ⟨_, rfl⟩
                rw [← hx] at hcell hnew
                have Hnew := Lib.hid hnew
                have Hown := Lib.hid HR.out.own; have HB := Lib.hid HR.out.bel; have HBs := Lib.hid HR.out.bel.size
                have p0 : (0 : Int) ≤ (j : Int) := by omega
                have p1 : (j : Int) < (L : Int) := by omega
                clear hx hnew hz
                go_wp2_with (at_builtin; refine print_append_num (w0 := Wb) Wb.heap.size rfl _ _ 70 5 .u8 1 rfl Tryd.underlying70 infoByte (by decide) (.slice A9 ol c9) os x rfl rfl Hown.out HB.out HBs.out (by rw [Hol.out]; omega) ?_; intro v1 W6 h1 h2 h3 _; have HT6 := Lib.hid (show RtO Wb (os ++ [x]) v1 W6 from ⟨h1, h2⟩); obtain ⟨A7, c7, rfl⟩ := own_slice h1; clear h1 h2 h3)
                go_roundw
                case rel =>
                  have hl1 : (os ++ [x]).length = ol + 1 := by rw [List.length_append, Hol.out]; rfl
                  have h6 := HT6.out
                  rw [hl1] at h6
                  exact ⟨j, ol + 1, c7, _, A7, os ++ [x], by omega, by omega, by rw [show os.length + 1 = ol + 1 by rw [Hol.out]], rfl, by omega, Hnew, Lib.hid hl1, Lib.hid h6⟩
                case measure => simp [intOf]
end Go.Proofs.YtiofeehcnegejaaDoor
