/- The document's own Parse. -/
import Derived.Test.YtiofeehcnegejaaDoorRdA
namespace Go.Proofs.YtiofeehcnegejaaDoor
open Go.RowKit Go.Proofs.YtiofeehcnegejaaDoorW.PrintWords
set_option linter.unusedVariables false
set_option linter.unusedSimpArgs false

/-- At the head of the loop that reckons. -/
structure RefW (w : World) (d : ByteArray) (A : Option Addr) (c : Nat) (xs : List Int) (k : Nat) (wr : World) : Prop where
  rd : ReadsInt wr .u32 A xs.length xs
  le : xs.length ≤ c
  bel : Below w.heap.size w wr
  box : wr.heap[w.heap.size]? = some (.cells #[.bool false, .slice none 0 0] 24 (0, 0))
  wd : Dv.Wd xs
  len : xs.length ≤ 256
  tr : trimLen xs = xs.length
  val : Dv.valW xs = valD d k

def BadHead (d : ByteArray) (neg : Bool) : Prop := d.size = 0 ∨ (bt d 0 = 48 ∧ (neg = true ∨ 1 < d.size))
theorem not_bad {d : ByteArray} {neg : Bool} (h : ¬ BadHead d neg) (h2 : DigB d d.size) : ¬ BadD d neg := fun e => by
  rcases e with e | e | e
  · exact h (.inl e)
  · exact h (.inr e)
  · exact e h2
/-- What a round leaves. -/
def RefStep (w : World) (d : ByteArray) (k : Nat) (n3 c3 : Nat) (A3 : Option Addr) (W3 : World) : Prop := ∃ xs : List Int, n3 = xs.length ∧ (Below w.heap.size w W3 ∧ W3.heap[w.heap.size]? = some (.cells #[.bool false, .slice none 0 0] 24 (0, 0))) ∧ (256 < n3 → tooBig ≤ valD d (k + 1)) ∧ (n3 ≤ 256 → RefW w d A3 c3 xs (k + 1) W3)
theorem ref_step {w wr W2 W3 : World} {d : ByteArray} {A : Option Addr} {c k : Nat} {xs z2 : List Int} {v3 : Value} {dg : Int} (HW : RefW w d A c xs k wr) (hvd : valD d (k + 1) = valD d k * 10 + dg) (hb : Below wr.heap.size wr W2) (hb3 : Below W2.heap.size W2 W3) (ho : Own32 W3 W2.heap.size v3 (z2.take (trimLen z2))) (hw2 : Dv.Wd z2) (hv2 : Dv.valW z2 = Dv.valW xs * 10 + dg) :
    ∃ n3 A3 c3, v3 = .slice A3 n3 c3 ∧ RefStep w d k n3 c3 A3 W3 := by
  unfold Own32 at ho
  obtain ⟨A3, c3, rfl⟩ := own_slice ho
  have hB0 := below_then hb hb.size hb3
  refine ⟨_, A3, c3, rfl, z2.take (trimLen z2), rfl, ⟨below_then HW.bel HW.bel.size hB0, blk_below HW.box hB0⟩, fun h => ?_, fun h => ?_⟩
  · have hl : (z2.take (trimLen z2)).length = trimLen z2 := by rw [List.length_take]; have := trimLen_le z2; omega
    rw [hl] at h
    rw [hvd, ← HW.val, ← hv2]
    exact (small_iff hw2).2 h
  · have hB := below_then hb hb.size hb3
    exact ⟨own_reads' ho, own_le ho, below_then HW.bel HW.bel.size hB, blk_below HW.box hB, hw2.take _, h, by rw [trim_idem, List.length_take]; have := trimLen_le z2; omega, by rw [valW_trim, hv2, hvd, HW.val]⟩

theorem val_ten {z1 xs : List Int} (h : Dv.valW z1 = Dv.valW xs * Dv.valW [10]) : Dv.valW z1 = Dv.valW xs * 10 := by simpa [Dv.valW] using h
theorem val_plus {z1 z2 xs : List Int} {x : Int} (h : Dv.valW z2 = Dv.valW z1 + Dv.valW [x]) (h1 : Dv.valW z1 = Dv.valW xs * 10) : Dv.valW z2 = Dv.valW xs * 10 + x := by rw [h, h1]; simp [Dv.valW]
theorem ref_ans {w wr W5 : World} {d : ByteArray} {neg : Bool} {A A5 : Option Addr} {c c5 B : Nat} {xs : List Int} {k : Nat} (HW : RefW w d A c xs k wr) (ho : W5.ownsRow B 62 1 (.slice A5 xs.length c5) xs.length (nums .u32 xs)) :
    AnsIs W5 (neg && decide (0 < xs.length)) A5 xs.length c5 0 (sgnI neg (valD d k)) := by
  have h := (small_iff HW.wd).1 (by rw [HW.tr]; exact HW.len)
  have h0 := Dv.valW_nonneg HW.wd
  rw [← HW.val]
  refine .inr ⟨rfl, by unfold sgnI; cases neg <;> simp <;> omega, by unfold sgnI; cases neg <;> simp <;> omega, xs, rfl, own_le ho, HW.len, own_reads' ho, HW.wd, HW.tr, fun e => ?_, ?_⟩
  · rw [Bool.and_eq_true] at e; simpa using e.2
  · unfold vI sgnI
    by_cases hz : xs.length = 0
    · have : xs = [] := List.length_eq_zero_iff.1 hz
      subst this; cases neg <;> simp [Dv.valW]
    · have : decide (0 < xs.length) = true := by simp; omega
      rw [this, Bool.and_true]

set_option maxRecDepth 100000 in
set_option maxHeartbeats 4000000 in
theorem refParse_any (s d : ByteArray) (neg : Bool) (w : World) (hsz : d.size ≤ 3000) (hsd : if neg then ∃ h : 0 < s.size, ((s[0]'h).toNat : Int) = 45 ∧ s.extract 1 s.size = d else d = s ∧ (s.size = 0 ∨ ∃ h : 0 < s.size, ((s[0]'h).toNat : Int) ≠ 45)) :
    Calls Tryd.prog 17 #[.string s] w (ParsePost w d neg) := by
  obtain ⟨W0, hW0⟩ : ∃ W0, W0 = w.alloc (.cells #[.bool false, .slice none 0 0] 24) := ⟨_, rfl⟩
  have hb0 : Below w.heap.size w W0 := by rw [hW0]; exact below_alloc (Below.refl _ _) _
  have hk0 : W0.heap[w.heap.size]? = some (.cells #[.bool false, .slice none 0 0] 24 (0, 0)) := by rw [hW0]; exact blk_new _ _
  have r0 := blk_cell hk0 0; have r1 := blk_cell hk0 1; have f0 := blk_frozen hk0 0; have f1 := blk_frozen hk0 1
  have HW0 := Lib.hid hW0; have HB0 := Lib.hid hb0; have HK0 := Lib.hid hk0
  have hbz : Below w.heap.size w ((W0.setCell ⟨w.heap.size, 0, none⟩ (.bool false)).setCell ⟨w.heap.size, 1, none⟩ (.slice none 0 0)) := (hb0.setCell (p := ⟨w.heap.size, 0, none⟩) (Nat.le_refl _) _).setCell (p := ⟨w.heap.size, 1, none⟩) (Nat.le_refl _) _
  have HBz := Lib.hid hbz
  clear hW0 hb0 hk0 hbz
  cases neg with
  | true =>
    obtain ⟨hp, h45, hex⟩ : ∃ h : 0 < s.size, ((s[0]'h).toNat : Int) = 45 ∧ s.extract 1 s.size = d := by simpa using hsd
    have e1 : ¬ s.toList = [] := fun e => absurd hp (by have := congrArg List.length e; rw [ByteArray.toList_eq] at this; have h2 : s.size = 0 := (by simpa using this); omega)
    have e2 : s.toList.isEmpty = false := by rw [List.isEmpty_eq_false_iff]; exact e1
    have q1 : (((s[0]'hp).toNat : Int) == 45) = true := beq_iff_eq.2 h45
    have hp' : (1 : Int) ≤ (s.size : Int) := by omega
    clear hsd
    go_enter Tryd.func17, Tryd.ntmps17
    go_upto_region 1 with (fail)
    rw [← HW0.out]
    go_upto_region 6 with (fail)
    clear q1 e1 e2
    have hz0 : ∀ (n : Nat), n ≤ d.size → True := fun _ _ => trivial
    clear hz0
    by_cases hz : d.size = 0
    · have g1 : d.toList = [] := by rw [ByteArray.toList_eq]; exact List.length_eq_zero_iff.1 (by simpa using hz)
      have g2 : d.toList.isEmpty = true := by rw [g1]; rfl
      have Hbad := Lib.hid (show BadD d true from .inl hz)
      clear g1
      go_wp2
      refine bodyPost_ret (results_ct rfl _ _ w.heap.size 24 #[.bool false, .slice none 0 0] (0, 0) _ rfl (blk_put (cs := #[.bool false, .slice none 0 0]) (blk_put (cs := #[.bool false, .slice none 0 0]) HK0.out 0 _ rfl) 1 _ rfl) Tryd.underlying24 rfl (by kernel_rfl)) rfl ?_
      exact refuse HB0.out (.inl ⟨rfl, Hbad.out⟩) _ HBz.out
    · have hpd : 0 < d.size := by omega
      have g1 : ¬ d.toList = [] := fun e => hz (by have := congrArg List.length e; rw [ByteArray.toList_eq] at this; simpa using this)
      have g2 : d.toList.isEmpty = false := by rw [List.isEmpty_eq_false_iff]; exact g1
      have hb0 : bt d 0 = ((d[0]'hpd).toNat : Int) := bt_eq (k := 0) hpd
      have Hb0 := Lib.hid hb0; clear hb0
      by_cases hx : ((d[0]'hpd).toNat : Int) = 48 ∧ (true = true ∨ 1 < d.size)
      · have Hbad := Lib.hid (show BadD d true from .inr (.inl ⟨by rw [Hb0.out]; exact hx.1, hx.2⟩))
        have qx : (((d[0]'hpd).toNat : Int) == 48) = true := beq_iff_eq.2 hx.1
        clear hx
        go_wp2
        refine bodyPost_ret (results_ct rfl _ _ w.heap.size 24 #[.bool false, .slice none 0 0] (0, 0) _ rfl (blk_put (cs := #[.bool false, .slice none 0 0]) (blk_put (cs := #[.bool false, .slice none 0 0]) HK0.out 0 _ rfl) 1 _ rfl) Tryd.underlying24 rfl (by kernel_rfl)) rfl ?_
        exact refuse HB0.out (.inl ⟨rfl, Hbad.out⟩) _ HBz.out
      · have Hg2 := Lib.hid (show ¬ BadHead d true from fun h => h.elim hz (fun h => hx (by rw [Hb0.out] at h; exact h)))
        have qx : (((d[0]'hpd).toNat : Int) == 48) = false := beq_eq_false_iff_ne.2 (fun h => hx ⟨h, .inl rfl⟩)
        clear hx
        all_goals
          go_wp2
          go_loop [6] (fun iv => ∃ k : Nat, k ≤ d.size ∧ iv = .int .i64 k ∧ Hid (DigB d k)) (fun iv => d.size - (intOf iv).toNat)
          case atStart => exact ⟨0, Nat.zero_le _, rfl, Lib.hid fun j hj => by omega⟩
          case round =>
            obtain ⟨k, hk, rfl, HD⟩ := hrel
            by_cases hlt : k < d.size
            · have hb := bt_eq hlt
              have Hb := Lib.hid hb; clear hb
              have p1 : (k : Int) < (d.size : Int) := by omega
              have u0 : (0 : Int) ≤ ((d[k]'hlt).toNat : Int) := by omega
              have u1 : ((d[k]'hlt).toNat : Int) ≤ 255 := by have := bt_range d (k : Nat); rw [Hb.out] at this; omega
              by_cases hd : 48 ≤ ((d[k]'hlt).toNat : Int) ∧ ((d[k]'hlt).toNat : Int) ≤ 57
              · obtain ⟨d0, d1⟩ := hd
                have q1 : decide (((d[k]'hlt).toNat : Int) < 48) = false := by simp; omega
                have q2 : decide (57 < ((d[k]'hlt).toNat : Int)) = false := by simp; omega
                have HD2 := Lib.hid (HD.out.succ (by rw [Hb.out]; exact d0) (by rw [Hb.out]; exact d1))
                go_wp2
                go_round
                case rel => exact ⟨k + 1, by omega, by go_num, HD2⟩
                case measure => simp [intOf]; omega
              · have hbad : BadD d true := .inr (.inr fun h => by have := h k hlt; rw [Hb.out] at this; exact hd this)
                have Hbad := Lib.hid hbad
                clear hbad
                by_cases h48 : ((d[k]'hlt).toNat : Int) < 48
                · have q1 : decide (((d[k]'hlt).toNat : Int) < 48) = true := by simpa using h48
                  go_wp2
                  refine bodyPost_ret (results_ct rfl _ _ w.heap.size 24 #[.bool false, .slice none 0 0] (0, 0) _ rfl (blk_put (cs := #[.bool false, .slice none 0 0]) (blk_put (cs := #[.bool false, .slice none 0 0]) HK0.out 0 _ rfl) 1 _ rfl) Tryd.underlying24 rfl (by kernel_rfl)) rfl ?_
                  exact refuse HB0.out (.inl ⟨rfl, Hbad.out⟩) _ HBz.out
                · have h57 : 57 < ((d[k]'hlt).toNat : Int) := by omega
                  have q1 : decide (((d[k]'hlt).toNat : Int) < 48) = false := by simpa using h48
                  have q2 : decide (57 < ((d[k]'hlt).toNat : Int)) = true := by simpa using h57
                  go_wp2
                  refine bodyPost_ret (results_ct rfl _ _ w.heap.size 24 #[.bool false, .slice none 0 0] (0, 0) _ rfl (blk_put (cs := #[.bool false, .slice none 0 0]) (blk_put (cs := #[.bool false, .slice none 0 0]) HK0.out 0 _ rfl) 1 _ rfl) Tryd.underlying24 rfl (by kernel_rfl)) rfl ?_
                  exact refuse HB0.out (.inl ⟨rfl, Hbad.out⟩) _ HBz.out
            · have hkn : k = d.size := by omega
              have HDn := Lib.hid (show DigB d d.size by rw [← hkn]; exact HD.out)
              have Hgood := Lib.hid (not_bad Hg2.out HDn.out)
              subst hkn
              clear HD hlt hk
              go_wp2
              have Hst := Lib.hid (show RefW w d none 0 [] 0 W0 from ⟨ReadsInt.nil _ _, Nat.le_refl _, HB0.out, HK0.out, (fun x hx => by cases hx), by simp, rfl, by simp [Dv.valW, valD_zero]⟩)
              clear r0 r1 f0 f1
              go_loopw [7, 8] (fun mv iv wr => ∃ (k c : Nat) (A : Option Addr) (xs : List Int), k ≤ d.size ∧ mv = .slice A xs.length c ∧ iv = .int .i64 k ∧ Hid (RefW w d A c xs k wr)) (fun _ iv _ => d.size - (intOf iv).toNat)
              case atStart => exact ⟨0, 0, none, [], Nat.zero_le _, rfl, rfl, Hst⟩
              case round =>
                obtain ⟨k, c, A, xs, hk, rfl, rfl, HW⟩ := hrel
                clear Hst
                by_cases hlt : k < d.size
                · have hdg := HDn.out k hlt
                  rw [bt_eq hlt] at hdg
                  obtain ⟨u0, u1⟩ := hdg
                  have p1 : (k : Int) < (d.size : Int) := by omega
                  have w1 : IntKind.u8.wrap (((d[k]'hlt).toNat : Int) - 48) = ((d[k]'hlt).toNat : Int) - 48 := by rw [IntKind.wrap_u8]; omega
                  have hvd : valD d (k + 1) = valD d k * 10 + (((d[k]'hlt).toNat : Int) - 48) := by rw [valD_succ, bt_eq hlt]
                  have Hvd := Lib.hid hvd
                  clear hvd
                  obtain ⟨x, hxd⟩ : ∃ x : Int, x = ((d[k]'hlt).toNat : Int) - 48 := ⟨_, rfl⟩
                  have x0 : 0 ≤ x := by omega
                  have x1 : x ≤ 9 := by omega
                  have hd10 : Dv.Wd [10] := fun y hy => by simp at hy; omega
                  have hdx : Dv.Wd [x] := fun y hy => by simp at hy; omega
                  have hrd := HW.out.rd
                  have hle := HW.out.len
                  have Hvd2 := Lib.hid (show valD d (k + 1) = valD d k * 10 + x by rw [Hvd.out, hxd])
                  obtain ⟨xl, hxl⟩ : ∃ xl, xl = xs.length := ⟨_, rfl⟩
                  rw [← hxl] at hrd hle ⊢
                  have hb1 : ∀ o, Below wr.heap.size wr (wr.alloc o).drew := fun o => below_drew (below_alloc (Below.refl _ _) o)
                  have hb2 : ∀ o o', Below wr.heap.size wr ((wr.alloc o).alloc o').drew := fun o o' => below_drew (below_alloc (below_alloc (Below.refl _ _) o) o')
                  have rT : ∀ (W : World) y, ReadsInt (W.alloc (.cells #[.int .u32 y] 62)) .u32 (some ⟨W.heap.size, 0, none⟩) 1 [y] := fun W y => blk_reads (ys := [y]) (blk_new W (.cells #[.int .u32 y] 62)) (by simp)
                  have hs1 : ∀ o, (wr.alloc o).heap.size = wr.heap.size + 1 := fun o => World.size_alloc _ _
                  have HTA := Lib.hid (times_any A (some ⟨wr.heap.size, 0, none⟩) xl 1 c 1 xs [10] (wr.alloc (.cells #[.int .u32 10] 62)).drew HW.out.wd hd10 (hrd.below (hb1 _)) (rT wr 10) (by omega) (by omega))
                  have HTB := Lib.hid (times_any A (some ⟨wr.heap.size, 0, none⟩) xl 1 c 1 xs [10] ((wr.alloc (.cells #[.int .u32 10] 62)).alloc (.cells #[.int .u32 x] 62)).drew HW.out.wd hd10 (hrd.below (hb2 _ _)) ((rT wr 10).below (below_drew (below_alloc (Below.refl _ _) _))) (by omega) (by omega))
                  have HTC := Lib.hid (times_any A (some ⟨wr.heap.size + 1, 0, none⟩) xl 1 c 1 xs [10] ((wr.alloc (.cells #[.int .u32 x] 62)).alloc (.cells #[.int .u32 10] 62)).drew HW.out.wd hd10 (hrd.below (hb2 _ _)) (by have h := rT (wr.alloc (.cells #[.int .u32 x] 62)) 10; rw [hs1] at h; exact h) (by omega) (by omega))
                  have HrB := Lib.hid (show ReadsInt ((wr.alloc (.cells #[.int .u32 10] 62)).alloc (.cells #[.int .u32 x] 62)).drew .u32 (some ⟨wr.heap.size + 1, 0, none⟩) 1 [x] by have h := rT (wr.alloc (.cells #[.int .u32 10] 62)) x; rw [hs1] at h; exact h)
                  have HrC := Lib.hid (show ReadsInt ((wr.alloc (.cells #[.int .u32 x] 62)).alloc (.cells #[.int .u32 10] 62)).drew .u32 (some ⟨wr.heap.size, 0, none⟩) 1 [x] from (rT wr x).below (below_drew (below_alloc (Below.refl _ _) _)))
                  have Hb1 := Lib.hid hb1; have Hb2 := Lib.hid hb2; have HrT := Lib.hid rT; have Hdx := Lib.hid hdx; have Hxl := Lib.hid hxl; have Hxd := Lib.hid hxd.symm
                  have hxd' := hxd.symm
                  clear hb1 hb2 rT hs1 hdx hd10 hrd hxl hxd u0 u1 w1
                  have w2 : IntKind.u8.wrap (((d[k]'hlt).toNat : Int) - 48) = x := by rw [hxd']; rw [IntKind.wrap_u8]; omega
                  have w3 : IntKind.u32.wrap x = x := by rw [IntKind.wrap_u32]; omega
                  have w4 : IntKind.u8.wrap x = x := by rw [IntKind.wrap_u8]; omega
                  go_upto_region 17 with (fail)
                  go_region_with (first | (go_at_call 49; with_reducible refine HT3.out.mono ?_; rintro e W3 ⟨v3, rfl, ho3, hb3⟩; obtain ⟨n3, A3, c3, rfl, hst⟩ := ref_step HW.out Hvd2.out HB2.out hb3 ho3 Hw2.out Hv2.out; have HSt := Lib.hid hst; clear ho3 hb3 hst) | (go_at_call 50; have HN_ := HPA; with_reducible refine HPA.out.mono ?_; rintro e W2 ht2; unfold PlusPost at ht2; obtain ⟨v2, z2, rfl, ho2, hbb2, hw2, hv2, hl2⟩ := ht2; unfold Own32 at ho2; obtain ⟨A2, c2, rfl⟩ := own_slice ho2; have HB2 := Lib.hid (below_then (below_then HB1.out HB1.out.size (below_alloc (Below.refl _ _) (.cells #[.int .u32 x] 62))) (Nat.le_trans HB1.out.size (by simp)) hbb2); have Hv2 := Lib.hid (val_plus hv2 Hv1.out); have Hw2 := Lib.hid hw2; have HT3 := Lib.hid (refTrim_any A2 z2.length c2 z2 W2 (own_reads' ho2) (own_le ho2) (by have h := Hl1.out; rw [← Hxl.out] at h; simp at h hl2; omega)); clear ho2 hbb2 hw2 hv2 hl2) | (go_at_call 50; have HN_ := HPB; with_reducible refine HPB.out.mono ?_; rintro e W2 ht2; unfold PlusPost at ht2; obtain ⟨v2, z2, rfl, ho2, hbb2, hw2, hv2, hl2⟩ := ht2; unfold Own32 at ho2; obtain ⟨A2, c2, rfl⟩ := own_slice ho2; have HB2 := Lib.hid (below_then HB1.out HB1.out.size hbb2); have Hv2 := Lib.hid (val_plus hv2 Hv1.out); have Hw2 := Lib.hid hw2; have HT3 := Lib.hid (refTrim_any A2 z2.length c2 z2 W2 (own_reads' ho2) (own_le ho2) (by have h := Hl1.out; rw [← Hxl.out] at h; simp at h hl2; omega)); clear ho2 hbb2 hw2 hv2 hl2) | (go_at_call 50; have HN_ := HPC; with_reducible refine HPC.out.mono ?_; rintro e W2 ht2; unfold PlusPost at ht2; obtain ⟨v2, z2, rfl, ho2, hbb2, hw2, hv2, hl2⟩ := ht2; unfold Own32 at ho2; obtain ⟨A2, c2, rfl⟩ := own_slice ho2; have HB2 := Lib.hid (below_then HB1.out HB1.out.size hbb2); have Hv2 := Lib.hid (val_plus hv2 Hv1.out); have Hw2 := Lib.hid hw2; have HT3 := Lib.hid (refTrim_any A2 z2.length c2 z2 W2 (own_reads' ho2) (own_le ho2) (by have h := Hl1.out; rw [← Hxl.out] at h; simp at h hl2; omega)); clear ho2 hbb2 hw2 hv2 hl2) | (go_at_call 51; have HN_ := HTA; with_reducible refine HTA.out.mono ?_; rintro e W1 ht1; unfold TimesPost at ht1; obtain ⟨v1, z1, rfl, ho1, hbb1, hw1, hv1, hl1⟩ := ht1; unfold Own32 at ho1; obtain ⟨A1, c1, rfl⟩ := own_slice ho1; have HB1 := Lib.hid (below_then (Hb1.out _) (Hb1.out _).size hbb1); have Hv1 := Lib.hid (val_ten hv1); have HPA := Lib.hid (plus_any A1 (some ⟨W1.heap.size, 0, none⟩) z1.length 1 c1 1 z1 [x] (W1.alloc (.cells #[.int .u32 x] 62)) hw1 Hdx.out ((own_reads' ho1).below (below_alloc (Below.refl _ _) _)) (HrT.out W1 x) (by rw [hl1, ← Hxl.out]; simp; omega) (by omega)); have Hl1 := Lib.hid hl1; clear ho1 hbb1 hw1 hv1 hl1) | (go_at_call 51; have HN_ := HTB; with_reducible refine HTB.out.mono ?_; rintro e W1 ht1; unfold TimesPost at ht1; obtain ⟨v1, z1, rfl, ho1, hbb1, hw1, hv1, hl1⟩ := ht1; unfold Own32 at ho1; obtain ⟨A1, c1, rfl⟩ := own_slice ho1; have HB1 := Lib.hid (below_then (Hb2.out _ _) (Hb2.out _ _).size hbb1); have Hv1 := Lib.hid (val_ten hv1); have HPB := Lib.hid (plus_any A1 (some ⟨wr.heap.size + 1, 0, none⟩) z1.length 1 c1 1 z1 [x] W1 hw1 Hdx.out (own_reads' ho1) (HrB.out.below hbb1) (by rw [hl1, ← Hxl.out]; simp; omega) (by omega)); have Hl1 := Lib.hid hl1; clear ho1 hbb1 hw1 hv1 hl1) | (go_at_call 51; have HN_ := HTC; with_reducible refine HTC.out.mono ?_; rintro e W1 ht1; unfold TimesPost at ht1; obtain ⟨v1, z1, rfl, ho1, hbb1, hw1, hv1, hl1⟩ := ht1; unfold Own32 at ho1; obtain ⟨A1, c1, rfl⟩ := own_slice ho1; have HB1 := Lib.hid (below_then (Hb2.out _ _) (Hb2.out _ _).size hbb1); have Hv1 := Lib.hid (val_ten hv1); have HPC := Lib.hid (plus_any A1 (some ⟨wr.heap.size, 0, none⟩) z1.length 1 c1 1 z1 [x] W1 hw1 Hdx.out (own_reads' ho1) (HrC.out.below hbb1) (by rw [hl1, ← Hxl.out]; simp; omega) (by omega)); have Hl1 := Lib.hid hl1; clear ho1 hbb1 hw1 hv1 hl1))
                  all_goals
                    obtain ⟨x3, hx3, ⟨hB3, hK3⟩, hbig3, hok3⟩ := HSt.out
                    by_cases h3 : n3 ≤ 256
                    · have q3 : ¬ 256 < (n3 : Int) := by omega
                      have q4 : decide (256 < (n3 : Int)) = false := by simpa using q3
                      have HW3 := Lib.hid (hok3 h3)
                      have Hx3 := Lib.hid hx3
                      clear hbig3 hok3 hx3
                      go_wp2
                      go_roundw
                      case rel => exact ⟨k + 1, c3, A3, x3, by omega, by rw [← Hx3.out], by go_num, HW3⟩
                      case measure => simp [intOf]; omega
                    · have q3 : 256 < (n3 : Int) := by omega
                      have q4 : decide (256 < (n3 : Int)) = true := by simpa using q3
                      have Hbig := Lib.hid (show tooBig ≤ valD d d.size from Int.le_trans (hbig3 (by omega)) (by have h := valD_mono (d.size - (k + 1)) (k := k + 1) (d := d) (by rw [show k + 1 + (d.size - (k + 1)) = d.size by omega]; exact HDn.out); rw [show k + 1 + (d.size - (k + 1)) = d.size by omega] at h; exact h))
                      have r0 := blk_cell hK3 0; have r1 := blk_cell hK3 1; have f0 := blk_frozen hK3 0; have f1 := blk_frozen hK3 1
                      have HB3 := Lib.hid hB3; have HK3 := Lib.hid hK3
                      clear hbig3 hok3 hx3 h3 hB3 hK3
                      go_wp2
                      refine bodyPost_ret (results_ct rfl _ _ w.heap.size 24 #[.bool false, .slice none 0 0] (0, 0) _ rfl (blk_put (cs := #[.bool false, .slice none 0 0]) (blk_put (cs := #[.bool false, .slice none 0 0]) HK3.out 0 _ rfl) 1 _ rfl) Tryd.underlying24 rfl (by kernel_rfl)) rfl ?_
                      exact refuse HB3.out (.inr ⟨rfl, Hgood.out, Hbig.out⟩) _ ((HB3.out.setCell (p := ⟨w.heap.size, 0, none⟩) (Nat.le_refl _) _).setCell (p := ⟨w.heap.size, 1, none⟩) (Nat.le_refl _) _)
                · have hkn : k = d.size := by omega
                  subst hkn
                  clear hlt hk
                  have hmade := refMade_any true A xs.length c xs wr HW.out.rd HW.out.le (by have := HW.out.len; omega)
                  rw [HW.out.tr, List.take_of_length_le (Nat.le_refl _)] at hmade
                  have Hmade := Lib.hid hmade
                  clear hmade
                  go_wp2_with (go_at_call 52; refine Hmade.out.mono ?_; rintro e W5 ⟨v5, rfl, ho5, hb5⟩; have HB5 := Lib.hid (below_then HW.out.bel HW.out.bel.size hb5); have HK5 := Lib.hid (blk_below HW.out.box hb5); unfold Own32 at ho5; obtain ⟨A5, c5, rfl⟩ := own_slice ho5; have Ho5 := Lib.hid ho5; have r0 := blk_cell HK5.out 0; have r1 := blk_cell HK5.out 1; have f0 := blk_frozen HK5.out 0; have f1 := blk_frozen HK5.out 1; clear ho5 hb5)
                  have hans : AnsIs W5 (true && decide (0 < xs.length)) A5 xs.length c5 0 (sgnI true (valD d d.size)) := ref_ans HW.out Ho5.out
                  have k2 := blk_put (cs := #[.bool false, .slice none 0 0]) (cs' := #[.bool (true && decide (0 < xs.length)), .slice none 0 0]) HK5.out 0 _ rfl
                  refine bodyPost_ret (results_ct rfl _ _ w.heap.size 24 #[.bool (true && decide (0 < xs.length)), .slice A5 xs.length c5] (0, 0) _ (by simp) (blk_put (cs := #[.bool (true && decide (0 < xs.length)), .slice none 0 0]) (by simpa using k2) 1 _ rfl) Tryd.underlying24 rfl (by kernel_rfl)) rfl ?_
                  exact ⟨_, A5, _, c5, 0, rfl, (HB5.out.setCell (p := ⟨w.heap.size, 0, none⟩) (Nat.le_refl _) _).setCell (p := ⟨w.heap.size, 1, none⟩) (Nat.le_refl _) _, .inr ⟨Hgood.out, (hans.put HK5.out (no_words _ _ _ _) 0 _).put k2 (no_words _ _ _ _) 1 _⟩⟩
  | false =>
    obtain ⟨rfl, hsd⟩ : d = s ∧ (s.size = 0 ∨ ∃ h : 0 < s.size, ((s[0]'h).toNat : Int) ≠ 45) := by simpa using hsd
    by_cases hs0 : d.size = 0
    · have e1 : d.toList = [] := by rw [ByteArray.toList_eq]; exact List.length_eq_zero_iff.1 (by simpa using hs0)
      have e2 : d.toList.isEmpty = true := by rw [e1]; rfl
      have Hbad := Lib.hid (show BadD d false from .inl hs0)
      clear e1 hsd
      go_enter Tryd.func17, Tryd.ntmps17
      go_upto_region 1 with (fail)
      rw [← HW0.out]
      go_wp2
      refine bodyPost_ret (results_ct rfl _ _ w.heap.size 24 #[.bool false, .slice none 0 0] (0, 0) _ rfl (blk_put (cs := #[.bool false, .slice none 0 0]) (blk_put (cs := #[.bool false, .slice none 0 0]) HK0.out 0 _ rfl) 1 _ rfl) Tryd.underlying24 rfl (by kernel_rfl)) rfl ?_
      exact refuse HB0.out (.inl ⟨rfl, Hbad.out⟩) _ HBz.out
    · have hp : 0 < d.size := by omega
      have h45 : ((d[0]'hp).toNat : Int) ≠ 45 := by
        rcases hsd with h | ⟨_, h⟩
        · exact absurd h hs0
        · exact h
      have e1 : ¬ d.toList = [] := fun e => hs0 (by have := congrArg List.length e; rw [ByteArray.toList_eq] at this; simpa using this)
      have e2 : d.toList.isEmpty = false := by rw [List.isEmpty_eq_false_iff]; exact e1
      have q1 : (((d[0]'hp).toNat : Int) == 45) = false := beq_eq_false_iff_ne.2 h45
      clear hsd
      go_enter Tryd.func17, Tryd.ntmps17
      go_upto_region 1 with (fail)
      rw [← HW0.out]
      go_upto_region 6 with (fail)
      clear q1 e1 e2 h45 hs0
      have hz0 : ∀ (n : Nat), n ≤ d.size → True := fun _ _ => trivial
      clear hz0
      by_cases hz : d.size = 0
      · exact absurd hp (by omega)
      · have hpd : 0 < d.size := by omega
        have g1 : ¬ d.toList = [] := fun e => hz (by have := congrArg List.length e; rw [ByteArray.toList_eq] at this; simpa using this)
        have g2 : d.toList.isEmpty = false := by rw [List.isEmpty_eq_false_iff]; exact g1
        have hb0 : bt d 0 = ((d[0]'hpd).toNat : Int) := bt_eq (k := 0) hpd
        have Hb0 := Lib.hid hb0; clear hb0
        by_cases hx : ((d[0]'hpd).toNat : Int) = 48 ∧ (false = true ∨ 1 < d.size)
        · have Hbad := Lib.hid (show BadD d false from .inr (.inl ⟨by rw [Hb0.out]; exact hx.1, hx.2⟩))
          have qx : (((d[0]'hpd).toNat : Int) == 48) = true := beq_iff_eq.2 hx.1
          have qs : decide (1 < (d.size : Int)) = true := by have := hx.2; simp at this ⊢; omega
          clear hx
          go_wp2
          refine bodyPost_ret (results_ct rfl _ _ w.heap.size 24 #[.bool false, .slice none 0 0] (0, 0) _ rfl (blk_put (cs := #[.bool false, .slice none 0 0]) (blk_put (cs := #[.bool false, .slice none 0 0]) HK0.out 0 _ rfl) 1 _ rfl) Tryd.underlying24 rfl (by kernel_rfl)) rfl ?_
          exact refuse HB0.out (.inl ⟨rfl, Hbad.out⟩) _ HBz.out
        · have Hg2 := Lib.hid (show ¬ BadHead d false from fun h => h.elim hz (fun h => hx (by rw [Hb0.out] at h; exact h)))
          have qs : ((((d[0]'hpd).toNat : Int) == 48) = false) ∨ ((((d[0]'hpd).toNat : Int) == 48) = true ∧ decide (1 < (d.size : Int)) = false) := by
            by_cases h : ((d[0]'hpd).toNat : Int) = 48
            · exact .inr ⟨beq_iff_eq.2 h, by have : ¬ 1 < d.size := fun h2 => hx ⟨h, .inr h2⟩; simp; omega⟩
            · exact .inl (beq_eq_false_iff_ne.2 h)
          clear hx
          rcases qs with qx | ⟨qx, qs⟩
          all_goals
            go_wp2
            go_loop [6] (fun iv => ∃ k : Nat, k ≤ d.size ∧ iv = .int .i64 k ∧ Hid (DigB d k)) (fun iv => d.size - (intOf iv).toNat)
            case atStart => exact ⟨0, Nat.zero_le _, rfl, Lib.hid fun j hj => by omega⟩
            case round =>
              obtain ⟨k, hk, rfl, HD⟩ := hrel
              by_cases hlt : k < d.size
              · have hb := bt_eq hlt
                have Hb := Lib.hid hb; clear hb
                have p1 : (k : Int) < (d.size : Int) := by omega
                have u0 : (0 : Int) ≤ ((d[k]'hlt).toNat : Int) := by omega
                have u1 : ((d[k]'hlt).toNat : Int) ≤ 255 := by have := bt_range d (k : Nat); rw [Hb.out] at this; omega
                by_cases hd : 48 ≤ ((d[k]'hlt).toNat : Int) ∧ ((d[k]'hlt).toNat : Int) ≤ 57
                · obtain ⟨d0, d1⟩ := hd
                  have q1 : decide (((d[k]'hlt).toNat : Int) < 48) = false := by simp; omega
                  have q2 : decide (57 < ((d[k]'hlt).toNat : Int)) = false := by simp; omega
                  have HD2 := Lib.hid (HD.out.succ (by rw [Hb.out]; exact d0) (by rw [Hb.out]; exact d1))
                  go_wp2
                  go_round
                  case rel => exact ⟨k + 1, by omega, by go_num, HD2⟩
                  case measure => simp [intOf]; omega
                · have hbad : BadD d false := .inr (.inr fun h => by have := h k hlt; rw [Hb.out] at this; exact hd this)
                  have Hbad := Lib.hid hbad
                  clear hbad
                  by_cases h48 : ((d[k]'hlt).toNat : Int) < 48
                  · have q1 : decide (((d[k]'hlt).toNat : Int) < 48) = true := by simpa using h48
                    go_wp2
                    refine bodyPost_ret (results_ct rfl _ _ w.heap.size 24 #[.bool false, .slice none 0 0] (0, 0) _ rfl (blk_put (cs := #[.bool false, .slice none 0 0]) (blk_put (cs := #[.bool false, .slice none 0 0]) HK0.out 0 _ rfl) 1 _ rfl) Tryd.underlying24 rfl (by kernel_rfl)) rfl ?_
                    exact refuse HB0.out (.inl ⟨rfl, Hbad.out⟩) _ HBz.out
                  · have h57 : 57 < ((d[k]'hlt).toNat : Int) := by omega
                    have q1 : decide (((d[k]'hlt).toNat : Int) < 48) = false := by simpa using h48
                    have q2 : decide (57 < ((d[k]'hlt).toNat : Int)) = true := by simpa using h57
                    go_wp2
                    refine bodyPost_ret (results_ct rfl _ _ w.heap.size 24 #[.bool false, .slice none 0 0] (0, 0) _ rfl (blk_put (cs := #[.bool false, .slice none 0 0]) (blk_put (cs := #[.bool false, .slice none 0 0]) HK0.out 0 _ rfl) 1 _ rfl) Tryd.underlying24 rfl (by kernel_rfl)) rfl ?_
                    exact refuse HB0.out (.inl ⟨rfl, Hbad.out⟩) _ HBz.out
              · have hkn : k = d.size := by omega
                have HDn := Lib.hid (show DigB d d.size by rw [← hkn]; exact HD.out)
                have Hgood := Lib.hid (not_bad Hg2.out HDn.out)
                subst hkn
                clear HD hlt hk
                go_wp2
                have Hst := Lib.hid (show RefW w d none 0 [] 0 W0 from ⟨ReadsInt.nil _ _, Nat.le_refl _, HB0.out, HK0.out, (fun x hx => by cases hx), by simp, rfl, by simp [Dv.valW, valD_zero]⟩)
                clear r0 r1 f0 f1
                go_loopw [7, 8] (fun mv iv wr => ∃ (k c : Nat) (A : Option Addr) (xs : List Int), k ≤ d.size ∧ mv = .slice A xs.length c ∧ iv = .int .i64 k ∧ Hid (RefW w d A c xs k wr)) (fun _ iv _ => d.size - (intOf iv).toNat)
                case atStart => exact ⟨0, 0, none, [], Nat.zero_le _, rfl, rfl, Hst⟩
                case round =>
                  obtain ⟨k, c, A, xs, hk, rfl, rfl, HW⟩ := hrel
                  clear Hst
                  by_cases hlt : k < d.size
                  · have hdg := HDn.out k hlt
                    rw [bt_eq hlt] at hdg
                    obtain ⟨u0, u1⟩ := hdg
                    have p1 : (k : Int) < (d.size : Int) := by omega
                    have w1 : IntKind.u8.wrap (((d[k]'hlt).toNat : Int) - 48) = ((d[k]'hlt).toNat : Int) - 48 := by rw [IntKind.wrap_u8]; omega
                    have hvd : valD d (k + 1) = valD d k * 10 + (((d[k]'hlt).toNat : Int) - 48) := by rw [valD_succ, bt_eq hlt]
                    have Hvd := Lib.hid hvd
                    clear hvd
                    obtain ⟨x, hxd⟩ : ∃ x : Int, x = ((d[k]'hlt).toNat : Int) - 48 := ⟨_, rfl⟩
                    have x0 : 0 ≤ x := by omega
                    have x1 : x ≤ 9 := by omega
                    have hd10 : Dv.Wd [10] := fun y hy => by simp at hy; omega
                    have hdx : Dv.Wd [x] := fun y hy => by simp at hy; omega
                    have hrd := HW.out.rd
                    have hle := HW.out.len
                    have Hvd2 := Lib.hid (show valD d (k + 1) = valD d k * 10 + x by rw [Hvd.out, hxd])
                    obtain ⟨xl, hxl⟩ : ∃ xl, xl = xs.length := ⟨_, rfl⟩
                    rw [← hxl] at hrd hle ⊢
                    have hb1 : ∀ o, Below wr.heap.size wr (wr.alloc o).drew := fun o => below_drew (below_alloc (Below.refl _ _) o)
                    have hb2 : ∀ o o', Below wr.heap.size wr ((wr.alloc o).alloc o').drew := fun o o' => below_drew (below_alloc (below_alloc (Below.refl _ _) o) o')
                    have rT : ∀ (W : World) y, ReadsInt (W.alloc (.cells #[.int .u32 y] 62)) .u32 (some ⟨W.heap.size, 0, none⟩) 1 [y] := fun W y => blk_reads (ys := [y]) (blk_new W (.cells #[.int .u32 y] 62)) (by simp)
                    have hs1 : ∀ o, (wr.alloc o).heap.size = wr.heap.size + 1 := fun o => World.size_alloc _ _
                    have HTA := Lib.hid (times_any A (some ⟨wr.heap.size, 0, none⟩) xl 1 c 1 xs [10] (wr.alloc (.cells #[.int .u32 10] 62)).drew HW.out.wd hd10 (hrd.below (hb1 _)) (rT wr 10) (by omega) (by omega))
                    have HTB := Lib.hid (times_any A (some ⟨wr.heap.size, 0, none⟩) xl 1 c 1 xs [10] ((wr.alloc (.cells #[.int .u32 10] 62)).alloc (.cells #[.int .u32 x] 62)).drew HW.out.wd hd10 (hrd.below (hb2 _ _)) ((rT wr 10).below (below_drew (below_alloc (Below.refl _ _) _))) (by omega) (by omega))
                    have HTC := Lib.hid (times_any A (some ⟨wr.heap.size + 1, 0, none⟩) xl 1 c 1 xs [10] ((wr.alloc (.cells #[.int .u32 x] 62)).alloc (.cells #[.int .u32 10] 62)).drew HW.out.wd hd10 (hrd.below (hb2 _ _)) (by have h := rT (wr.alloc (.cells #[.int .u32 x] 62)) 10; rw [hs1] at h; exact h) (by omega) (by omega))
                    have HrB := Lib.hid (show ReadsInt ((wr.alloc (.cells #[.int .u32 10] 62)).alloc (.cells #[.int .u32 x] 62)).drew .u32 (some ⟨wr.heap.size + 1, 0, none⟩) 1 [x] by have h := rT (wr.alloc (.cells #[.int .u32 10] 62)) x; rw [hs1] at h; exact h)
                    have HrC := Lib.hid (show ReadsInt ((wr.alloc (.cells #[.int .u32 x] 62)).alloc (.cells #[.int .u32 10] 62)).drew .u32 (some ⟨wr.heap.size, 0, none⟩) 1 [x] from (rT wr x).below (below_drew (below_alloc (Below.refl _ _) _)))
                    have Hb1 := Lib.hid hb1; have Hb2 := Lib.hid hb2; have HrT := Lib.hid rT; have Hdx := Lib.hid hdx; have Hxl := Lib.hid hxl; have Hxd := Lib.hid hxd.symm
                    have hxd' := hxd.symm
                    clear hb1 hb2 rT hs1 hdx hd10 hrd hxl hxd u0 u1 w1
                    have w2 : IntKind.u8.wrap (((d[k]'hlt).toNat : Int) - 48) = x := by rw [hxd']; rw [IntKind.wrap_u8]; omega
                    have w3 : IntKind.u32.wrap x = x := by rw [IntKind.wrap_u32]; omega
                    have w4 : IntKind.u8.wrap x = x := by rw [IntKind.wrap_u8]; omega
                    go_upto_region 17 with (fail)
                    go_region_with (first | (go_at_call 49; with_reducible refine HT3.out.mono ?_; rintro e W3 ⟨v3, rfl, ho3, hb3⟩; obtain ⟨n3, A3, c3, rfl, hst⟩ := ref_step HW.out Hvd2.out HB2.out hb3 ho3 Hw2.out Hv2.out; have HSt := Lib.hid hst; clear ho3 hb3 hst) | (go_at_call 50; have HN_ := HPA; with_reducible refine HPA.out.mono ?_; rintro e W2 ht2; unfold PlusPost at ht2; obtain ⟨v2, z2, rfl, ho2, hbb2, hw2, hv2, hl2⟩ := ht2; unfold Own32 at ho2; obtain ⟨A2, c2, rfl⟩ := own_slice ho2; have HB2 := Lib.hid (below_then (below_then HB1.out HB1.out.size (below_alloc (Below.refl _ _) (.cells #[.int .u32 x] 62))) (Nat.le_trans HB1.out.size (by simp)) hbb2); have Hv2 := Lib.hid (val_plus hv2 Hv1.out); have Hw2 := Lib.hid hw2; have HT3 := Lib.hid (refTrim_any A2 z2.length c2 z2 W2 (own_reads' ho2) (own_le ho2) (by have h := Hl1.out; rw [← Hxl.out] at h; simp at h hl2; omega)); clear ho2 hbb2 hw2 hv2 hl2) | (go_at_call 50; have HN_ := HPB; with_reducible refine HPB.out.mono ?_; rintro e W2 ht2; unfold PlusPost at ht2; obtain ⟨v2, z2, rfl, ho2, hbb2, hw2, hv2, hl2⟩ := ht2; unfold Own32 at ho2; obtain ⟨A2, c2, rfl⟩ := own_slice ho2; have HB2 := Lib.hid (below_then HB1.out HB1.out.size hbb2); have Hv2 := Lib.hid (val_plus hv2 Hv1.out); have Hw2 := Lib.hid hw2; have HT3 := Lib.hid (refTrim_any A2 z2.length c2 z2 W2 (own_reads' ho2) (own_le ho2) (by have h := Hl1.out; rw [← Hxl.out] at h; simp at h hl2; omega)); clear ho2 hbb2 hw2 hv2 hl2) | (go_at_call 50; have HN_ := HPC; with_reducible refine HPC.out.mono ?_; rintro e W2 ht2; unfold PlusPost at ht2; obtain ⟨v2, z2, rfl, ho2, hbb2, hw2, hv2, hl2⟩ := ht2; unfold Own32 at ho2; obtain ⟨A2, c2, rfl⟩ := own_slice ho2; have HB2 := Lib.hid (below_then HB1.out HB1.out.size hbb2); have Hv2 := Lib.hid (val_plus hv2 Hv1.out); have Hw2 := Lib.hid hw2; have HT3 := Lib.hid (refTrim_any A2 z2.length c2 z2 W2 (own_reads' ho2) (own_le ho2) (by have h := Hl1.out; rw [← Hxl.out] at h; simp at h hl2; omega)); clear ho2 hbb2 hw2 hv2 hl2) | (go_at_call 51; have HN_ := HTA; with_reducible refine HTA.out.mono ?_; rintro e W1 ht1; unfold TimesPost at ht1; obtain ⟨v1, z1, rfl, ho1, hbb1, hw1, hv1, hl1⟩ := ht1; unfold Own32 at ho1; obtain ⟨A1, c1, rfl⟩ := own_slice ho1; have HB1 := Lib.hid (below_then (Hb1.out _) (Hb1.out _).size hbb1); have Hv1 := Lib.hid (val_ten hv1); have HPA := Lib.hid (plus_any A1 (some ⟨W1.heap.size, 0, none⟩) z1.length 1 c1 1 z1 [x] (W1.alloc (.cells #[.int .u32 x] 62)) hw1 Hdx.out ((own_reads' ho1).below (below_alloc (Below.refl _ _) _)) (HrT.out W1 x) (by rw [hl1, ← Hxl.out]; simp; omega) (by omega)); have Hl1 := Lib.hid hl1; clear ho1 hbb1 hw1 hv1 hl1) | (go_at_call 51; have HN_ := HTB; with_reducible refine HTB.out.mono ?_; rintro e W1 ht1; unfold TimesPost at ht1; obtain ⟨v1, z1, rfl, ho1, hbb1, hw1, hv1, hl1⟩ := ht1; unfold Own32 at ho1; obtain ⟨A1, c1, rfl⟩ := own_slice ho1; have HB1 := Lib.hid (below_then (Hb2.out _ _) (Hb2.out _ _).size hbb1); have Hv1 := Lib.hid (val_ten hv1); have HPB := Lib.hid (plus_any A1 (some ⟨wr.heap.size + 1, 0, none⟩) z1.length 1 c1 1 z1 [x] W1 hw1 Hdx.out (own_reads' ho1) (HrB.out.below hbb1) (by rw [hl1, ← Hxl.out]; simp; omega) (by omega)); have Hl1 := Lib.hid hl1; clear ho1 hbb1 hw1 hv1 hl1) | (go_at_call 51; have HN_ := HTC; with_reducible refine HTC.out.mono ?_; rintro e W1 ht1; unfold TimesPost at ht1; obtain ⟨v1, z1, rfl, ho1, hbb1, hw1, hv1, hl1⟩ := ht1; unfold Own32 at ho1; obtain ⟨A1, c1, rfl⟩ := own_slice ho1; have HB1 := Lib.hid (below_then (Hb2.out _ _) (Hb2.out _ _).size hbb1); have Hv1 := Lib.hid (val_ten hv1); have HPC := Lib.hid (plus_any A1 (some ⟨wr.heap.size, 0, none⟩) z1.length 1 c1 1 z1 [x] W1 hw1 Hdx.out (own_reads' ho1) (HrC.out.below hbb1) (by rw [hl1, ← Hxl.out]; simp; omega) (by omega)); have Hl1 := Lib.hid hl1; clear ho1 hbb1 hw1 hv1 hl1))
                    all_goals
                      obtain ⟨x3, hx3, ⟨hB3, hK3⟩, hbig3, hok3⟩ := HSt.out
                      by_cases h3 : n3 ≤ 256
                      · have q3 : ¬ 256 < (n3 : Int) := by omega
                        have q4 : decide (256 < (n3 : Int)) = false := by simpa using q3
                        have HW3 := Lib.hid (hok3 h3)
                        have Hx3 := Lib.hid hx3
                        clear hbig3 hok3 hx3
                        go_wp2
                        go_roundw
                        case rel => exact ⟨k + 1, c3, A3, x3, by omega, by rw [← Hx3.out], by go_num, HW3⟩
                        case measure => simp [intOf]; omega
                      · have q3 : 256 < (n3 : Int) := by omega
                        have q4 : decide (256 < (n3 : Int)) = true := by simpa using q3
                        have Hbig := Lib.hid (show tooBig ≤ valD d d.size from Int.le_trans (hbig3 (by omega)) (by have h := valD_mono (d.size - (k + 1)) (k := k + 1) (d := d) (by rw [show k + 1 + (d.size - (k + 1)) = d.size by omega]; exact HDn.out); rw [show k + 1 + (d.size - (k + 1)) = d.size by omega] at h; exact h))
                        have r0 := blk_cell hK3 0; have r1 := blk_cell hK3 1; have f0 := blk_frozen hK3 0; have f1 := blk_frozen hK3 1
                        have HB3 := Lib.hid hB3; have HK3 := Lib.hid hK3
                        clear hbig3 hok3 hx3 h3 hB3 hK3
                        go_wp2
                        refine bodyPost_ret (results_ct rfl _ _ w.heap.size 24 #[.bool false, .slice none 0 0] (0, 0) _ rfl (blk_put (cs := #[.bool false, .slice none 0 0]) (blk_put (cs := #[.bool false, .slice none 0 0]) HK3.out 0 _ rfl) 1 _ rfl) Tryd.underlying24 rfl (by kernel_rfl)) rfl ?_
                        exact refuse HB3.out (.inr ⟨rfl, Hgood.out, Hbig.out⟩) _ ((HB3.out.setCell (p := ⟨w.heap.size, 0, none⟩) (Nat.le_refl _) _).setCell (p := ⟨w.heap.size, 1, none⟩) (Nat.le_refl _) _)
                  · have hkn : k = d.size := by omega
                    subst hkn
                    clear hlt hk
                    have hmade := refMade_any false A xs.length c xs wr HW.out.rd HW.out.le (by have := HW.out.len; omega)
                    rw [HW.out.tr, List.take_of_length_le (Nat.le_refl _)] at hmade
                    have Hmade := Lib.hid hmade
                    clear hmade
                    go_wp2_with (go_at_call 52; refine Hmade.out.mono ?_; rintro e W5 ⟨v5, rfl, ho5, hb5⟩; have HB5 := Lib.hid (below_then HW.out.bel HW.out.bel.size hb5); have HK5 := Lib.hid (blk_below HW.out.box hb5); unfold Own32 at ho5; obtain ⟨A5, c5, rfl⟩ := own_slice ho5; have Ho5 := Lib.hid ho5; have r0 := blk_cell HK5.out 0; have r1 := blk_cell HK5.out 1; have f0 := blk_frozen HK5.out 0; have f1 := blk_frozen HK5.out 1; clear ho5 hb5)
                    have hans : AnsIs W5 (false && decide (0 < xs.length)) A5 xs.length c5 0 (sgnI false (valD d d.size)) := ref_ans HW.out Ho5.out
                    have k2 := blk_put (cs := #[.bool false, .slice none 0 0]) (cs' := #[.bool (false && decide (0 < xs.length)), .slice none 0 0]) HK5.out 0 _ rfl
                    refine bodyPost_ret (results_ct rfl _ _ w.heap.size 24 #[.bool (false && decide (0 < xs.length)), .slice A5 xs.length c5] (0, 0) _ (by simp) (blk_put (cs := #[.bool (false && decide (0 < xs.length)), .slice none 0 0]) (by simpa using k2) 1 _ rfl) Tryd.underlying24 rfl (by kernel_rfl)) rfl ?_
                    exact ⟨_, A5, _, c5, 0, rfl, (HB5.out.setCell (p := ⟨w.heap.size, 0, none⟩) (Nat.le_refl _) _).setCell (p := ⟨w.heap.size, 1, none⟩) (Nat.le_refl _) _, .inr ⟨Hgood.out, (hans.put HK5.out (no_words _ _ _ _) 0 _).put k2 (no_words _ _ _ _) 1 _⟩⟩
end Go.Proofs.YtiofeehcnegejaaDoor
