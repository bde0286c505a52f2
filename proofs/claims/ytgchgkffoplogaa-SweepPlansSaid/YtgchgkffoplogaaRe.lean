/- goes: the iterator's rounds. -/
import Derived.Test.YtgchgkffoplogaaRd
namespace Go.Proofs.Ytgchgkffoplogaa
open Go.RowKit Go.Proofs.YtgchgkffoplogaaW.PrintWords
set_option linter.unusedVariables false
set_option linter.unusedSimpArgs false

/-- The closure's variables: ok, over, n; what they hold. -/
structure VarsAt (W : World) (ka kv kn : Nat) (over : Bool) (k : Nat) : Prop where
  ok : W.heap[ka]? = some (.cells #[.bool true] 4 (0, 0))
  ov : W.heap[kv]? = some (.cells #[.bool over] 4 (0, 0))
  nn : W.heap[kn]? = some (.cells #[.int .i64 k] 3 (0, 0))
/-- The closure's other variables. -/
structure FixAt (W : World) (kl kw ks C : Nat) (Al : Option Addr) (cl : Nat) (tk : List Int) (stop : Int) : Prop where
  l : W.heap[kl]? = some (.cells #[.slice Al tk.length cl] 22 (0, 0))
  w : W.heap[kw]? = some (.cells #[.pointer (some ⟨C, 0, none⟩)] 35 (0, 0))
  s : W.heap[ks]? = some (.cells #[.int .i64 stop] 3 (0, 0))
  r : ReadsInt W .i64 Al tk.length tk

set_option maxRecDepth 100000 in
set_option maxHeartbeats 1600000 in
theorem yield_any {W : World} {ka kv kn kl kw ks C : Nat} {Al : Option Addr} {cl : Nat} {tk : List Int} {stop : Int} {ok okE : Nat → Prop} {vL vT : Value} {M : List Value} {T : List Bool} {X : List (List Int)} {k : Nat} {i v : Int}
    (hv : VarsAt W ka kv kn false k) (hf : FixAt W kl kw ks C Al cl tk stop) (hr : RefAt W C ok okE vL vT M T X) (hk : k < tk.length) (hkm : tk.length ≤ 100000) (hi : rd tk k = i) (h0 : 0 ≤ i) (h1 : i < M.length) (hl : M.length ≤ 100000) (hx : rd (rdOf [] X i) 0 = v)
    (hav : ka ≠ kv) (hns : kn ≠ ks) :
    Calls Try.prog 48 #[.int .i64 i, .int .i64 v, .pointer (some ⟨ka, 0, none⟩), .pointer (some ⟨kv, 0, none⟩), .pointer (some ⟨kn, 0, none⟩), .pointer (some ⟨kl, 0, none⟩), .pointer (some ⟨kw, 0, none⟩), .pointer (some ⟨ks, 0, none⟩)] W fun e W' =>
      e = .returned (.bool (!((k : Int) + 1 == stop))) ∧ VarsAt W' ka kv kn ((k : Int) + 1 == stop) (k + 1) ∧ Kept (fun b => b = ka ∨ b = kv ∨ b = kn) W W' := by
  have hak : ka ≠ kn := blk_ne hv.ok hv.nn (by decide)
  have hvk : kv ≠ kn := blk_ne hv.ov hv.nn (by decide)
  have has : ka ≠ ks := blk_ne hv.ok hf.s (by decide)
  have hvs : kv ≠ ks := blk_ne hv.ov hf.s (by decide)
  have ca := blk_cell hv.ok 0; have fa := blk_frozen hv.ok 0
  have cv := blk_cell hv.ov 0
  have cn := blk_cell hv.nn 0
  have cl' := blk_cell hf.l 0; have cw := blk_cell hf.w 0
  obtain ⟨ad, rfl, hcell⟩ := hf.r.at_ (k : Int) (by omega) (by omega)
  rw [hi, Int.toNat_natCast] at hcell
  obtain ⟨ii, rfl⟩ := Int.eq_ofNat_of_zero_le h0
  obtain ⟨g, c, rfl, hm, _, hel⟩ := ref_elem hr (ii : Int) h0 h1
  rw [Int.toNat_natCast] at hm
  have hone := one_any hel
  rw [hx] at hone
  obtain ⟨Am, cm, hme, _⟩ := id hel
  rw [hme] at hm hone
  have cC : W.cell? ⟨C, 0, none⟩ = some (.slice (some ⟨g, 0, none⟩) M.length c) := blk_cell hr.blk 0
  -- the worlds behind the stores
  have b1n := blk_far hv.nn (p := ⟨ka, 0, none⟩) (Ne.symm hak) (.bool true)
  have b1a := blk_set hv.ok 0 (.bool true)
  have b1v := blk_far hv.ov (p := ⟨ka, 0, none⟩) (Ne.symm hav) (.bool true)
  have b1s := blk_far hf.s (p := ⟨ka, 0, none⟩) (Ne.symm has) (.bool true)
  have b2n := blk_set b1n 0 (.int .i64 ((k : Int) + 1))
  have b2a := blk_far b1a (p := ⟨kn, 0, none⟩) hak (.int .i64 ((k : Int) + 1))
  have b2v := blk_far b1v (p := ⟨kn, 0, none⟩) hvk (.int .i64 ((k : Int) + 1))
  have b2s := blk_far b1s (p := ⟨kn, 0, none⟩) (Ne.symm hns) (.int .i64 ((k : Int) + 1))
  have b3v := blk_set b2v 0 (.bool ((k : Int) + 1 == stop))
  have b3n := blk_far b2n (p := ⟨kv, 0, none⟩) (Ne.symm hvk) (.bool ((k : Int) + 1 == stop))
  have b3a := blk_far b2a (p := ⟨kv, 0, none⟩) hav (.bool ((k : Int) + 1 == stop))
  have c1n := blk_cell b1n 0; have f1n := blk_frozen b1n 0
  have c2a := blk_cell b2a 0; have c2n := blk_cell b2n 0; have c2s := blk_cell b2s 0; have c2v := blk_cell b2v 0; have f2v := blk_frozen b2v 0
  have c3v := blk_cell b3v 0
  have B3v := Lib.hid b3v; have B3n := Lib.hid b3n; have B3a := Lib.hid b3a; have Hone := Lib.hid hone
  have p0 : (0 : Int) ≤ (k : Int) := by omega
  have p1 : (k : Int) < (tk.length : Int) := by omega
  clear hv hf hr b1n b1a b1v b1s b2n b2a b2v b2s b3v b3n b3a hel hone hi hx hme
  go_enter Try.func48, Try.ntmps48
  go_wp2_with (go_at_call 44; refine Hone.out.mono ?_; rintro e w1 ⟨rfl, rfl⟩)
  go_ret
  exact ⟨rfl, ⟨B3a.out, B3v.out, B3n.out⟩, (((Kept.refl (fun b => b = ka ∨ b = kv ∨ b = kn) W).setCell (p := ⟨ka, 0, none⟩) (.inl (.inl rfl)) _).setCell (p := ⟨kn, 0, none⟩) (.inl (.inr (.inr rfl))) _).setCell (p := ⟨kv, 0, none⟩) (.inl (.inr (.inl rfl))) _⟩

/-- What the closure reads stays where its own variables turn. -/
theorem FixAt.move {W W' : World} {kl kw ks C : Nat} {Al : Option Addr} {cl : Nat} {tk : List Int} {stop : Int} {okF : Nat → Prop} (h : FixAt W kl kw ks C Al cl tk stop) (hl : okF kl) (hw : okF kw) (hs : okF ks) (ha : ∀ ad, Al = some ad → okF ad.block) (hm : ∀ k, okF k → k < W.heap.size → W'.heap[k]? = W.heap[k]?) : FixAt W' kl kw ks C Al cl tk stop := by
  refine ⟨(hm _ hl (blk_lt h.l)).trans h.l, (hm _ hw (blk_lt h.w)).trans h.w, (hm _ hs (blk_lt h.s)).trans h.s, h.r.1, h.r.2.1, fun hp => ?_⟩
  obtain ⟨ad, e, hc⟩ := h.r.2.2 hp
  refine ⟨ad, e, fun j hj => ?_⟩
  have hb : (ad.add j).block = ad.block := by unfold Addr.add; split <;> rfl
  rw [World.cell?_of_block (hm _ (by rw [hb]; exact ha ad e) (World.block_lt_of_cell? _ _ (hc j hj)))]
  exact hc j hj

/-- All that goes' rounds read and keep: 'okF' holds every block of it. -/
structure GoesAt (W : World) (okF : Nat → Prop) (ka kv kn kl kw ks C lb gp cp : Nat) (Al : Option Addr) (cl : Nat) (ps : List (Int × Int)) (stop : Int) (ok okE : Nat → Prop) (vL vT : Value) (M : List Value) (T : List Bool) (X : List (List Int)) (over : Bool) (k : Nat) : Prop where
  vars : VarsAt W ka kv kn over k
  fix : FixAt W kl kw ks C Al cl (ps.map Prod.fst) stop
  ref : RefAt W C ok okE vL vT M T X
  blk : W.heap[lb]? = some (.cells #[.slice (some ⟨gp, 0, none⟩) ps.length cp] 76 (0, 0))
  pairs : ∀ j : Nat, j < ps.length → W.cell? ⟨gp, j * 2, none⟩ = some (.int .i64 (ps.getD j (0, 0)).1) ∧ W.cell? ⟨gp, j * 2 + 1, none⟩ = some (.int .i64 (ps.getD j (0, 0)).2)
theorem GoesAt.move {W W' : World} {okF : Nat → Prop} {ka kv kn kl kw ks C lb gp cp : Nat} {Al : Option Addr} {cl : Nat} {ps : List (Int × Int)} {stop : Int} {ok okE : Nat → Prop} {vL vT : Value} {M : List Value} {T : List Bool} {X : List (List Int)} {over over' : Bool} {k k' : Nat}
    (h : GoesAt W okF ka kv kn kl kw ks C lb gp cp Al cl ps stop ok okE vL vT M T X over k) (hv : VarsAt W' ka kv kn over' k') (hl : okF kl) (hw : okF kw) (hs : okF ks) (ha : ∀ ad, Al = some ad → okF ad.block) (hok : ∀ b, ok b → okF b) (hokE : ∀ b, okE b → okF b) (hlb : okF lb) (hgp : okF gp)
    (hm : ∀ b, okF b → b < W.heap.size → W'.heap[b]? = W.heap[b]?) : GoesAt W' okF ka kv kn kl kw ks C lb gp cp Al cl ps stop ok okE vL vT M T X over' k' :=
  ⟨hv, h.fix.move hl hw hs ha hm, h.ref.move (fun b e => hm b (hok b e)) (fun b e => hm b (hokE b e)), (hm _ hlb (blk_lt h.blk)).trans h.blk, fun j hj => by
    obtain ⟨c1, c2⟩ := h.pairs j hj
    exact ⟨(World.cell?_of_block (hm gp hgp (World.block_lt_of_cell? W ⟨gp, j * 2, none⟩ c1))).trans c1, (World.cell?_of_block (hm gp hgp (World.block_lt_of_cell? W ⟨gp, j * 2 + 1, none⟩ c2))).trans c2⟩⟩
end Go.Proofs.Ytgchgkffoplogaa
