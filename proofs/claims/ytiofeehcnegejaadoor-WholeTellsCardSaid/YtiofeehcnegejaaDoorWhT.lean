/- Whole numbers: Text. -/
import Derived.Test.YtiofeehcnegejaaDoorWhS
namespace Go.Proofs.YtiofeehcnegejaaDoor
open Go.RowKit Go.Shelf Go.Proofs.YtiofeehcnegejaaDoorW.PrintWords
set_option linter.unusedVariables false
attribute [local go_sem] Oper.semAt_some

/-- The signs that have come. -/
def sgn (pre : List WordAt) : List Int := pre.flatMap fun x => dig9 x.1.2
theorem sgn_snoc (pre : List WordAt) (x : WordAt) : sgn (pre ++ [x]) = sgn pre ++ dig9 x.1.2 := by simp [sgn]
theorem sgn_length (pre : List WordAt) : (sgn pre).length = 9 * pre.length := by
  induction pre with
  | nil => rfl
  | cons x xs ih =>
    have : sgn (x :: xs) = dig9 x.1.2 ++ sgn xs := by simp [sgn]
    rw [this, List.length_append, ih, List.length_cons]
    show 9 + _ = _
    omega
theorem sgn_out (ps : List Int) (hw : ∀ i, 0 ≤ rd ps i ∧ rd ps i < 4294967296) (k : Nat) (hk : k ≤ ps.length) : sgn (uptoF (backF ps hw) k) = outP (ps.drop (ps.length - k)) := by
  induction k with
  | zero => simp [sgn, uptoF, outP]
  | succ k ih =>
    rw [uptoF_succ, sgn_snoc, ih (by omega)]
    have e := Dv.drop_rd (xs := ps) (k := ps.length - (k + 1)) (by omega)
    rw [show ps.length - (k + 1) + 1 = ps.length - k by omega] at e
    rw [e]
    have e2 : outP (rd ps ((ps.length - (k + 1) : Nat) : Int) :: ps.drop (ps.length - k)) = outP (ps.drop (ps.length - k)) ++ dig9 (rd ps ((ps.length - (k + 1) : Nat) : Int)) := by
      unfold outP; rw [List.reverse_cons, List.flatMap_append]; simp
    rw [e2]
    congr 2
    show rd ps ((ps.length : Int) - 1 - k) = _
    congr 1
    omega
theorem isb_own (B0 B b : Nat) {β : Type} (f : β → List Value) : OwnFrom B (fun (s : β) W => Lib.IsBuilder 72 5 B0 b (f s) W) := by
  intro s W W' row hs hg hr
  have key : ∀ p, Lib.BuilderAt 72 5 B0 b p (f s) W → Lib.BuilderAt 72 5 B0 b p (f s) W' := by
    rintro p ⟨hB, v, hb, hown, hne⟩
    refine ⟨hB, v, ?_, ?_, hne⟩
    · refine (hg.block b (blk_lt hb) fun e => ?_).trans hb
      obtain ⟨_, o, ho, hc⟩ := hr b e.symm
      rw [hb] at ho; injection ho with ho; subst ho; cases hc
    · refine own_other hown hg ?_
      rcases hv : v.ownBlock with _ | k
      · exact .inl rfl
      · refine .inr fun e => ?_
        obtain ⟨cells, hcl⟩ := own_typed hown k hv
        obtain ⟨_, o, ho, hc⟩ := hr k e.symm
        rw [hcl] at ho; injection ho with ho; subst ho; cases hc
  exact hs.imp (key _) (key _)
theorem isb_below {B b : Nat} {bs : List Value} {W W1 : World} (h : Lib.IsBuilder 72 5 B b bs W) (hb : Below W.heap.size W W1) : Lib.IsBuilder 72 5 B b bs W1 := by
  have key : ∀ p, Lib.BuilderAt 72 5 B b p bs W → Lib.BuilderAt 72 5 B b p bs W1 := fun p ⟨hB, v, hb1, hown, hne⟩ => ⟨hB, v, blk_below hb1 hb, pw_own_below hown hb, hne⟩
  exact h.imp (key _) (key _)
theorem isb_block {B b : Nat} {bs : List Value} {W : World} (h : Lib.IsBuilder 72 5 B b bs W) : ∃ cs, W.heap[b]? = some (.cells cs 72 (0, 0)) := by
  rcases h with ⟨_, v, h, _⟩ | ⟨_, v, h, _⟩ <;> exact ⟨_, h⟩
theorem blk_own {β : Type} (B k T : Nat) (cs : Array Value) : OwnFrom B (fun (_ : β) W => W.heap[k]? = some (.cells cs T (0, 0))) := by
  intro s W W' row hs hg hr
  refine (hg.block k (blk_lt hs) fun e => ?_).trans hs
  obtain ⟨_, o, ho, hc⟩ := hr k e.symm
  rw [hs] at ho; injection ho with ho; subst ho; cases hc
/-- At the outer loop's head, in memory. -/
structure TxW (w : World) (g t c2 : Nat) (box : Array Value) (V : Int) (zs ps : List Int) (k : Nat) (pv : Value) (wr : World) : Prop where
  zl : zs.length = t
  own : wr.ownsRow w.heap.size 62 1 (.slice (some ⟨g, 0, none⟩) t c2) t (nums .u32 zs)
  pown : wr.ownsRow w.heap.size 62 1 pv ps.length (nums .u32 ps)
  ne : pv.ownBlock ≠ some g
  bel : Below w.heap.size w wr
  box : wr.heap[w.heap.size]? = some (.cells box 24 (0, 0))
  at_ : TextAt V zs ps k
/-- At the inner loop's head. -/
structure TxI (w : World) (g t c2 : Nat) (box : Array Value) (z0 zs ps : List Int) (k i : Nat) (r : Int) (pv : Value) (wr : World) : Prop where
  zl : zs.length = t
  own : wr.ownsRow w.heap.size 62 1 (.slice (some ⟨g, 0, none⟩) t c2) t (nums .u32 zs)
  pown : wr.ownsRow w.heap.size 62 1 pv ps.length (nums .u32 ps)
  ne : pv.ownBlock ≠ some g
  bel : Below w.heap.size w wr
  box : wr.heap[w.heap.size]? = some (.cells box 24 (0, 0))
  at_ : DivAt 1000000000 z0 zs k i r

theorem TxW.drewN {w : World} {g t c2 : Nat} {box : Array Value} {V : Int} {zs ps : List Int} {k : Nat} {pv : Value} {wr : World} (h : TxW w g t c2 box V zs ps k pv wr) (q : Nat) : TxW w g t c2 box V zs ps k pv (wr.drewN q) :=
  ⟨h.zl, pw_own_drewN h.own q, pw_own_drewN h.pown q, h.ne, pw_below_drewN h.bel q, blk_drewN h.box q, h.at_⟩
theorem TxI.step {w : World} {g t c2 : Nat} {box : Array Value} {z0 zs ps : List Int} {k j : Nat} {r r' qd : Int} {pv : Value} {wr : World} (h : TxI w g t c2 box z0 zs ps k (j + 1) r pv wr) (hd : DivAt 1000000000 z0 (zs.set j qd) k j r') (q : Nat) :
    TxI w g t c2 box z0 (zs.set j qd) ps k j r' pv ((wr.drewN q).setCell ⟨g, j, none⟩ (.int .u32 qd)) := by
  have ho := (own_store (pw_own_drewN h.own q) (j : Int) qd).1
  rw [Int.toNat_natCast] at ho
  have hgw : w.heap.size ≤ g := own_base h.own g rfl
  have hgb : g ≠ w.heap.size := fun e => by have := own_ne h.own h.box (by decide); rw [e] at this; exact this rfl
  exact ⟨by rw [List.length_set]; exact h.zl, ho, own_setCell (pw_own_drewN h.pown q) (p := ⟨g, j, none⟩) (fun e => h.ne e.symm) _, h.ne, (pw_below_drewN h.bel q).setCell (p := ⟨g, j, none⟩) hgw _, blk_far (blk_drewN h.box q) (fun e => hgb e.symm) _, hd⟩

set_option maxRecDepth 100000 in
set_option maxHeartbeats 4000000 in
theorem text_great (neg : Bool) (ad : Addr) (n c : Nat) (xs : List Int) (w : World) (hw : Dv.Wd xs) (hr : ReadsInt w .u32 (some ad) n xs) (hc : n ≤ c) (hn : n ≤ 100000) (ht0 : 0 < trimLen xs) :
    Calls Tryd.prog 19 #[.agg #[.bool neg, .slice (some ad) n c]] w fun e w' => e = .returned (.string ⟨(toB (textI neg xs)).toArray⟩) ∧ Below w.heap.size w w' := by
  have htl : trimLen xs ≤ n := by have := trimLen_le xs; have := hr.1; omega
  obtain ⟨t, ht⟩ : ∃ t, t = trimLen xs := ⟨_, rfl⟩
  obtain ⟨ts, hts⟩ : ∃ ts, ts = xs.take t := ⟨_, rfl⟩
  have htsl : ts.length = t := by rw [hts, List.length_take]; have := hr.1; omega
  have hrt : ReadsInt w .u32 (some ad) t ts := by rw [hts]; exact hr.take_ _ (by omega)
  have hwt : Dv.Wd ts := by rw [hts]; exact hw.take _
  have htt : trimLen ts = t := by rw [hts, ht]; exact trim_idem xs
  have hvt : Dv.valW ts = Dv.valW xs := by rw [hts, ht]; exact valW_trim xs
  have hVt : Dv.valW ts < 2 ^ (32 * t) := by have := val_less ts hwt; rwa [htt] at this
  have hVp : 0 < Dv.valW ts := trim_pos hwt (by omega)
  have htx : textI neg xs = (if neg then [45] else []) ++ decI (Dv.valW ts).toNat := by unfold textI; rw [if_neg (by omega), hvt]
  have htrim := fun W (h : Below w.heap.size w W) => trim_any (some ad) n c xs W (hr.below h) hc (by omega)
  rw [← ht] at htrim htl ht0
  rw [htx]
  obtain ⟨V, hV⟩ : ∃ V, V = Dv.valW ts := ⟨_, rfl⟩
  rw [← hV] at hVt hVp ⊢
  have Htrim := Lib.hid htrim; have Htl := Lib.hid htsl; have Hrt := Lib.hid hrt; have Hwt := Lib.hid hwt; have Htt := Lib.hid htt; have HVt := Lib.hid hVt; have HV := Lib.hid hV
  clear htrim htsl hrt hwt htt hvt hVt hV hts ht htx hr hw
  refine (callsIn_wide (n := 8)).1 ?_
  have hB0 : Below w.heap.size w (w.alloc (Obj.cells #[Value.bool neg, Value.slice (some ad) n c] 24)) := below_alloc (Below.refl _ _) _
  have hk0 := blk_new w (Obj.cells #[Value.bool neg, Value.slice (some ad) n c] 24)
  have hx1 := blk_cell hk0 1
  have HB0 := Lib.hid hB0; have HK0 := Lib.hid hk0
  clear hB0 hk0
  refine callsIn_of_wp_marks Tryd.func19 rfl trivial ?_ rfl
  simp only [Tryd.ntmps19, List.size_toArray, List.length_cons, List.length_nil, Nat.reduceAdd, Nat.reduceSub, Array.replicate_succ, Array.replicate_zero, List.push_toArray, List.append_toArray, List.nil_append, List.cons_append]
  have htb : ((t : Int) == 0) = false := beq_eq_false_iff_ne.2 (by omega)
  gi_wp2_with (first | (refine ⟨trivial, ?_⟩; gi_at_call 54; refine (callsIn_wide.2 (Htrim.out _ HB0.out)).mono ?_; rintro e W1 ⟨rfl, q, hW1⟩; have hb1 : Below (w.alloc (Obj.cells #[Value.bool neg, Value.slice (some ad) n c] 24)).heap.size (w.alloc (Obj.cells #[Value.bool neg, Value.slice (some ad) n c] 24)) W1 := (by rw [hW1]; exact pw_below_drewN (Below.refl _ _) q); have HK1 := Lib.hid (blk_below HK0.out hb1); have HB1 := Lib.hid (below_then HB0.out HB0.out.size hb1); clear hW1 hb1) | (refine ⟨trivial, ?_⟩; gi_at_call 53; refine (callsIn_wide.2 (clone_own ad t c ts W1 (Hrt.out.below HB1.out) (by omega) (by omega) ht0)).mono ?_; rintro e W2 ⟨g, c2, rfl, hown2, hc2, hg2, hb2⟩; have HK2 := Lib.hid (blk_below HK1.out hb2); have HB2 := Lib.hid (below_then HB1.out HB1.out.size hb2); have Hg := Lib.hid (show w.heap.size + 1 ≤ g by have := blk_lt HK1.out; omega); have HO2 := Lib.hid (own_weaken hown2 HB1.out.size); clear hown2 hb2 hg2))
  have hst : TxW w g t c2 #[Value.bool neg, Value.slice (some ad) n c] V ts [] t (.slice none 0 0) W2 := ⟨Htl.out, HO2.out, own_nil _ _ _ _, by simp [Value.ownBlock], HB2.out, HK2.out, ⟨Hwt.out, Htt.out, fun x hx => by simp at hx, by rw [HV.out]; simp [valP]⟩⟩
  have Hst := Lib.hid hst
  clear hst HO2 HB2 HK2 HB1 HK1 HB0 HK0
  gi_loopw [3, 4] (fun mv pv wr => ∃ (k c3 : Nat) (A2 : Option Addr) (zs ps : List Int), k ≤ t ∧ ps.length ≤ 2 * t ∧ mv = .slice (some ⟨g, 0, none⟩) k c2 ∧ pv = .slice A2 ps.length c3 ∧ Hid (TxW w g t c2 #[Value.bool neg, Value.slice (some ad) n c] V zs ps k (.slice A2 ps.length c3) wr)) (fun _ pv _ => 2 * t - lenOf pv)
  case atStart => exact ⟨t, 0, none, ts, [], Nat.le_refl _, by simp, rfl, rfl, Hst⟩
  case round =>
    obtain ⟨k, c3, A2, zs, ps, hk, hpt, rfl, rfl, HS⟩ := hrel
    clear Hst
    obtain ⟨pl, hpl⟩ : ∃ pl, pl = ps.length := ⟨_, rfl⟩
    by_cases hk0 : 0 < k
    · have hfew := HS.out.at_.few hk0 HVt.out
      rw [← hpl] at hfew HS hpt ⊢
      have Hpl := Lib.hid hpl; clear hpl
      have hz1 : TxI w g t c2 #[Value.bool neg, Value.slice (some ad) n c] zs zs ps k k 0 (.slice A2 pl c3) wr := ⟨HS.out.zl, HS.out.own, HS.out.pown, HS.out.ne, HS.out.bel, HS.out.box, DivAt.start _ (by omega) zs k HS.out.at_.wd (fun j hj => trim_high zs j (by rw [HS.out.at_.k0]; exact hj))⟩
      have Hz1 := Lib.hid hz1; clear hz1
      gi_wp2_with (fail)
      gi_loopw [5, 6] (fun rv iv wr' => ∃ (i : Nat) (r z : Int) (zs' : List Int), i ≤ k ∧ z + 1 = (i : Int) ∧ rv = .int .u32 r ∧ iv = .int .i64 z ∧ Hid (TxI w g t c2 #[Value.bool neg, Value.slice (some ad) n c] zs zs' ps k i r (.slice A2 pl c3) wr')) (fun _ iv _ => (intOf iv + 1).toNat)
      case atStart => exact ⟨k, 0, _, zs, Nat.le_refl _, by omega, rfl, rfl, Hz1⟩
      case round =>
        obtain ⟨i, r, z, zs', hi, hz, rfl, rfl, HI⟩ := hrel
        clear Hz1
        cases i with
        | zero =>
          obtain rfl : z = -1 := by omega
          have hdone := HI.out
          have hB : w.heap.size ≤ wr.heap.size := HI.out.bel.size
          have hown1 := HI.out.pown
          have hdn : ∀ (v1 : Value) (W6 : World), W6.ownsRow w.heap.size 62 1 v1 (ps ++ [r]).length (nums .u32 (ps ++ [r])) → Below w.heap.size w W6 → wr.grownBy W6 (Value.slice A2 pl c3).ownBlock → (v1.ownBlock = (Value.slice A2 pl c3).ownBlock ∨ ∃ b, v1.ownBlock = some b ∧ wr.heap.size ≤ b) →
              TxW w g t c2 #[Value.bool neg, Value.slice (some ad) n c] V zs' (ps ++ [r]) (trimLen (zs'.take k)) v1 W6 := fun v1 W6 h1 h2 h3 h4 => by
            have hgl : g < wr.heap.size := own_lt HI.out.own g rfl
            refine ⟨HI.out.zl, own_other HI.out.own h3 (.inr fun e => HI.out.ne e.symm), h1, ?_, h2, blk_grown HI.out.box h3 (own_ne HI.out.pown HI.out.box (by decide)), HS.out.at_.step HI.out.at_⟩
            rcases h4 with h4 | ⟨b, h4, h5⟩
            · rw [h4]; exact HI.out.ne
            · rw [h4]; intro e; injection e with e; omega
          have Hdn := Lib.hid hdn
          have htr2 : ∀ (v1 : Value) (W6 : World), TxW w g t c2 #[Value.bool neg, Value.slice (some ad) n c] V zs' (ps ++ [r]) (trimLen (zs'.take k)) v1 W6 → Calls Tryd.prog 54 #[.slice (some ⟨g, 0, none⟩) k c2] W6 fun e w' => e = .returned (.slice (some ⟨g, 0, none⟩) (trimLen (zs'.take k)) c2) ∧ ∃ q, w' = W6.drewN q := fun v1 W6 h =>
            trim_any _ k c2 (zs'.take k) W6 ((own_reads' h.own).take_ k (by omega)) (by omega) (by omega)
          have htk : trimLen (zs'.take k) ≤ k := by have := trimLen_le (zs'.take k); rw [List.length_take] at this; omega
          obtain ⟨k', hk'⟩ : ∃ k', k' = trimLen (zs'.take k) := ⟨_, rfl⟩
          rw [← hk'] at htr2 htk Hdn
          have Htr2 := Lib.hid htr2
          clear hdn htr2 hk' hz hdone
          gi_wp2_with (first | (gi_at_builtin; refine in_append_num (w0 := w) w.heap.size rfl _ _ 22 62 .u32 4 rfl Tryd.underlying22 info62 (by decide) (.slice A2 pl c3) ps r rfl rfl hown1 HI.out.bel hB (by rw [← Hpl.out]; omega) ?_; intro v1 W6 hown6 hb6 hg6 hat6; have HT := Lib.hid (Hdn.out v1 W6 hown6 hb6 hg6 hat6); obtain ⟨A4, c4, rfl⟩ := own_slice hown6; clear hown6 hb6 hg6 hat6) | (refine ⟨trivial, ?_⟩; gi_at_call 54; refine (callsIn_wide.2 (Htr2.out _ _ HT.out)).mono ?_; rintro e W7 ⟨rfl, q7, rfl⟩))
          go_roundw
          case rel => exact ⟨k', c4, A4, zs', ps ++ [r], by omega, by have := Hpl.out; simp; omega, rfl, by simp, Lib.hid (HT.out.drewN q7)⟩
          case measure => have := Hpl.out; simp [lenOf]; omega
        | succ j =>
          obtain rfl : z = (j : Int) := by omega
          have hj : j < t := by omega
          have hlow := HI.out.at_.low j (by omega)
          have hr0 := HI.out.at_.r0
          have hr1 := HI.out.at_.r1
          obtain ⟨hoc, hof⟩ := own_at HI.out.own (j : Int) (by omega) (by omega)
          rw [Int.toNat_natCast, hlow] at hoc
          rw [Int.toNat_natCast] at hof
          have hxb := HS.out.at_.wd.get (j : Int)
          obtain ⟨x, hx⟩ : ∃ x, x = rd zs (j : Int) := ⟨_, rfl⟩
          have hstep := HI.out.at_.step (by omega) (by omega) (by rw [HS.out.zl]; exact hj) HS.out.at_.wd
          have hput := own_store HI.out.own (j : Int) ((r * 4294967296 + x) / 1000000000)
          rw [Int.toNat_natCast] at hput
          rw [← hx] at hoc hxb hstep
          have hdiv := fun W => div32_any r x 1000000000 W hr0 hr1 hxb.1 hxb.2 (by omega)
          obtain ⟨qd, hqd⟩ : ∃ qd, qd = (r * 4294967296 + x) / 1000000000 := ⟨_, rfl⟩
          obtain ⟨r', hr'⟩ : ∃ r', r' = (r * 4294967296 + x) % 1000000000 := ⟨_, rfl⟩
          rw [← hqd, ← hr'] at hdiv hstep
          rw [← hqd] at hput
          have Hdiv := Lib.hid hdiv; have Hstep := Lib.hid hstep; have Hput := Lib.hid hput
          have p0 : (0 : Int) ≤ (j : Int) := by omega
          have p1 : (j : Int) < (k : Int) := by omega
          clear hdiv hstep hput hqd hr' hx hlow hz hxb hr0 hr1
          gi_wp2_with (refine ⟨trivial, ?_⟩; gi_at_call 55; refine (callsIn_wide.2 (Hdiv.out _)).mono ?_; rintro e W5 ⟨rfl, q5, rfl⟩)
          go_roundw
          case rel => exact ⟨j, r', _, zs'.set j qd, by omega, by omega, rfl, rfl, Lib.hid (HI.out.step Hstep.out q5)⟩
          case measure => simp [intOf]
    · have hkz : k = 0 := by omega
      subst hkz
      gi_wp2_with (refine ⟨trivial, ?_⟩; gi_at_call 56; refine (callsIn_wide.2 (back_any _ _ _ _)).mono ?_; rintro e W8 ⟨rfl, rfl⟩)
      have hps32 : ∀ i, 0 ≤ rd ps i ∧ rd ps i < 4294967296 := fun i => by
        unfold rd
        by_cases hi : i.toNat < ps.length
        · rw [List.getD_eq_getElem?_getD, List.getElem?_eq_getElem hi]
          have := HS.out.at_.pcs _ (List.getElem_mem hi)
          simp only [Option.getD_some]; omega
        · rw [List.getD_eq_getElem?_getD, List.getElem?_eq_none (by omega)]; exact ⟨by simp, by simp⟩
      have hrp : ReadsInt wr .u32 A2 ps.length ps := own_reads' HS.out.pown
      have hVb := HS.out.at_.eq
      rw [trim_zero HS.out.at_.k0, Int.mul_zero, Int.add_zero] at hVb
      have hlast := HS.out.at_.last
      have hboxr := HS.out.box
      have hbelr := HS.out.bel
      rw [← hpl] at hrp hpt ⊢
      have z1 : (wr.alloc (Obj.cells #[Value.pointer none, Value.slice none 0 0] 72)).heap.size = wr.heap.size + 1 := World.size_alloc _ _
      have hk1 := blk_new wr (Obj.cells #[Value.pointer none, Value.slice none 0 0] 72)
      have hk2 := blk_new (wr.alloc (Obj.cells #[Value.pointer none, Value.slice none 0 0] 72)) (Obj.cells #[Value.slice A2 pl c3] 22)
      have hk1' := blk_alloc hk1 (Obj.cells #[Value.slice A2 pl c3] 22)
      have hB9 : Below wr.heap.size wr ((wr.alloc (Obj.cells #[Value.pointer none, Value.slice none 0 0] 72)).alloc (Obj.cells #[Value.slice A2 pl c3] 22)) := below_alloc (below_alloc (Below.refl _ _) _) _
      have z2 : ((wr.alloc (Obj.cells #[Value.pointer none, Value.slice none 0 0] 72)).alloc (Obj.cells #[Value.slice A2 pl c3] 22)).heap.size = wr.heap.size + 1 + 1 := by rw [World.size_alloc, z1]
      rw [z1] at hk2
      generalize (wr.alloc (Obj.cells #[Value.pointer none, Value.slice none 0 0] 72)).alloc (Obj.cells #[Value.slice A2 pl c3] 22) = W9 at *
      have hst := back_stops Fence.wide (8 - 1) trivial rfl (by omega) (wr.heap.size + 1) A2 pl c3 ps hps32 wr hpl.symm hrp.2.1 hrp W9 hB9 hk2
      refine wpIn_rangeFunc_ownG rfl (by omega) (gf := 72) (lb := #[.pointer (some ⟨wr.heap.size + 1, 0, none⟩)]) rfl trivial (enters_of Tryd.func72 (by kernel_rfl) rfl)
        hst KpB.t (KpB.b (by omega) (by omega)) (Below.refl _ _) (fun _ => rfl)
        (fun pre W => (Lib.IsBuilder 72 5 wr.heap.size wr.heap.size (nums .u8 (sgn pre)) W ∧ W.heap[wr.heap.size + 1]? = some (.cells #[Value.slice A2 pl c3] 22 (0, 0))) ∧ Below wr.heap.size wr W)
        (fun _ _ _ => False)
        (OwnFrom.and (OwnFrom.and (isb_own _ _ _ _) (blk_own _ _ _ _)) (ownFrom_below (Nat.le_refl _) (by omega)))
        (fun _ _ _ _ _ hs _ _ => hs)
        ⟨⟨.inl ⟨Nat.le_refl _, _, hk1', own_nil _ _ _ _, by simp [Value.ownBlock]⟩, hk2⟩, hB9⟩
        ?a1 ?assign ?body ?done ?stop
      case assign =>
        intro l x W K hK
        gi_wp2
        exact hK
      case stop =>
        rintro D c pre W _ _ h _
        exact h.elim
      case body =>
        rintro l pre x W ⟨⟨hIB, hS2⟩, hB⟩ hlen
        have e9 : dgs x.1.2 9 = #[.int .u8 (dgt x.1.2 0), .int .u8 (dgt x.1.2 1), .int .u8 (dgt x.1.2 2), .int .u8 (dgt x.1.2 3), .int .u8 (dgt x.1.2 4), .int .u8 (dgt x.1.2 5), .int .u8 (dgt x.1.2 6), .int .u8 (dgt x.1.2 7), .int .u8 (dgt x.1.2 8)] := by simp [dgs, dgc]
        have hdig := digits_any x.1.2 W x.2.1 x.2.2
        rw [e9] at hdig
        gi_wp2_with (fail)
        refine ⟨trivial, ?_⟩
        refine (CallsIn.inRound l (callsIn_wide.2 hdig)).mono ?_
        rintro e W1 ⟨rfl, hb1⟩
        clear hdig e9
        gi_wp2_with (fail)
        refine ⟨trivial, ?_⟩
        have hbd := below_alloc hb1 (Obj.cells #[Value.int IntKind.u8 (dgt x.1.2 0), Value.int IntKind.u8 (dgt x.1.2 1), Value.int IntKind.u8 (dgt x.1.2 2), Value.int IntKind.u8 (dgt x.1.2 3), Value.int IntKind.u8 (dgt x.1.2 4), Value.int IntKind.u8 (dgt x.1.2 5), Value.int IntKind.u8 (dgt x.1.2 6), Value.int IntKind.u8 (dgt x.1.2 7), Value.int IntKind.u8 (dgt x.1.2 8)] 76)
        have hnw := blk_new W1 (Obj.cells #[Value.int IntKind.u8 (dgt x.1.2 0), Value.int IntKind.u8 (dgt x.1.2 1), Value.int IntKind.u8 (dgt x.1.2 2), Value.int IntKind.u8 (dgt x.1.2 3), Value.int IntKind.u8 (dgt x.1.2 4), Value.int IntKind.u8 (dgt x.1.2 5), Value.int IntKind.u8 (dgt x.1.2 6), Value.int IntKind.u8 (dgt x.1.2 7), Value.int IntKind.u8 (dgt x.1.2 8)] 76)
        generalize W1.alloc (Obj.cells #[Value.int IntKind.u8 (dgt x.1.2 0), Value.int IntKind.u8 (dgt x.1.2 1), Value.int IntKind.u8 (dgt x.1.2 2), Value.int IntKind.u8 (dgt x.1.2 3), Value.int IntKind.u8 (dgt x.1.2 4), Value.int IntKind.u8 (dgt x.1.2 5), Value.int IntKind.u8 (dgt x.1.2 6), Value.int IntKind.u8 (dgt x.1.2 7), Value.int IntKind.u8 (dgt x.1.2 8)] 76) = Wd at *
        have hwr := write_any wr.heap.size wr.heap.size W1.heap.size 76 (sgn pre) (dig9 x.1.2) 9 Wd (isb_below hIB hbd) hnw (by decide) (by decide) (by rw [sgn_length]; show _ + 9 ≤ _; omega) (by have := hB.size; have := hbd.size; omega)
        refine (CallsIn.inRound l (callsIn_wide.2 hwr)).mono ?_
        rintro e W3 ⟨rfl, ⟨hIB3, hb3⟩, hkb⟩
        gi_wp2_with (fail)
        have hS3 : W3.heap[wr.heap.size + 1]? = some (.cells #[Value.slice A2 pl c3] 22 (0, 0)) := hkb _ _ (by omega) (fun cs e => by injection e with _ e; exact absurd e (by decide)) (blk_below hS2 hbd)
        refine ⟨⟨Nat.le_trans hbd.size hb3.size, fun k o _ hk ho => hkb k o (fun e => ?_) (fun cs e => by rw [e] at ho; cases ho) (blk_below hk hbd)⟩, ⟨(hbd.mono hB.size).trans hb3, hS3.trans hS2.symm⟩, ⟨by rw [sgn_snoc]; exact hIB3, hS3⟩, hB.trans ((hbd.mono hB.size).trans hb3)⟩
        obtain ⟨cs, hcs⟩ := isb_block hIB
        rw [e, hcs] at hk
        injection hk with hk
        rw [← hk] at ho
        cases ho
      case done =>
        rintro D ys W hD rfl ⟨⟨hIB, hS2⟩, hB⟩ hK
        have hwD : w.heap.size ≤ D := by have := hbelr.size; omega
        have hso := sgn_out ps hps32 pl (by omega)
        rw [show ps.length - pl = 0 by omega, List.drop_zero] at hso
        rw [hso] at hIB
        have hdg := outP_digs ps
        have hne : toB (outP ps) ≠ [] := fun e => by
          have h1 : outP ps = [] := by cases h : outP ps with
            | nil => rfl
            | cons a b => rw [h] at e; cases e
          have h2 := outP_val ps HS.out.at_.pcs
          rw [h1, horner_nil] at h2
          omega
        rw [← byteCells_toB _ hdg.byt] at hIB
        have hstr := bstring_any wr.heap.size wr.heap.size (toB (outP ps)) W hIB hne
        have htl : ∀ W', Calls Tryd.prog 59 #[.string ⟨(toB (outP ps)).toArray⟩, .string ⟨#[48]⟩] W' fun e w' => e = .returned (.string ⟨(toB (decI V.toNat)).toArray⟩) ∧ w' = W' := fun W' => by
          have h := Tryd.strings_TrimLeft_one ⟨(toB (outP ps)).toArray⟩ 48 (by decide) W'
          rw [show (ByteArray.mk (toB (outP ps)).toArray).data.toList = toB (outP ps) from rfl, toB_drop _ hdg.byt, hlast] at h
          exact h
        have hsz0 : (toB (decI V.toNat)).length ≤ 9 * pl := by
          have h1 := (List.dropWhile_sublist (l := outP ps) (· == 48)).length_le
          rw [hlast] at h1
          have h2 := sgn_length (uptoF (backF ps hps32) pl)
          rw [hso, uptoF_length] at h2
          unfold toB
          rw [List.length_map]
          omega
        obtain ⟨S, hS⟩ : ∃ S : ByteArray, S = ⟨(toB (decI V.toNat)).toArray⟩ := ⟨_, rfl⟩
        have hsz : S.size ≤ 2000000 := by rw [hS]; show (toB (decI V.toNat)).toArray.size ≤ _; simp; omega
        rw [← hS] at htl
        have Hstr := Lib.hid hstr; have Htl2 := Lib.hid htl; have HSS := Lib.hid hS; have HVb := Lib.hid hVb
        clear hstr htl hso hlast hsz0 hS hVb
        gi_wp2_with (first | (refine ⟨trivial, ?_⟩; gi_at_call 60; refine (callsIn_wide.2 Hstr.out).mono ?_; rintro e W10 ⟨rfl, hb10, hk10⟩; have HK := Lib.hid (hk10 _ _ (fun cs e => by cases e) hK); have HB10 := Lib.hid (hB.trans hb10); have hbx := blk_cell (blk_below hboxr HB10.out) 0; clear hb10 hk10) | (refine ⟨trivial, ?_⟩; gi_at_call 59; refine (callsIn_wide.2 (Htl2.out _)).mono ?_; rintro e W11 ⟨rfl, rfl⟩))
        all_goals (refine ⟨by simp, .inl ⟨_, _, rfl, run_takeDeferred HK.out, ?_⟩⟩; refine ⟨_, results_tmp rfl _ _ _, ?_, (hbelr.trans (HB10.out.mono hbelr.size)).trans (belowK_b (w := w) (Nat.le_refl _) _ D _ _ hwD HK.out rfl rfl)⟩; rw [HSS.out]; rfl)

set_option maxRecDepth 100000 in
set_option maxHeartbeats 1000000 in
theorem text_none (neg : Bool) (A : Option Addr) (n c : Nat) (xs : List Int) (w : World) (hr : ReadsInt w .u32 A n xs) (hc : n ≤ c) (hn : n ≤ 100000) (ht0 : trimLen xs = 0) :
    Calls Tryd.prog 19 #[.agg #[.bool neg, .slice A n c]] w fun e w' => e = .returned (.string ⟨(toB (textI neg xs)).toArray⟩) ∧ Below w.heap.size w w' := by
  have htx : textI neg xs = [48] := by unfold textI; rw [if_pos (trim_zero ht0)]
  rw [htx]
  have htrim := fun W (h : Below w.heap.size w W) => trim_any A n c xs W (hr.below h) hc (by omega)
  rw [ht0] at htrim
  have hr0 : ∀ W, Below w.heap.size w W → ReadsInt W .u32 A 0 (xs.take 0) := fun W h => (hr.below h).take_ 0 (by omega)
  have hB0 : Below w.heap.size w (w.alloc (Obj.cells #[Value.bool neg, Value.slice A n c] 24)) := below_alloc (Below.refl _ _) _
  have hk0 := blk_new w (Obj.cells #[Value.bool neg, Value.slice A n c] 24)
  have hx1 := blk_cell hk0 1
  have HB0 := Lib.hid hB0; have HK0 := Lib.hid hk0; have Htrim := Lib.hid htrim; have Hr0 := Lib.hid hr0
  clear hB0 hk0 htrim hr0 hr htx ht0
  go_enter Tryd.func19, Tryd.ntmps19
  go_wp2_with (first | (go_at_call 54; refine (Htrim.out _ HB0.out).mono ?_; rintro e W1 ⟨rfl, q, hW1⟩; have HB1 := Lib.hid (show Below w.heap.size w W1 by rw [hW1]; exact pw_below_drewN HB0.out q); clear hW1) | (go_at_call 53; refine (clone_any A 0 c (xs.take 0) W1 (Hr0.out _ HB1.out) (by omega) (by omega)).mono ?_; rintro e W2 ⟨A', c', rfl, _, _, hb2, _⟩; have HB2 := Lib.hid (below_then HB1.out HB1.out.size hb2); clear hb2))
  go_ret
  exact ⟨rfl, HB2.out⟩
/-- Text of any number. -/
theorem text_any (neg : Bool) (A : Option Addr) (n c : Nat) (xs : List Int) (w : World) (hw : Dv.Wd xs) (hr : ReadsInt w .u32 A n xs) (hc : n ≤ c) (hn : n ≤ 100000) :
    Calls Tryd.prog 19 #[.agg #[.bool neg, .slice A n c]] w fun e w' => e = .returned (.string ⟨(toB (textI neg xs)).toArray⟩) ∧ Below w.heap.size w w' := by
  by_cases h0 : trimLen xs = 0
  · exact text_none neg A n c xs w hr hc hn h0
  · have hl := trimLen_le xs
    have hl2 := hr.1
    obtain ⟨ad, rfl, _⟩ := hr.2.2 (by omega)
    exact text_great neg ad n c xs w hw hr hc hn (by omega)
end Go.Proofs.YtiofeehcnegejaaDoor
