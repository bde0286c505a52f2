/- The walk of Sweep. -/
import Derived.Test.YtgchgkffoplogaaHb
namespace Go.Proofs.Ytgchgkffoplogaa
open Go.RowKit Go.Shelf Go.Proofs.YtgchgkffoplogaaW.PrintWords
set_option linter.unusedVariables false
set_option linter.unusedSimpArgs false
attribute [local go_sem] Oper.semAt_some

/-- The two variables of Sweep's loop: what is kept yet, what is to be freed. -/
structure SwAt (n1 bk bo : Nat) (w3 W : World) (p : List Int × List Int) : Prop where
  kb : ∃ A c, W.heap[bk]? = some (.cells #[.slice A p.1.length c] 22 (0, 0)) ∧ ReadsInt w3 .i64 A p.1.length p.1 ∧ p.1.length ≤ c ∧ (0 < p.1.length → ∀ ad, A = some ad → ad.block < bk)
  ob : ∃ v, W.heap[bo]? = some (.cells #[v] 22 (0, 0)) ∧ W.ownsRow n1 3 1 v p.2.length (nums .i64 p.2)
  kp : KpS n1 bk bo w3 W
theorem row_ne_other {w : World} {base : Nat} {e : TypeId} {size n : Nat} {v : Value} {xs : List Value} (h : w.ownsRow base e size v n xs) {row : Option Nat} (hr : ∀ r, row = some r → ∃ o : Obj, w.heap[r]? = some o ∧ o.isCells = false) : v.ownBlock = none ∨ v.ownBlock ≠ row := by
  cases hv : v.ownBlock with
  | none => exact .inl rfl
  | some k =>
    refine .inr (fun e' => ?_)
    obtain ⟨cells, hc⟩ := own_typed h k hv
    obtain ⟨o, ho, hf⟩ := hr k e'.symm
    rw [hc] at ho
    injection ho with ho
    subst ho
    cases hf
theorem swAt_own {n1 bk bo : Nat} {w3 : World} (f : List (Int × V.El) → List Int × List Int) (hn : n1 ≤ w3.heap.size) (hbk : bk < n1) (hbo : bo < n1) : OwnFrom n1 (fun (pre : List (Int × V.El)) W => SwAt n1 bk bo w3 W (f pre)) := by
  intro pre W W' row hs hg hr
  obtain ⟨⟨A, c, h1, h2⟩, ⟨v, h3, h4⟩, h5⟩ := hs
  refine ⟨⟨A, c, (hg.block bk (blk_lt h1) (fun e => by have := (hr bk e.symm).1; omega)).trans h1, h2⟩, ⟨v, (hg.block bo (blk_lt h3) (fun e => by have := (hr bo e.symm).1; omega)).trans h3, own_other h4 hg (row_ne_other h4 (fun r e => (hr r e).2))⟩, ?_⟩
  exact h5.grown hg (fun k e => (hr k e).1) (Nat.le_trans hn h5.size)
/-- What is to be freed, appended and stored. -/
theorem SwAt.push {n1 bk bo : Nat} {w3 W w1 : World} {ks os : List Int} {x : Int} {v v' : Value} {A : Option Addr} {c : Nat} (hn : n1 ≤ w3.heap.size) (hne : bk ≠ bo) (hbk : bk < n1) (hbo : bo < n1)
    (h1 : W.heap[bk]? = some (.cells #[.slice A ks.length c] 22 (0, 0))) (h2 : ReadsInt w3 .i64 A ks.length ks) (h2c : ks.length ≤ c) (h2b : 0 < ks.length → ∀ ad, A = some ad → ad.block < bk)
    (h3 : W.heap[bo]? = some (.cells #[v] 22 (0, 0))) (h4 : W.ownsRow n1 3 1 v os.length (nums .i64 os)) (h5 : KpS n1 bk bo w3 W)
    (ho : w1.ownsRow n1 3 1 v' (os.length + 1) (nums .i64 os ++ [.int .i64 x])) (hg : (W.alloc (.cells #[.int .i64 x] 3)).grownBy w1 v.ownBlock) :
    SwAt n1 bk bo w3 (w1.setCell ⟨bo, 0, none⟩ v') (ks, os ++ [x]) ∧ KeepsOthers W (w1.setCell ⟨bo, 0, none⟩ v') ∧ KpS n1 bk bo W (w1.setCell ⟨bo, 0, none⟩ v') ∧ w1.cell? ⟨bo, 0, none⟩ = some v ∧ w1.frozen? ⟨bo, 0, none⟩ = false := by
  have hws : n1 ≤ W.heap.size := Nat.le_trans hn h5.size
  have k1 := blk_grown (blk_alloc h1 _) hg (own_ne h4 h1 (by decide))
  have k3 := blk_grown (blk_alloc h3 _) hg (own_ne h4 h3 (by decide))
  have kA : KpS n1 bk bo W (W.alloc (.cells #[.int .i64 x] 3)) := (KpS.refl n1 bk bo W).alloc hws _
  have kB : KpS n1 bk bo W w1 := kA.grown hg (own_base h4) (by rw [World.size_alloc]; omega)
  have kC := kB.set_ (p := ⟨bo, 0, none⟩) (.inr (.inl rfl)) v'
  refine ⟨⟨⟨A, c, blk_far k1 (p := ⟨bo, 0, none⟩) hne _, h2, h2c, h2b⟩, ⟨v', blk_set k3 0 _, ?_⟩, h5.t kC⟩, ?_, kC, blk_cell k3 0, blk_frozen k3 0⟩
  · have := own_setCell ho (p := ⟨bo, 0, none⟩) (own_ne ho k3 (by decide)) v'
    simpa [nums] using this
  · refine ((KeepsOthers.alloc W _).trans (KeepsOthers.of_grownBy hg (fun j o e hj => ?_))).trans (KeepsOthers.setCell _ _ _)
    obtain ⟨cells, hc⟩ := own_typed (h4.alloc (.cells #[.int .i64 x] 3)) j e
    rw [hc] at hj
    injection hj with hj
    subst hj
    rfl
theorem stepS_len (l : List Int) : ∀ p : List Int × List Int, (l.foldl stepS p).2.length ≤ p.2.length + l.length := by
  induction l with
  | nil => intro p; simp
  | cons a l ih =>
    intro p
    have h1 := ih (stepS p a)
    have h2 : (stepS p a).2.length ≤ p.2.length + 1 := by
      unfold stepS
      split
      · simp
      · split <;> simp
    simp only [List.foldl_cons, List.length_cons] at h1 ⊢
    omega
/-- What Sweep answers and leaves. -/
def SweepPost (w W : World) (B C : Nat) (T : List Bool) (X : List (List Int)) (U : List Bool) (Y : List (List Int)) (rl : List Int) (e : Ending) (W' : World) : Prop :=
  ∃ v own' L', e = .returned v ∧ W'.ownsRow W.heap.size 3 1 v (sweepL T X rl).length (nums .i64 (sweepL T X rl)) ∧ Laid w W' own' B C L' (freesTX (T, X) (sweepL T X rl)).1 (freesTX (T, X) (sweepL T X rl)).2 U Y ∧ (∀ k, v.ownBlock = some k → own' k = 4)

set_option maxRecDepth 100000 in
set_option maxHeartbeats 4000000 in
theorem sweep_any {w W : World} {own : Nat → Nat} {B C : Nat} {L : List V.El} {T : List Bool} {X : List (List Int)} {U : List Bool} {Y : List (List Int)} (h : Laid w W own B C L T X U Y) (hl : L.length ≤ 100000)
    (A : Option Addr) (cA : Nat) (rl : List Int) (hr : ReadsInt W .i64 A rl.length rl) :
    Calls Try.prog 32 #[.pointer (some ⟨B, 0, none⟩), .slice A rl.length cA, .func (.func 28) #[] #[]] W fun e W' => SweepPost w W B C T X U Y rl e W' := by
  have hmark := mark_any h.tab hl h.el h.lenX A cA rl hr true
  simp only [if_true] at hmark
  have hall := fun W' (hb : Below W.heap.size W W') => V.all_any (h.tab.below hb) hl
  have Hmark := Lib.hid hmark; have Hall := Lib.hid hall; have H := Lib.hid h
  clear hmark hall h hr
  refine (callsIn_wide (n := 8)).1 ?_
  refine callsIn_of_wp_marks Try.func32 rfl trivial ?_ rfl
  simp only [Try.ntmps32, List.size_toArray, List.length_cons, List.length_nil, Nat.reduceAdd, Nat.reduceSub, Array.replicate_succ, Array.replicate_zero, List.push_toArray, List.append_toArray, List.nil_append, List.cons_append]
  gi_wp2_with (first | (refine ⟨trivial, ?_⟩; gi_at_call 27; refine (callsIn_wide.2 Hmark.out).mono ?_; rintro e w1 ⟨v0, rfl, hown0, hb1⟩; obtain ⟨A0, c0, rfl, hr0⟩ := own_reads hown0; have HB1 := Lib.hid hb1; have Hown0 := Lib.hid hown0; have Hr0 := Lib.hid hr0; clear hb1 hown0 hr0) | (refine ⟨trivial, ?_⟩; gi_at_call 57; refine (callsIn_wide.2 (Hall.out _ (below_alloc (below_alloc HB1.out _) _))).mono ?_; rintro e w3 ⟨it, rfl, ⟨v3, hI⟩, hb3⟩; obtain rfl := hI.fn; have HI := Lib.hid hI; have HB3 := Lib.hid hb3; clear hI hb3))
  obtain ⟨bk, hbk⟩ : ∃ bk, bk = w1.heap.size := ⟨_, rfl⟩
  have hz2 : ((w1.alloc (Obj.cells #[Value.slice A0 (marks T X rl).length c0] 22)).alloc (Obj.cells #[Value.slice none 0 0] 22)).heap.size = bk + 1 + 1 := by simp [hbk]
  have hbkb : ((w1.alloc (Obj.cells #[Value.slice A0 (marks T X rl).length c0] 22)).alloc (Obj.cells #[Value.slice none 0 0] 22)).heap[bk]? = some (.cells #[.slice A0 (marks T X rl).length c0] 22 (0, 0)) := by
    rw [hbk]; exact blk_alloc (blk_new w1 _) _
  have hbob : ((w1.alloc (Obj.cells #[Value.slice A0 (marks T X rl).length c0] 22)).alloc (Obj.cells #[Value.slice none 0 0] 22)).heap[bk + 1]? = some (.cells #[.slice none 0 0] 22 (0, 0)) := by
    have := blk_new (w1.alloc (Obj.cells #[Value.slice A0 (marks T X rl).length c0] 22)) (Obj.cells #[Value.slice none 0 0] 22)
    rw [World.size_alloc, ← hbk] at this; exact this
  have hb2 : Below w1.heap.size w1 ((w1.alloc (Obj.cells #[Value.slice A0 (marks T X rl).length c0] 22)).alloc (Obj.cells #[Value.slice none 0 0] 22)) := below_alloc (below_alloc (Below.refl _ _) _) _
  have hI := HI.out
  have hB3 := HB3.out
  rw [hz2] at hI hB3
  rw [← hbk] at hb2 ⊢
  generalize (w1.alloc (Obj.cells #[Value.slice A0 (marks T X rl).length c0] 22)).alloc (Obj.cells #[Value.slice none 0 0] 22) = w2 at *
  have hb13 : Below w1.heap.size w1 w3 := by rw [← hbk]; exact hb2.trans (hB3.mono (by omega))
  have hbW3 : Below W.heap.size W w3 := below_then HB1.out HB1.out.size hb13
  have hkb3 := (hB3.block bk (by omega)).trans hbkb
  have hob3 := (hB3.block (bk + 1) (by omega)).trans hbob
  have hr3 := Hr0.out.below hb13
  have hml : (marks T X rl).length ≤ c0 := own_le Hown0.out
  have hmb : 0 < (marks T X rl).length → ∀ ad, A0 = some ad → ad.block < bk := fun hp ad e => by
    obtain ⟨g, cap, hv, _, h2⟩ := Hown0.out.form hp
    injection hv with hv _ _
    rw [e] at hv; injection hv with hv
    subst hv; rw [hbk]; exact h2
  obtain ⟨n1, hn1⟩ : ∃ n1, n1 = w3.heap.size := ⟨_, rfl⟩
  have hlb : bk + 1 + 1 < n1 := by rw [hn1]; exact blk_lt hI.blk
  have hTL := H.out.tab.len
  obtain ⟨ps, hps⟩ : ∃ ps, ps = V.pairsTo L T T.length := ⟨_, rfl⟩
  have hpsl : ps.length ≤ 100000 := by rw [hps]; exact Nat.le_trans (V.pairsTo_le L T T.length) (by omega)
  have hpsf : ps.map Prod.fst = takesTo T T.length := by rw [hps]; exact V.pairsTo_fst L T T.length
  rw [← hps] at hI
  have hst := all_stops Fence.wide (8 - 1) trivial rfl (by omega) (bk + 1 + 1) bk (bk + 1) ps v3 (bk + 1 + 1) w3 hI.row hpsl (by omega) (by omega) (by omega) (by omega) hI.blk
  rw [← hn1] at hst
  have h0 : SwAt n1 bk (bk + 1) w3 w3 ((([] : List (Int × V.El)).map Prod.fst).foldl stepS (marks T X rl, [])) :=
    ⟨⟨A0, c0, hkb3, hr3, hml, hmb⟩, ⟨_, hob3, own_nil _ _ _ _⟩, KpS.refl _ _ _ _⟩
  have HD3 := Lib.hid (H.out.below 4 hbW3)
  have Hpsf := Lib.hid hpsf; have Hn1 := Lib.hid hn1; have HbW3 := Lib.hid hbW3; have HTL := Lib.hid hTL; have Hbk := Lib.hid hbk
  have hbkW : W.heap.size ≤ bk := by rw [hbk]; exact HB1.out.size
  clear Hmark Hall HB1 Hown0 Hr0 HI HB3 hz2 hbkb hbob hb2 hI hB3 hb13 hkb3 hob3 hr3 hml hmb hps hpsf hTL hbW3 hbk hn1
  refine wpIn_rangeFunc_ownG rfl (by omega) (gf := 61) (lb := #[.pointer (some ⟨bk + 1 + 1, 0, none⟩)]) rfl trivial (enters_of Try.func61 (by kernel_rfl) rfl)
    hst KpS.t (fun W l o o' h1 h2 h3 h4 => KpS.b W l o o' (by rw [Hn1.out]; exact h1) h2 h3 h4) (Below.refl _ _) (fun _ => rfl)
    (fun pre W => SwAt n1 bk (bk + 1) w3 W ((pre.map Prod.fst).foldl stepS (marks T X rl, [])))
    (fun _ _ _ => False)
    (by rw [← Hn1.out]; exact swAt_own (fun pre => (pre.map Prod.fst).foldl stepS (marks T X rl, [])) (Nat.le_of_eq Hn1.out) (by omega) (by omega))
    (fun _ _ _ _ _ hs _ _ => hs)
    h0
    (fun x => { tmps := #[Value.pointer (some { block := B, off := 0 }), Value.slice A rl.length cA, Value.func (Fn.func 28) #[] #[],
          undef, undef, undef, Value.slice none 0 0, Value.pointer (some { block := bk, off := 0 }),
          Value.pointer (some { block := bk + 1, off := 0 }), .int .i64 x.1, undef, undef,
          Value.pointer (some { block := B, off := 0 }), Value.slice A rl.length cA, Value.func (Fn.func 28) #[] #[],
          Value.slice A0 (marks T X rl).length c0, Value.pointer (some { block := B, off := 0 }),
          Value.func (Fn.func 61) #[] #[Value.pointer (some { block := bk + 1 + 1, off := 0 })], .int .i64 x.1, V.encE x.2,
          undef, undef, undef, undef, undef, undef, undef, undef, undef, undef, undef, undef, undef, undef, undef,
          undef, undef, undef, undef, undef, undef, undef, undef, undef, undef, undef, undef], defers := [] }) ?assign ?body ?done ?stop
  case assign =>
    intro l x W K hK
    gi_wp2
    exact hK
  case body =>
    rintro l pre x W4 hI hlen
    have hnx : ((pre ++ [x]).map Prod.fst).foldl stepS (marks T X rl, []) = stepS ((pre.map Prod.fst).foldl stepS (marks T X rl, [])) x.1 := by
      rw [List.map_append, List.foldl_append]; rfl
    have hlen2 := stepS_len (pre.map Prod.fst) (marks T X rl, [])
    rw [List.length_map] at hlen2
    obtain ⟨p, hp⟩ : ∃ p, p = (pre.map Prod.fst).foldl stepS (marks T X rl, []) := ⟨_, rfl⟩
    rw [← hp] at hI hnx hlen2
    obtain ⟨ks, os⟩ := p
    have hos : os.length ≤ 100000 := by simp only [List.length_nil] at hlen2; omega
    obtain ⟨⟨Ak, ck, h1, h2, h2c, h2b⟩, ⟨vo, h3, h4⟩, h5⟩ := hI
    dsimp only at h1 h2 h2c h2b h4
    have Hnx := Lib.hid hnx
    clear hnx hp hlen2
    have ck1 := blk_cell h1 0
    have fk1 := blk_frozen h1 0
    have co1 := blk_cell h3 0
    have hW4 : n1 ≤ W4.heap.size := by rw [Hn1.out]; exact h5.size
    have hpush := fun w5 v' ho hg => SwAt.push (w1 := w5) (v' := v') (x := x.1) (Nat.le_of_eq Hn1.out) (by omega) (by omega) (by omega) h1 h2 h2c h2b h3 h4 h5 ho hg
    obtain ⟨i3, hi3, z31, z32, z33⟩ := info_parts info3
    have Hpush := Lib.hid hpush; have H1 := Lib.hid h1; have H3 := Lib.hid h3; have H4 := Lib.hid h4; have H5 := Lib.hid h5; have H2 := Lib.hid h2; have H2b := Lib.hid h2b
    clear hpush h1 h3 h4 h5 h2 h2b
    cases ks with
    | nil =>
      have hs : stepS ([], os) x.1 = ([], os ++ [x.1]) := rfl
      have Hs := Lib.hid hs
      clear hs
      gi_wp2_with (gi_at_builtin; refine wpListIn_append_own _ rfl _ _ 22 rfl n1 3 i3 (.int .i64 0) 1 8 Try.underlying22 hi3 z31 z32 z33 rfl (by decide) vo os.length (nums .i64 os) rfl (H4.out.alloc _) ⟨W4.heap.size, 0, none⟩ 1 1 [.int .i64 x.1] rfl rfl (World.news_of_block (blk_new W4 _)) (by simp [Value.oneCell']) (by simp [maxLen]; omega) (by omega) (by simp; omega) ?_; intro v5 w5 hown5 hg5 _; obtain ⟨g5, c5, rfl⟩ := ownsRow_succ hown5; obtain ⟨hsw, hko, hkp, hc5, hf5⟩ := Hpush.out w5 _ hown5 hg5; have Hsw := Lib.hid hsw; have Hko := Lib.hid hko; have Hkp := Lib.hid hkp; clear hsw hko hkp)
      exact ⟨Hko.out.from _, Hkp.out, by have h := Hsw.out; rw [← Hs.out, ← Hnx.out] at h; exact h⟩
    | cons k0 ks =>
      obtain ⟨ad, rfl, hcell⟩ := H2.out.at_ 0 (by omega) (by simp only [List.length_cons]; omega)
      have had := H2b.out (by simp) ad rfl
      have hcell4 : W4.cell? ad = some (.int .i64 k0) := by
        have e0 : ad.add (0 : Int).toNat = ad := by cases ad with | mk b o i => unfold Addr.add; cases i <;> simp
        rw [e0] at hcell
        rw [World.cell?_of_block (H5.out.block ad.block (by omega) (by omega) (by omega)), hcell]
        rfl
      have p0 : (0 : Int) < (ks.length : Int) + 1 := by omega
      have hcut := cut_from (P := Try.prog) 22 3 .i64 Try.underlying22 hi3 1 z32 (some ad) (ks.length + 1) ck 1 (by omega) (by omega)
      clear hcell
      by_cases he : k0 = x.1
      · have hs : stepS (k0 :: ks, os) x.1 = (ks, os) := by simp [stepS, he]
        have Hs := Lib.hid hs
        have hne : (k0 == x.1) = true := beq_iff_eq.2 he
        obtain ⟨A', hA'⟩ : ∃ A', A' = (if ck = 1 then some ad else (some ad).map (·.add 1)) := ⟨_, rfl⟩
        have hcut' : ∀ W : World, (Instr.slice 22 (.slice (some ad) (ks.length + 1) ck) (some (.int .i64 1)) none none).run Try.prog W = .ok (.slice A' ks.length (ck - 1)) W := fun W => by
          rw [hcut W, hA']; rfl
        have hdr := H2.out.drop_ (c := ck) 1 (by simp) (by simpa using h2c)
        rw [← hA'] at hdr
        have hdr' : ReadsInt w3 .i64 A' ks.length ks := hdr
        have hbA : 0 < ks.length → ∀ a', A' = some a' → a'.block < bk := fun hp a' e => by
          rw [hA'] at e
          have hbe : (ad.add 1).block = ad.block := by unfold Addr.add; split <;> rfl
          split at e
          · injection e with e; subst e; exact had
          · simp only [Option.map_some, Option.some.injEq] at e; subst e; rw [hbe]; exact had
        have hsw : SwAt n1 bk (bk + 1) w3 (W4.setCell ⟨bk, 0, none⟩ (.slice A' ks.length (ck - 1))) (ks, os) :=
          ⟨⟨A', ck - 1, blk_set H1.out 0 _, hdr', by show ks.length ≤ ck - 1; simp only [List.length_cons] at h2c; omega, hbA⟩, ⟨vo, blk_far H3.out (p := ⟨bk, 0, none⟩) (by simp) _, own_setCell H4.out (p := ⟨bk, 0, none⟩) (own_ne H4.out H1.out (by decide)) _⟩, H5.out.set_ (p := ⟨bk, 0, none⟩) (.inl rfl) _⟩
        have Hsw := Lib.hid hsw
        clear hs he hcut hdr hdr' hbA hsw hA'
        gi_wp2
        exact ⟨(KeepsOthers.setCell _ _ _).from _, (KpS.refl _ _ _ _).set_ (p := ⟨bk, 0, none⟩) (.inl rfl) _, by have h := Hsw.out; rw [← Hs.out, ← Hnx.out] at h; exact h⟩
      · have hs : stepS (k0 :: ks, os) x.1 = (k0 :: ks, os ++ [x.1]) := by simp [stepS, he]
        have Hs := Lib.hid hs
        have hne : (k0 == x.1) = false := beq_eq_false_iff_ne.2 he
        clear hs he
        gi_wp2_with (gi_at_builtin; refine wpListIn_append_own _ rfl _ _ 22 rfl n1 3 i3 (.int .i64 0) 1 8 Try.underlying22 hi3 z31 z32 z33 rfl (by decide) vo os.length (nums .i64 os) rfl (H4.out.alloc _) ⟨W4.heap.size, 0, none⟩ 1 1 [.int .i64 x.1] rfl rfl (World.news_of_block (blk_new W4 _)) (by simp [Value.oneCell']) (by simp [maxLen]; omega) (by omega) (by simp; omega) ?_; intro v5 w5 hown5 hg5 _; obtain ⟨g5, c5, rfl⟩ := ownsRow_succ hown5; obtain ⟨hsw, hko, hkp, hc5, hf5⟩ := Hpush.out w5 _ hown5 hg5; have Hsw := Lib.hid hsw; have Hko := Lib.hid hko; have Hkp := Lib.hid hkp; clear hsw hko hkp)
        exact ⟨Hko.out.from _, Hkp.out, by have h := Hsw.out; rw [← Hs.out, ← Hnx.out] at h; exact h⟩
  case done =>
    rintro D ys W4 hD hys hI hK
    subst hys
    obtain ⟨_, ⟨vo, h3, h4⟩, h5⟩ := hI
    have hsl : ((ys.map Prod.fst).foldl stepS (marks T X rl, [])).2 = sweepL T X rl := by rw [Hpsf.out]; exact sweepL_of T X rl
    rw [hsl] at h4
    have hn := Hn1.out
    have hbo4 : tagged own W.heap.size 4 (bk + 1) = 4 := tagged_ge (by omega)
    have hk34 : Kept (fun k => tagged own W.heap.size 4 k = 4) w3 W4 := ⟨h5.os, h5.tape, h5.output, h5.size, fun k hk hne => h5.block k (by omega) (fun e => hne (by rw [e]; exact tagged_ge (by omega))) (fun e => hne (by rw [e]; exact hbo4))⟩
    have hD4 := HD3.out.aside hk34
    have hst4 := h5.size
    obtain ⟨own4, hown4⟩ : ∃ own4, own4 = tagged (tagged own W.heap.size 4) w3.heap.size 4 := ⟨_, rfl⟩
    rw [← hown4] at hD4
    have hb4 : own4 (bk + 1) = 4 := by rw [hown4, tagged_lt (by omega)]; exact hbo4
    have hn4 : ∀ k, n1 ≤ k → own4 k = 4 := fun k hk => by rw [hown4]; exact tagged_ge (by omega)
    have hD5 : D < W4.heap.size := (Array.getElem?_eq_some_iff.1 hK).1
    have hDo : own4 D = 4 := hn4 D (by omega)
    obtain ⟨Ao, co, rfl⟩ := own_slice h4
    obtain ⟨sl, hsl2⟩ : ∃ sl, sl = sweepL T X rl := ⟨_, rfl⟩
    rw [← hsl2] at h4 h3
    have hsll : sl.length ≤ 100000 := by
      rw [hsl2]; have := takesTo_le (lessB T (markB T X rl)) T.length; have := HTL.out; unfold sweepL; omega
    have cb := blk_cell h3 0
    have hLl : L.length = X.length := HD3.out.lenX.symm
    have hTX : ∀ l : List Int, (freesTX (T, X) l).2.length = X.length := by
      intro l
      unfold freesTX
      have key : ∀ (l : List Int) (p : List Bool × List (List Int)), (l.foldl freeTX p).2.length = p.2.length := by
        intro l
        induction l with
        | nil => intro p; rfl
        | cons a l ih => intro p; rw [List.foldl_cons, ih, (freeTX_len p a).2]
      exact key l (T, X)
    have Hsl := Lib.hid hsl2; have H4 := Lib.hid h4; have H3 := Lib.hid h3; have HD4 := Lib.hid hD4; have HK := Lib.hid hK; have Hb4 := Lib.hid hb4; have Hn4 := Lib.hid hn4; have HDo := Lib.hid hDo; have HTX := Lib.hid hTX; have HLl := Lib.hid hLl
    clear h4 h3 h5 hsl hsl2 hD4 hown4 hb4 hn4 hDo hk34 hTX hLl hbo4 hK h0 hst
    gi_wp2
    gi_loopw [38] (fun iv wr => ∃ (j : Nat) (ownj : Nat → Nat) (Lj : List V.El), j ≤ sl.length ∧ iv = .int .i64 j ∧ Hid (Laid w wr ownj B C Lj (freesTX (T, X) (sl.take j)).1 (freesTX (T, X) (sl.take j)).2 U Y ∧ W4.heap.size ≤ wr.heap.size ∧ ∀ k, k < W4.heap.size → own4 k = 4 → ownj k = 4 ∧ wr.heap[k]? = W4.heap[k]?)) (fun iv _ => sl.length - (intOf iv).toNat)
    case atStart => exact ⟨0, own4, L, Nat.zero_le _, rfl, Lib.hid ⟨by simpa [freesTX] using HD4.out, Nat.le_refl _, fun k _ e => ⟨e, rfl⟩⟩⟩
    case round =>
      obtain ⟨j, ownj, Lj, hj, rfl, HJ⟩ := hrel
      by_cases hlt : j < sl.length
      · obtain ⟨go, c', hform, hg0, hg1⟩ := H4.out.form (by omega)
        injection hform with e1 _ e3
        subst e1; subst e3
        obtain ⟨hcell, _⟩ := own_at H4.out (j : Int) (by omega) (by omega)
        rw [Int.toNat_natCast] at hcell
        have hcr : _ = W4.cell? ⟨go, j, none⟩ := World.cell?_of_block (w' := W4) (w := W4) (a := ⟨go, j, none⟩) rfl
        have hcell2 := (World.cell?_of_block (a := ⟨go, j, none⟩) ((HJ.out.2.2 go hg1 (Hn4.out go hg0)).2)).trans hcell
        have hnext := foldl_take_succ freeTX (T, X) sl j hlt
        obtain ⟨x, hx⟩ : ∃ x, x = rd sl (j : Int) := ⟨_, rfl⟩
        rw [← hx] at hcell2 hnext
        have Hnext := Lib.hid hnext
        have hlj : Lj.length ≤ 100000 := by
          have h1 := HJ.out.1.lenX
          have h2 := HTX.out (sl.take j)
          have h3 := HLl.out
          omega
        have hfree := HJ.out.1.sfreeK hlj x
        have Hfree := Lib.hid hfree
        have p0 : (0 : Int) ≤ (j : Int) := by omega
        have p1 : (j : Int) < (sl.length : Int) := by omega
        clear hx hnext hcell hfree hcr hlj
        gi_wp2_with (refine ⟨trivial, ?_⟩; gi_at_call 51; refine (callsIn_wide.2 Hfree.out).mono ?_; rintro e w6 ⟨rfl, hl6, hk6⟩; have HL6 := Lib.hid hl6; have HK6 := Lib.hid hk6; clear hl6 hk6)
        go_roundw
        case rel =>
          refine ⟨j + 1, tagged ownj wr.heap.size 1, (if isT (freesTX (T, X) (sl.take j)).1 x then Lj.set x.toNat V.zE else Lj), by omega, by go_num, Lib.hid ⟨?_, Nat.le_trans HJ.out.2.1 HK6.out.size, fun k hk e => ?_⟩⟩
          · have h6 := HL6.out
            have e6 : freesTX (T, X) (sl.take (j + 1)) = freeTX (freesTX (T, X) (sl.take j)) x := Hnext.out
            rw [e6]
            unfold freeTX
            cases hb : isT (freesTX (T, X) (sl.take j)).1 x
            · simpa [hb] using h6
            · simpa [hb] using h6
          · obtain ⟨h1, h2⟩ := HJ.out.2.2 k hk e
            have hlt : k < wr.heap.size := Nat.lt_of_lt_of_le hk HJ.out.2.1
            exact ⟨(tagged_lt hlt).trans h1, (HK6.out.block k hlt (fun e' => by rw [h1] at e'; omega)).trans h2⟩
        case measure => simp [intOf]; omega
      · have hjl : j = sl.length := by omega
        obtain ⟨hL, hsz, hkp⟩ := HJ.out
        have hbl : bk + 1 < W4.heap.size := blk_lt H3.out
        have hbox := (hkp (bk + 1) hbl Hb4.out).2.trans H3.out
        have cb2 := blk_cell hbox 0
        have hKD := (hkp D hD5 HDo.out).2.trans HK.out
        have hrow := own_move H4.out (w1 := wr) (fun k e => (hkp k (own_lt H4.out k e) (Hn4.out k (own_base H4.out k e))).2)
        have hown4 : ∀ k, (Value.slice Ao sl.length co).ownBlock = some k → ownj k = 4 ∧ k < wr.heap.size := fun k e => ⟨(hkp k (own_lt H4.out k e) (Hn4.out k (own_base H4.out k e))).1, Nat.lt_of_lt_of_le (own_lt H4.out k e) hsz⟩
        have hDj : ownj D = 4 := (hkp D hD5 HDo.out).1
        rw [hjl, List.take_of_length_le (Nat.le_refl _)] at hL
        have HL := Lib.hid hL; have HKD := Lib.hid hKD; have Hrow := Lib.hid hrow; have Hown4 := Lib.hid hown4; have HDj := Lib.hid hDj
        have hz : ¬ (j : Int) < (sl.length : Int) := by omega
        clear hL hKD hrow hown4 hDj hkp hbox hjl
        gi_wp2
        refine ⟨by simp, .inl ⟨_, _, rfl, run_takeDeferred HKD.out, ?_⟩⟩
        have hkD : Kept (fun k => ownj k = 4) wr (wr.putObj D (.deferred none)) := ⟨rfl, rfl, rfl, by simp, fun k hk hne => World.putObj_heap_other (fun e => hne (e ▸ HDj.out))⟩
        refine ⟨_, results_tmp rfl _ _ _, ?_⟩
        refine ⟨_, _, _, rfl, ?_, HL.out.aside hkD |> fun h => by rw [Hsl.out] at h; exact h, fun k e => (tagged_lt (Hown4.out k e).2).trans (Hown4.out k e).1⟩
        rw [← Hsl.out]
        exact own_weaken (ownsRow_putObj Hrow.out _ HKD.out rfl) (by omega)
  case stop =>
    rintro D c pre W _ _ h _
    exact h.elim
end Go.Proofs.Ytgchgkffoplogaa
