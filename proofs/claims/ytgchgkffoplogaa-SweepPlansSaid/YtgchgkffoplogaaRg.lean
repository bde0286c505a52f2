/- goes answers true where the pairs stand in the reference. -/
import Derived.Test.YtgchgkffoplogaaRf
namespace Go.Proofs.Ytgchgkffoplogaa
open Go.RowKit Go.Proofs.YtgchgkffoplogaaW.PrintWords
set_option linter.unusedVariables false
set_option linter.unusedSimpArgs false

theorem iter_nil {W : World} {lb c : Nat} {A : Option Addr} {clo : Value} (h : W.heap[lb]? = some (.cells #[.slice A 0 c] 76 (0, 0))) :
    Calls Try.prog 47 #[clo, .pointer (some ⟨lb, 0, none⟩)] W fun e W' => e = .returned (.tuple #[]) ∧ W = W' := by
  have cb := blk_cell h 0
  clear h
  go_enter Try.func47, Try.ntmps47
  go_wp2
  go_loop [7] (fun iv => iv = .int .i64 0) (fun _ => 0)
  case atStart => rfl
  case round =>
    subst hrel
    go_wp2
    go_end0
    exact ⟨rfl, rfl⟩

/-- The pairs in their row. -/
theorem pairs_cells {w : World} {base : Nat} {v : Value} {ps : List (Int × Int)} (h : OwnRow PairR 78 2 w base v ps) (hp : 0 < ps.length) :
    ∃ gp cp, v = .slice (some ⟨gp, 0, none⟩) ps.length cp ∧ gp < w.heap.size ∧ ∀ j : Nat, j < ps.length → w.cell? ⟨gp, j * 2, none⟩ = some (.int .i64 (ps.getD j (0, 0)).1) ∧ w.cell? ⟨gp, j * 2 + 1, none⟩ = some (.int .i64 (ps.getD j (0, 0)).2) := by
  obtain ⟨inner, ho, _⟩ := id h
  obtain ⟨gp, cp, hv, _, hlt⟩ := ho.form hp
  refine ⟨gp, cp, hv, hlt, fun j hj => ?_⟩
  obtain ⟨A, c, hv2, _, hr⟩ := h.reads
  rw [hv] at hv2
  injection hv2 with hA _ _
  subst hA
  obtain ⟨ad, cs, hA, _, hR, hc⟩ := hr.get_ (0, 0) (j : Int) (by omega) (by omega)
  injection hA with hA
  subst hA
  rw [Int.toNat_natCast] at hR hc
  unfold PairR at hR
  subst hR
  have h0 := hc 0 _ rfl
  have h1 := hc 1 _ rfl
  rw [add_at] at h0 h1
  simp only [Nat.zero_add, Nat.add_zero] at h0 h1
  exact ⟨h0, h1⟩

set_option maxRecDepth 100000 in
set_option maxHeartbeats 1600000 in
theorem goes_any {w : World} {base lb C : Nat} {it v : Value} {ps : List (Int × Int)} {ok okE : Nat → Prop} {vL vT : Value} {M : List Value} {T : List Bool} {X : List (List Int)} (stop : Int)
    (hI : IterAt base w it ps lb v) (hR : RefAt w C ok okE vL vT M T X) (hE : ∀ b, okE b → b < w.heap.size) (hT : takesTo T T.length = ps.map Prod.fst) (hin : PairsIn ps M X) (hM : M.length ≤ 100000) :
    Calls Try.prog 21 #[it, .pointer (some ⟨C, 0, none⟩), .int .i64 stop] w fun e w' => e = .returned (.bool true) ∧ Below w.heap.size w w' := by
  have hall : ∀ W, Below w.heap.size w W → Calls Try.prog 19 #[.pointer (some ⟨C, 0, none⟩)] W fun e w' => ∃ v, e = .returned v ∧ w'.ownsRow W.heap.size 3 1 v (ps.map Prod.fst).length (nums .i64 (ps.map Prod.fst)) ∧ Below W.heap.size W w' := fun W hb => by
    have hR' := hR.bound.move (w' := W) (fun k hk _ => hb.block k hk.2) (fun k hk hlt => hb.block k hlt)
    have := refAll_any hR' hM
    rwa [hT] at this
  have hps : ps.length ≤ 100000 := by
    have h1 := congrArg List.length hT
    rw [List.length_map] at h1
    have h2 := takesTo_le T T.length
    have := hR.len
    omega
  have HI := Lib.hid hI; have HR := Lib.hid hR; have Hall := Lib.hid hall; have Hin := Lib.hid hin
  obtain ⟨itv, hitv⟩ : ∃ itv, itv = it := ⟨_, rfl⟩
  have hfn := hI.fn
  subst hfn
  clear hI hR hall hT hin hitv
  have hb2 := below_alloc (below_alloc (Below.refl w.heap.size w) (.cells #[.pointer (some ⟨C, 0, none⟩)] 35)) (.cells #[.int .i64 stop] 3)
  have Hb2 := Lib.hid hb2; clear hb2
  have hc2 : ((w.alloc (.cells #[.pointer (some ⟨C, 0, none⟩)] 35)).alloc (.cells #[.int .i64 stop] 3)).cell? ⟨w.heap.size, 0, none⟩ = some (.pointer (some ⟨C, 0, none⟩)) := blk_cell (blk_alloc (blk_new w _) _) 0
  have Hc2 := Lib.hid hc2
  go_enter Try.func21, Try.ntmps21
  go_upto_region 5 with (go_at_call 19; refine (Hall.out _ Hb2.out).mono ?_; rintro e w2 ⟨v2, rfl, hown2, hbel2⟩; obtain ⟨Al, cl, rfl⟩ := own_slice hown2)
  have hsz2 : w.heap.size + 2 ≤ w2.heap.size := by have := hbel2.size; simpa using this
  have hB2 : Below w.heap.size w w2 := Hb2.out.trans (hbel2.mono (by simp; omega))
  obtain ⟨W5, hW5⟩ : ∃ W5, W5 = ((((w2.alloc (.cells #[.slice Al ps.length cl] 22)).alloc (.cells #[.int .i64 0] 3)).alloc (.cells #[.bool true] 4)).alloc (.cells #[.bool false] 4)) := ⟨_, rfl⟩
  have k4 : W5.heap[w2.heap.size + 1 + 1 + 1]? = some (.cells #[.bool false] 4 (0, 0)) := by rw [hW5]; simpa using blk_new (((w2.alloc (.cells #[.slice Al ps.length cl] 22)).alloc (.cells #[.int .i64 0] 3)).alloc (.cells #[.bool true] 4)) (.cells #[.bool false] 4)
  have k3 : W5.heap[w2.heap.size + 1 + 1]? = some (.cells #[.bool true] 4 (0, 0)) := by rw [hW5]; exact blk_alloc (by simpa using blk_new ((w2.alloc (.cells #[.slice Al ps.length cl] 22)).alloc (.cells #[.int .i64 0] 3)) (.cells #[.bool true] 4)) _
  have k2 : W5.heap[w2.heap.size + 1]? = some (.cells #[.int .i64 0] 3 (0, 0)) := by rw [hW5]; exact blk_alloc (blk_alloc (by simpa using blk_new (w2.alloc (.cells #[.slice Al ps.length cl] 22)) (.cells #[.int .i64 0] 3)) _) _
  have k1 : W5.heap[w2.heap.size]? = some (.cells #[.slice Al ps.length cl] 22 (0, 0)) := by rw [hW5]; exact blk_alloc (blk_alloc (blk_alloc (blk_new w2 _) _) _) _
  have hB5 : Below w2.heap.size w2 W5 := by rw [hW5]; exact below_alloc (below_alloc (below_alloc (below_alloc (Below.refl _ _) _) _) _) _
  have kw : W5.heap[w.heap.size]? = some (.cells #[.pointer (some ⟨C, 0, none⟩)] 35 (0, 0)) := blk_below ((hbel2.block _ (by simp; omega)).trans (blk_alloc (blk_new w _) _)) hB5
  have ks : W5.heap[w.heap.size + 1]? = some (.cells #[.int .i64 stop] 3 (0, 0)) := blk_below ((hbel2.block _ (by simp)).trans (by simpa using blk_new (w.alloc (.cells #[.pointer (some ⟨C, 0, none⟩)] 35)) (.cells #[.int .i64 stop] 3))) hB5
  have hBW : Below w.heap.size w W5 := hB2.trans (hB5.mono hB2.size)
  have hR5 : RefAt W5 C (fun b => ok b ∧ b < w.heap.size) okE vL vT M T X := HR.out.bound.move (fun b hb _ => hBW.block b hb.2) (fun b _ hlt => hBW.block b hlt)
  have hrl : ReadsInt W5 .i64 Al (ps.map Prod.fst).length (ps.map Prod.fst) := by
    obtain ⟨A, c, e, hr⟩ := own_reads hown2
    injection e with e1 _ _
    subst e1
    exact hr.below hB5
  have hlb : W5.heap[lb]? = some (.cells #[v] 76 (0, 0)) := (hBW.block lb (blk_lt HI.out.blk)).trans HI.out.blk
  have hla : ∀ ad, Al = some ad → ad.block < w2.heap.size := fun ad e => own_lt hown2 ad.block (by rw [e]; rfl)
  have hsz5 : W5.heap.size = w2.heap.size + 4 := by rw [hW5]; simp
  have hiter : Calls Try.prog 47 #[.func (.func 48) #[] #[.pointer (some ⟨w2.heap.size + 1 + 1, 0, none⟩), .pointer (some ⟨w2.heap.size + 1 + 1 + 1, 0, none⟩), .pointer (some ⟨w2.heap.size + 1, 0, none⟩), .pointer (some ⟨w2.heap.size, 0, none⟩), .pointer (some ⟨w.heap.size, 0, none⟩), .pointer (some ⟨w.heap.size + 1, 0, none⟩)], .pointer (some ⟨lb, 0, none⟩)] W5 fun e W' => e = .returned (.tuple #[]) ∧ IterEnd W5 W' (w2.heap.size + 1 + 1) (w2.heap.size + 1 + 1 + 1) (w2.heap.size + 1) ps.length stop := by
    rcases Nat.eq_zero_or_pos ps.length with hp | hp
    · have hv : ∃ A c, v = .slice A ps.length c ∧ ps.length ≤ c := HI.out.row.slice_
      obtain ⟨A, c, hv, _⟩ := hv
      rw [hp] at hv
      rw [hv] at hlb
      refine (iter_nil hlb).mono ?_
      rintro e w' ⟨rfl, rfl⟩
      exact ⟨rfl, false, 0, ⟨k3, k4, k2⟩, ⟨Nat.zero_le _, (fun e => by cases e), (fun _ => hp.symm)⟩, Kept.refl _ _⟩
    · obtain ⟨gp, cp, hv, hgp, hc⟩ := pairs_cells HI.out.row hp
      rw [hv] at hlb
      have hG : GoesAt W5 (fun b => b < w2.heap.size + 1) (w2.heap.size + 1 + 1) (w2.heap.size + 1 + 1 + 1) (w2.heap.size + 1) w2.heap.size w.heap.size (w.heap.size + 1) C lb gp cp Al cl ps stop (fun b => ok b ∧ b < w.heap.size) okE vL vT M T X false 0 :=
        ⟨⟨k3, k4, k2⟩, ⟨by simpa using k1, kw, ks, hrl⟩, hR5, hlb, fun j hj => ⟨pw_cell_below hBW (hc j hj).1, pw_cell_below hBW (hc j hj).2⟩⟩
      exact iter_any hG (by omega) (by omega) (by omega) (fun ad e => by have := hla ad e; omega) (fun b hb => by have := hb.2; omega) (fun b hb => by have := hE b hb; omega) (by have := blk_lt HI.out.blk; omega) (by omega) (fun b hb => by omega) Hin.out hps hM (by omega) (by omega)
  rw [← hW5]
  have Hiter := Lib.hid hiter; have Kw := Lib.hid kw; have Ks := Lib.hid ks; have K1 := Lib.hid k1; have HBW := Lib.hid hBW; have Hsz5 := Lib.hid hsz5
  clear hiter kw ks k1 k2 k3 k4 hW5 hB5 hBW hR5 hrl hlb hla hsz5 hown2 hbel2 hB2
  go_upto_region 6 with (go_at_call 47; refine Hiter.out.mono ?_; rintro e w6 ⟨rfl, hend⟩)
  obtain ⟨over, k, hv6, ⟨hkn, he1, he2⟩, hK6⟩ := hend
  have co := blk_cell hv6.ok 0
  have cn := blk_cell hv6.nn 0
  have cs := blk_cell ((hK6.block (w.heap.size + 1) (by have := Hsz5.out; omega) (by omega)).trans Ks.out) 0
  have cL := blk_cell ((hK6.block w2.heap.size (by have := Hsz5.out; omega) (by omega)).trans K1.out) 0
  have HB6 := Lib.hid (HBW.out.trans (hK6.below (B := w.heap.size) HBW.out.size (fun b e _ => by rcases e with rfl | rfl | rfl <;> omega)))
  clear hv6 hK6
  cases over
  · have hk := he2 rfl
    subst hk
    clear he1 he2
    by_cases hst : (ps.length : Int) = stop
    · subst hst
      by_cases hp : ps = []
      · go_wp2
        go_ret
        exact ⟨rfl, HB6.out⟩
      · have hp2 : 0 < ps.length := List.length_pos_iff.2 hp
        go_wp2
        go_ret
        exact ⟨rfl, HB6.out⟩
    · have hsb : ((ps.length : Int) == stop) = false := beq_eq_false_iff_ne.2 hst
      clear hst
      go_wp2
      go_ret
      exact ⟨rfl, HB6.out⟩
  · obtain ⟨hk1, hk2⟩ := he1 rfl
    subst hk1
    clear he1 he2
    have hp : 0 < (k : Int) := by omega
    go_wp2
    go_ret
    exact ⟨rfl, HB6.out⟩
end Go.Proofs.Ytgchgkffoplogaa
