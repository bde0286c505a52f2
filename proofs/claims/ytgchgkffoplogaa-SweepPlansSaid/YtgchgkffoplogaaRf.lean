/- goes: the iterator over its closure. -/
import Derived.Test.YtgchgkffoplogaaRe
namespace Go.Proofs.Ytgchgkffoplogaa
open Go.RowKit Go.Proofs.YtgchgkffoplogaaW.PrintWords
set_option linter.unusedVariables false
set_option linter.unusedSimpArgs false

/-- Each pair stands in the reference. -/
def PairsIn (ps : List (Int × Int)) (M : List Value) (X : List (List Int)) : Prop := ∀ j : Nat, j < ps.length → 0 ≤ (ps.getD j (0, 0)).1 ∧ (ps.getD j (0, 0)).1 < M.length ∧ rd (rdOf [] X (ps.getD j (0, 0)).1) 0 = (ps.getD j (0, 0)).2

theorem rd_map (ps : List (Int × Int)) (j : Nat) : rd (ps.map Prod.fst) (j : Int) = (ps.getD j (0, 0)).1 := by
  unfold rd
  rw [Int.toNat_natCast, List.getD_eq_getElem?_getD, List.getD_eq_getElem?_getD, List.getElem?_map]
  cases ps[j]? <;> rfl

/-- How the rounds end. -/
def Ended (over : Bool) (k n : Nat) (stop : Int) : Prop := k ≤ n ∧ (over = true → (k : Int) = stop ∧ 0 < k) ∧ (over = false → k = n)

/-- What the iterator leaves of the closure's variables. -/
def IterEnd (W W' : World) (ka kv kn n : Nat) (stop : Int) : Prop := ∃ over k, VarsAt W' ka kv kn over k ∧ Ended over k n stop ∧ Kept (fun b => b = ka ∨ b = kv ∨ b = kn) W W'

set_option maxRecDepth 100000 in
set_option maxHeartbeats 1600000 in
theorem iter_any {W : World} {okF : Nat → Prop} {ka kv kn kl kw ks C lb gp cp : Nat} {Al : Option Addr} {cl : Nat} {ps : List (Int × Int)} {stop : Int} {ok okE : Nat → Prop} {vL vT : Value} {M : List Value} {T : List Bool} {X : List (List Int)}
    (h : GoesAt W okF ka kv kn kl kw ks C lb gp cp Al cl ps stop ok okE vL vT M T X false 0) (hl : okF kl) (hw : okF kw) (hs : okF ks) (ha : ∀ ad, Al = some ad → okF ad.block) (hok : ∀ b, ok b → okF b) (hokE : ∀ b, okE b → okF b) (hlb : okF lb) (hgp : okF gp)
    (hd : ∀ b, okF b → b ≠ ka ∧ b ≠ kv ∧ b ≠ kn) (hin : PairsIn ps M X) (hps : ps.length ≤ 100000) (hM : M.length ≤ 100000) (hav : ka ≠ kv) (hns : kn ≠ ks) :
    Calls Try.prog 47 #[.func (.func 48) #[] #[.pointer (some ⟨ka, 0, none⟩), .pointer (some ⟨kv, 0, none⟩), .pointer (some ⟨kn, 0, none⟩), .pointer (some ⟨kl, 0, none⟩), .pointer (some ⟨kw, 0, none⟩), .pointer (some ⟨ks, 0, none⟩)], .pointer (some ⟨lb, 0, none⟩)] W fun e W' =>
      e = .returned (.tuple #[]) ∧ IterEnd W W' ka kv kn ps.length stop := by
  have cb := blk_cell h.blk 0
  have H := Lib.hid h; clear h
  go_enter Try.func47, Try.ntmps47
  go_wp2
  go_loopw [7] (fun iv wr => ∃ j : Nat, j ≤ ps.length ∧ iv = .int .i64 j ∧ Hid (GoesAt wr okF ka kv kn kl kw ks C lb gp cp Al cl ps stop ok okE vL vT M T X false j) ∧ Hid (Kept (fun b => b = ka ∨ b = kv ∨ b = kn) W wr)) (fun iv _ => ps.length - (intOf iv).toNat)
  case atStart => exact ⟨0, Nat.zero_le _, rfl, H, Lib.hid (Kept.refl _ _)⟩
  case round =>
    obtain ⟨j, hj, rfl, HG, HK⟩ := hrel
    by_cases hlt : j < ps.length
    · obtain ⟨c1, c2⟩ := HG.out.pairs j hlt
      obtain ⟨i0, i1, i2⟩ := hin j hlt
      obtain ⟨i, hi⟩ : ∃ i, i = (ps.getD j (0, 0)).1 := ⟨_, rfl⟩
      obtain ⟨v, hv⟩ : ∃ v, v = (ps.getD j (0, 0)).2 := ⟨_, rfl⟩
      rw [← hi] at c1 i0 i1 i2
      rw [← hv] at c2 i2
      have hrd : rd (ps.map Prod.fst) (j : Int) = i := by rw [hi]; exact rd_map ps j
      have Hrd := Lib.hid hrd; have Hi2 := Lib.hid i2
      clear hi hv hrd i2
      have p0 : (0 : Int) ≤ (j : Int) := by omega
      have p1 : (j : Int) < (ps.length : Int) := by omega
      have hmv : ∀ o : Obj, GoesAt (wr.alloc o) okF ka kv kn kl kw ks C lb gp cp Al cl ps stop ok okE vL vT M T X false j := fun o =>
        HG.out.move ⟨blk_alloc HG.out.vars.ok o, blk_alloc HG.out.vars.ov o, blk_alloc HG.out.vars.nn o⟩ hl hw hs ha hok hokE hlb hgp (fun b _ hb => Below.heap_alloc wr o b hb)
      have Hmv := Lib.hid hmv; clear hmv
      have hy := fun o : Obj => yield_any (i := i) (v := v) (Hmv.out o).vars (Hmv.out o).fix (Hmv.out o).ref (by rw [List.length_map]; exact hlt) (by rw [List.length_map]; exact hps) Hrd.out i0 i1 hM Hi2.out hav hns
      have Hy := Lib.hid hy; clear hy
      by_cases hst : (j : Int) + 1 = stop
      · have hsb : ((j : Int) + 1 == stop) = true := beq_iff_eq.2 hst
        have Hst := Lib.hid hst; clear hst
        go_wp2_with (go_at_call 48; refine (Hy.out _).mono ?_; rintro e w3 ⟨rfl, hv3, hk3⟩)
        refine bodyPost_ret (results_none rfl _ _ _) rfl ?_
        rw [hsb] at hv3
        exact ⟨rfl, true, j + 1, hv3, ⟨by omega, (fun _ => ⟨by rw [← Hst.out]; rfl, by omega⟩), (fun e => by cases e)⟩, (HK.out.alloc _).trans (hk3.mono (fun k e _ => .inl e))⟩
      · have hsb : ((j : Int) + 1 == stop) = false := beq_eq_false_iff_ne.2 hst
        clear hst
        go_wp2_with (go_at_call 48; refine (Hy.out _).mono ?_; rintro e w3 ⟨rfl, hv3, hk3⟩)
        rw [hsb] at hv3
        have hG3 := (Hmv.out (.cells #[.int .i64 i, .int .i64 v] 78)).move hv3 hl hw hs ha hok hokE hlb hgp (fun b hb hlt => hk3.block b hlt (fun e => by have := hd b hb; omega))
        have HG3 := Lib.hid hG3; have HK3 := Lib.hid ((HK.out.alloc (.cells #[.int .i64 i, .int .i64 v] 78)).trans (hk3.mono (fun k e _ => .inl e)))
        clear hG3 hv3 hk3
        go_roundw
        case rel => exact ⟨j + 1, by omega, by go_num, HG3, HK3⟩
        case measure => simp [intOf]; omega
    · have hz : ¬ (j : Int) < (ps.length : Int) := by omega
      go_wp2
      go_end0
      exact ⟨rfl, false, j, HG.out.vars, ⟨hj, (fun e => by cases e), (fun _ => by omega)⟩, HK.out⟩
end Go.Proofs.Ytgchgkffoplogaa
