/- strings.Builder: copyCheck, Write, of a builder in a block of the call's own. -/
import Derived.Test.YtiofeehcnegejaaDoorWhO
import Derived.Test.YtiofeehcnegejaaDoorShelf
import Derived.Laws.Externs
import Derived.Lib.AppendStr
import Derived.Lib.UnsafeStr
import Derived.Shelf.RegionOpenPlain
namespace Go.Proofs.YtiofeehcnegejaaDoor
open Go.RowKit Go.Proofs.YtiofeehcnegejaaDoorW.PrintWords
set_option linter.unusedVariables false
set_option linter.unusedSimpArgs false

theorem sizeB : (Tryd.prog.info? 72).map (·.size) = some 2 := by kernel_rfl
theorem liesB : liesAt Tryd.prog Tryd.prog.depth 72 (2 / Tryd.prog.cellsOf 72) 0 72 1 = true := by kernel_rfl
theorem infoByte : (Tryd.prog.info? 5).map (fun i => (i.zero, i.size, i.bytes)) = some (some (.int .u8 0), 1, 1) := by kernel_rfl

set_option maxRecDepth 100000 in
theorem check_used (b : Nat) (w : World) (h0 : w.cell? ⟨b, 0, none⟩ = some (.pointer (some ⟨b, 0, none⟩))) :
    Calls Tryd.prog 73 #[.pointer (some ⟨b, 0, none⟩)] w fun e w' => e = .returned (.tuple #[]) ∧ w' = w := by
  obtain ⟨j, hj, _⟩ := Option.map_eq_some_iff.1 sizeB
  go_enter Tryd.func73, Tryd.ntmps73
  go_wp2
  rw [Lib.run_neq_ptr_same w ⟨b, 0, none⟩ Tryd.underlying69 hj]
  go_wp2
  go_end0
  exact ⟨rfl, rfl⟩
set_option maxRecDepth 100000 in
theorem check_fresh (b : Nat) (w : World) (h0 : w.cell? ⟨b, 0, none⟩ = some (.pointer none)) (hsh : w.shape? b = some (72, 2)) (hfz : w.frozen? ⟨b, 0, none⟩ = false) :
    Calls Tryd.prog 73 #[.pointer (some ⟨b, 0, none⟩)] w fun e w' => e = .returned (.tuple #[]) ∧ w' = w.setCell ⟨b, 0, none⟩ (.pointer (some ⟨b, 0, none⟩)) := by
  obtain ⟨j, hj, hjs⟩ := Option.map_eq_some_iff.1 sizeB
  go_enter Tryd.func73, Tryd.ntmps73
  go_wp2
  rw [Lib.run_to_unsafe w ⟨b, 0, none⟩ Tryd.underlying69 Tryd.underlying108 hj (by rw [hjs]; decide) hsh (Nat.zero_lt_succ 1)]
  simp only [Result.andThen]
  rw [Oper.upon_value]
  go_wp2
  rw [run_callFunc_extern Tryd.func89 (by kernel_rfl) (by kernel_rfl) (by kernel_rfl) (e := Extern.AbiNoEscape.same) (by kernel_rfl)]
  rw [Lib.run_noEscape]
  simp only [Result.andThen]
  rw [Oper.upon_value]
  go_wp2
  rw [Lib.run_from_unsafe w ⟨b, 0, none⟩ Tryd.underlying108 Tryd.underlying69 hj hsh liesB]
  simp only [Result.andThen]
  rw [Oper.upon_value]
  go_wp2
  go_end0
  exact ⟨rfl, rfl⟩
/-- What a builder's method leaves: whatever is neither its own block nor a row of bytes. -/
def KeptBut5 (b : Nat) (w w' : World) : Prop := ∀ k o, k ≠ b → (∀ cs, o ≠ .cells cs 5 (0, 0)) → w.heap[k]? = some o → w'.heap[k]? = some o
theorem KeptBut5.set {b : Nat} {w w' : World} (h : KeptBut5 b w w') (i : Nat) (u : Value) : KeptBut5 b w (w'.setCell ⟨b, i, none⟩ u) := fun k o hk ho hw => (Below.heap_setCell _ _ _ _ (by simpa using hk)).trans (h k o hk ho hw)
theorem check_any (B b : Nat) (bs : List Value) (w : World) (h : Lib.IsBuilder 72 5 B b bs w) :
    Calls Tryd.prog 73 #[.pointer (some ⟨b, 0, none⟩)] w fun e w' => e = .returned (.tuple #[]) ∧ (Lib.BuilderAt 72 5 B b (.pointer (some ⟨b, 0, none⟩)) bs w' ∧ Below B w w') ∧ KeptBut5 b w w' := by
  rcases h with h | h
  · refine (check_fresh b w h.cell0 h.shape h.frozen0).mono ?_
    rintro e w' ⟨rfl, rfl⟩
    exact ⟨rfl, ⟨h.used _, (Below.refl B w).setCell (p := ⟨b, 0, none⟩) h.1 _⟩, KeptBut5.set (fun k o _ _ h => h) 0 _⟩
  · refine (check_used b w h.cell0).mono ?_
    rintro e w' ⟨rfl, rfl⟩
    exact ⟨rfl, ⟨h, Below.refl B _⟩, fun k o _ _ h => h⟩
/-- A block that holds whole numbers can be read. -/
theorem blk_reads {w : World} {g : Nat} {T : TypeId} {k : IntKind} {ys : List Int} (h : w.heap[g]? = some (.cells (nums k ys).toArray T (0, 0))) (hm : ys.length ≤ 9223372036854775807) : ReadsInt w k (some ⟨g, 0, none⟩) ys.length ys :=
  ⟨rfl, hm, fun _ => ⟨_, rfl, fun j hj => by
    rw [add_plain, blk_cell h j]
    simp [nums, List.getElem?_eq_getElem hj, List.getD_eq_getElem?_getD]⟩⟩

set_option maxHeartbeats 2000000 in
set_option maxRecDepth 100000 in
/-- (*strings.Builder).Write of a block's bytes: they come behind what is there. -/
theorem write_any (B b g T : Nat) (xs ys : List Int) (c : Nat) (w : World) (h : Lib.IsBuilder 72 5 B b (nums .u8 xs) w) (hg : w.heap[g]? = some (.cells (nums .u8 ys).toArray T (0, 0))) (hT5 : T ≠ 5) (hT : T ≠ 72) (hlen : xs.length + ys.length ≤ 140737488355328) (hBw : B ≤ w.heap.size) :
    Calls Tryd.prog 58 #[.pointer (some ⟨b, 0, none⟩), .slice (some ⟨g, 0, none⟩) ys.length c] w fun e w' => e = .returned (.tuple #[.int .i64 ys.length, .nilIface]) ∧ (Lib.IsBuilder 72 5 B b (nums .u8 (xs ++ ys)) w' ∧ Below B w w') ∧ KeptBut5 b w w' := by
  have hgb : g ≠ b := by
    rcases h with ⟨_, v, hb, _⟩ | ⟨_, v, hb, _⟩ <;> (rintro rfl; rw [hb] at hg; simp at hg; exact hT hg.2.symm)
  have Hg := Lib.hid hg
  clear hg
  obtain ⟨m, hm⟩ : ∃ m, m = ys.length := ⟨_, rfl⟩
  rw [← hm] at hlen ⊢
  have Hm := Lib.hid hm
  clear hm
  go_enter Tryd.func58, Tryd.ntmps58
  go_wp2_with (go_at_call 73; refine (check_any B b _ _ h).mono ?_)
  rintro e w1 ⟨rfl, ⟨h1, hb1⟩, hk1⟩
  obtain ⟨hB, v, hbk, hown, hne⟩ := h1
  have c0 : w1.cell? ⟨b, 0, none⟩ = some (.pointer (some ⟨b, 0, none⟩)) := by rw [Lib.cell_of_heap hbk]; rfl
  have c1 : w1.cell? ⟨b, 1, none⟩ = some v := by rw [Lib.cell_of_heap hbk]; rfl
  have hown1 : w1.ownsRow B 5 1 v xs.length (nums .u8 xs) := by simpa [nums] using hown
  have hrd : ReadsInt w1 .u8 (some ⟨g, 0, none⟩) m ys := by rw [Hm.out]; exact blk_reads (hk1 g _ hgb (fun cs e => by injection e with _ e; exact hT5 e) Hg.out) (by have := Hm.out; omega)
  have Hk1 := Lib.hid hk1
  clear hk1
  go_wp2_with (at_builtin; refine print_append_row (w0 := w) B rfl _ _ 70 5 .u8 1 rfl Tryd.underlying70 infoByte (by decide) v xs ys (some ⟨g, 0, none⟩) m c rfl rfl hown1 hrd hb1 ?c4 ?c5 ?_)
  case c4 => have := hb1.size; omega
  case c5 => omega
  intro v' w2 hown' hb2w hgrow _
  have hlt : b < w1.heap.size := blk_lt hbk
  have hb2 : w2.heap[b]? = some (.cells #[.pointer (some ⟨b, 0, none⟩), v] 72 (0, 0)) := by
    rw [hgrow.block b hlt (fun e => hne e.symm)]
    exact hbk
  have hk2 : KeptBut5 b w w2 := fun k o hk ho hw => by
    have hw1 := Hk1.out k o hk ho hw
    refine (hgrow.block k (blk_lt hw1) fun e => ?_).trans hw1
    obtain ⟨cells, hcl⟩ := own_typed hown1 k e.symm
    rw [hw1] at hcl
    injection hcl with hcl
    exact ho cells hcl
  have Hk2 := Lib.hid hk2
  clear hk2
  have d0 : w2.cell? ⟨b, 0, none⟩ = some (.pointer (some ⟨b, 0, none⟩)) := by rw [Lib.cell_of_heap hb2]; rfl
  have d1 : w2.cell? ⟨b, 1, none⟩ = some v := by rw [Lib.cell_of_heap hb2]; rfl
  have f1 : w2.frozen? ⟨b, 1, none⟩ = false := Lib.frozen_of_heap hb2 1
  obtain ⟨ao, n', cap, rfl⟩ : ∃ ao n' cap, v' = .slice ao n' cap := by
    rcases hown'.2 with ⟨hv, _⟩ | ⟨g, cap, cur, hv, _⟩
    · exact ⟨_, _, _, hv⟩
    · exact ⟨_, _, _, hv⟩
  go_wp2
  go_ret2
  refine ⟨rfl, ⟨.inr ?_, ?_⟩, Hk2.out.set 1 _⟩
  · exact Lib.BuilderAt.put (T := 72) (e := 5) hB hb2 (bs' := nums .u8 (xs ++ ys)) (by simpa [nums] using hown') (by decide)
  · exact hb2w.setCell (p := ⟨b, 1, none⟩) hB _

theorem freeze_other (w : World) (p : Addr) (n k : Nat) (h : k ≠ p.block) : (w.freeze p n).heap[k]? = w.heap[k]? := by
  simp only [World.freeze]
  split
  · rfl
  · simp [Array.getElem?_modify]
    intro e; exact absurd e.symm h
set_option maxHeartbeats 1000000 in
set_option maxRecDepth 100000 in
/-- (*strings.Builder).String of a builder that holds a byte: what is no row of bytes stays. -/
theorem bstring_any (B b : Nat) (l : List UInt8) (w : World) (h : Lib.IsBuilder 72 5 B b (Lib.byteCells l) w) (h0 : l ≠ []) :
    Calls Tryd.prog 60 #[.pointer (some ⟨b, 0, none⟩)] w fun e w' => e = .returned (.string ⟨l.toArray⟩) ∧ Below B w w' ∧ ∀ (k : Nat) (o : Obj), (∀ cs, o ≠ .cells cs 5 (0, 0)) → w.heap[k]? = some o → w'.heap[k]? = some o := by
  obtain ⟨p, hB, v, hbk, hown, hne⟩ : ∃ p, Lib.BuilderAt 72 5 B b p (Lib.byteCells l) w := by
    rcases h with h | h
    · exact ⟨_, h⟩
    · exact ⟨_, h⟩
  have hl0 : l.length ≠ 0 := by simpa using h0
  rw [Lib.byteCells_length] at hown
  obtain ⟨g, cap, cur, rfl, hbg, hg, hnc, hcm, hcs, htake⟩ : ∃ g cap cur, v = .slice (some ⟨g, 0, none⟩) l.length cap ∧ B ≤ g ∧ w.heap[g]? = some (.cells cur 5 (0, 0)) ∧ l.length ≤ cap ∧ cap ≤ maxLen ∧ cur.size = cap * 1 ∧ cur.toList.take (l.length * 1) = Lib.byteCells l := by
    rcases hown.2 with ⟨_, hz⟩ | ⟨g, cap, cur, hv, r⟩
    · exact absurd hz hl0
    · exact ⟨g, cap, cur, hv, r⟩
  have c1 : w.drew.cell? ⟨b, 1, none⟩ = some (.slice (some ⟨g, 0, none⟩) l.length cap) := by
    have : w.drew.heap[b]? = some (.cells #[p, .slice (some ⟨g, 0, none⟩) l.length cap] 72 (0, 0)) := hbk
    rw [Lib.cell_of_heap this]; rfl
  have hSD : (Builtin.unsafeSliceData_ #[70] 97 #[.slice (some ⟨g, 0, none⟩) l.length cap]).run Tryd.prog w.drew = .ok (.pointer (some ⟨g, 0, none⟩)) w.drew :=
    Lib.run_unsafeSliceData_row _ _ _ _ _ _ (by omega)
  have hUS : (Builtin.unsafeString_ #[97, 3] 9 #[.pointer (some ⟨g, 0, none⟩), .int .i64 l.length]).run Tryd.prog w.drew = .ok (.string ⟨l.toArray⟩) (w.drew.freeze ⟨g, 0, none⟩ l.length) := by
    refine Lib.run_unsafeString_row w.drew 97 3 9 5 Tryd.underlying97 (by kernel_rfl) g cur.size (by have hg' : w.drew.heap[g]? = some (.cells cur 5 (0, 0)) := hg; simp [World.shape?, hg']) l h0 (by omega) (by unfold maxLen at hcm; omega) ?_
    intro j x hx
    have := hown.cells (g := g) rfl j (.int .u8 x.toNat) (by simp [Lib.byteCells, hx])
    exact this
  have hfin : ∀ (k : Nat) (o : Obj), (∀ cs, o ≠ .cells cs 5 (0, 0)) → w.heap[k]? = some o → (w.drew.freeze ⟨g, 0, none⟩ l.length).heap[k]? = some o := fun k o ho hk => by
    refine (freeze_other _ _ _ _ ?_).trans hk
    rintro rfl
    rw [hg] at hk
    injection hk with hk
    exact ho cur hk.symm
  have Hfin := Lib.hid hfin
  clear hfin
  have mixed := Tryd.lays169.mixed
  go_enter Tryd.func60, Tryd.ntmps60
  go_wp2
  go_region
  all_goals (go_wp2; go_ret; exact ⟨rfl, Lib.below_freeze (Below.drew (Below.refl B w)) (p := ⟨g, 0, none⟩) hbg _, Hfin.out⟩)
end Go.Proofs.YtiofeehcnegejaaDoor
