/- The walk of Mark. -/
import Derived.Test.YtgchgkffoplogaaBc
import Derived.Lib.SliceRun
import Derived.Laws.IdiomCopy
import Derived.Deep.LoopGhost
namespace Go.Proofs.Ytgchgkffoplogaa
open Go.RowKit Go.Proofs.YtgchgkffoplogaaW.PrintWords
set_option linter.unusedVariables false
set_option linter.unusedSimpArgs false

theorem info98 : (Try.prog.info? 98).map (fun i => (i.zero, i.size, i.bytes)) = some (some (.int .u64 0), 1, 8) := by kernel_rfl
theorem zero98 (w : World) : (zeroValue 98).run Try.prog w = .ok (.int .u64 0) w := by kernel_rfl

theorem tget_taken {w : World} {B : Nat} {ok : Nat → Prop} {L : List V.El} {T : List Bool} (h : V.Tab w B ok L T) (hl : L.length ≤ 100000) (i : Int) (ht : isT T i = true) :
    Calls Try.prog 54 #[.pointer (some ⟨B, 0, none⟩), .int .i64 i] w fun e w' => e = .returned (.tuple #[V.encE (rdOf V.zE L i), .bool true]) ∧ w = w' := by
  obtain ⟨vl, vt, vf, F, h⟩ := h
  have hhas := V.has_any h (by omega) i
  have hc : w.cell? ⟨B, 0, none⟩ = some vl := blk_cell h.blk 0
  obtain ⟨h0, h1, _⟩ := isT_lt ht
  have hlen := h.len
  have h1' : i < (L.length : Int) := by omega
  obtain ⟨g, c1, rfl, _, _⟩ := h.rl.form (by omega)
  obtain ⟨hv, _⟩ := own_at_of (d := V.zE) h.rl i h0 h1'
  rw [ht] at hhas
  go_enter Try.func54, Try.ntmps54
  go_wp2_with (go_at_call 60; refine hhas.mono ?_; rintro e w1 ⟨rfl, rfl⟩)
  go_ret2
  exact ⟨rfl, rfl⟩

theorem leads_any (v : Value) (w : World) : Calls Try.prog 28 #[v] w fun e w' => e = .returned v ∧ w = w' := by
  go_enter Try.func28, Try.ntmps28
  go_wp2
  go_ret
  exact ⟨rfl, rfl⟩

/-- The stack without its last. -/
theorem MarkAt.top {w0 W : World} {bs bb bk B g c : Nat} {vk : Value} {ws st : List Int} {x : Int} (h : MarkAt w0 W bs bb bk B g c vk ws (st ++ [x])) :
    ∃ A k, vk = .slice (some A) (st.length + 1) k ∧ W.cell? (A.add st.length) = some (.int .i64 x) ∧ st.length + 1 ≤ k := by
  have hrk := h.rk
  rw [List.length_append, List.length_singleton] at hrk
  obtain ⟨gk, k, rfl, _, _⟩ := hrk.form (by omega)
  have hle := own_le hrk
  have hat := (own_at hrk (st.length : Int) (by omega) (by omega)).1
  rw [Int.toNat_natCast] at hat
  have hx : rd (st ++ [x]) (st.length : Int) = x := by simp [rd, List.getD]
  rw [hx] at hat
  exact ⟨⟨gk, 0, none⟩, k, rfl, by simpa [add_at] using hat, hle⟩
theorem MarkAt.pop {w0 W : World} {bs bb bk B g c k : Nat} {A : Addr} {ws st : List Int} {x : Int} (h : MarkAt w0 W bs bb bk B g c (.slice (some A) (st.length + 1) k) ws (st ++ [x])) :
    MarkAt w0 (W.setCell ⟨bk, 0, none⟩ (.slice (some A) st.length k)) bs bb bk B g c (.slice (some A) st.length k) ws st := by
  have hrk := h.rk
  rw [List.length_append, List.length_singleton] at hrk
  have hr2 : W.ownsRow w0.heap.size 3 1 (.slice (some A) st.length k) st.length (nums .i64 st) := by
    have ht := own_take hrk (m := st.length) (by omega)
    have e : (nums .i64 (st ++ [x])).take (st.length * 1) = nums .i64 st := by rw [Nat.mul_one]; simp [nums]
    rwa [e] at ht
  exact h.stack hr2 h.bel (World.grownBy.refl W _)

/-- Mark's variables at the beginning. -/
theorem mark_start (w : World) (B n : Nat) (hn : n ≤ 100000) :
    MarkAt w ((((w.alloc (.cells #[.pointer (some ⟨B, 0, none⟩)] 54)).alloc (.cells (madeCells #[.int .u64 0] n) 98)).alloc (.cells #[.slice (some ⟨w.heap.size + 1, 0, none⟩) n n] 82)).alloc (.cells #[.slice none 0 0] 22))
      w.heap.size (w.heap.size + 1 + 1) (w.heap.size + 1 + 1 + 1) B (w.heap.size + 1) n (.slice none 0 0) (List.replicate n 0) [] := by
  obtain ⟨W1, hW1⟩ : ∃ W1, W1 = w.alloc (.cells #[.pointer (some ⟨B, 0, none⟩)] 54) := ⟨_, rfl⟩
  obtain ⟨W2, hW2⟩ : ∃ W2, W2 = W1.alloc (.cells (madeCells #[.int .u64 0] n) 98) := ⟨_, rfl⟩
  obtain ⟨W3, hW3⟩ : ∃ W3, W3 = W2.alloc (.cells #[.slice (some ⟨w.heap.size + 1, 0, none⟩) n n] 82) := ⟨_, rfl⟩
  obtain ⟨W4, hW4⟩ : ∃ W4, W4 = W3.alloc (.cells #[.slice none 0 0] 22) := ⟨_, rfl⟩
  rw [← hW1, ← hW2, ← hW3, ← hW4]
  have s1 : W1.heap.size = w.heap.size + 1 := by rw [hW1]; simp
  have s2 : W2.heap.size = w.heap.size + 1 + 1 := by rw [hW2]; simp [s1]
  have s3 : W3.heap.size = w.heap.size + 1 + 1 + 1 := by rw [hW3]; simp [s2]
  have b1 : Below w.heap.size w W1 := by rw [hW1]; exact below_alloc (Below.refl _ _) _
  have b2 : Below W1.heap.size W1 W2 := by rw [hW2]; exact below_alloc (Below.refl _ _) _
  have b3 : Below W2.heap.size W2 W3 := by rw [hW3]; exact below_alloc (Below.refl _ _) _
  have b4 : Below W3.heap.size W3 W4 := by rw [hW4]; exact below_alloc (Below.refl _ _) _
  have b34 : Below W2.heap.size W2 W4 := below_then b3 b3.size b4
  have b14 : Below W1.heap.size W1 W4 := below_then b2 b2.size b34
  have h1 : W1.heap[w.heap.size]? = some (.cells #[.pointer (some ⟨B, 0, none⟩)] 54 (0, 0)) := by rw [hW1]; exact blk_new w _
  have h2 : W2.ownsRow w.heap.size 98 1 (.slice (some ⟨w.heap.size + 1, 0, none⟩) n n) (List.replicate n (0 : Int)).length (nums .u64 (List.replicate n 0)) := by
    have h := own_made' W1 w.heap.size 98 .u64 n b1.size (by omega)
    rw [s1] at h
    rw [hW2]; exact h
  have h3 : W3.heap[w.heap.size + 1 + 1]? = some (.cells #[.slice (some ⟨w.heap.size + 1, 0, none⟩) n n] 82 (0, 0)) := by
    have h := blk_new W2 (.cells #[.slice (some ⟨w.heap.size + 1, 0, none⟩) n n] 82)
    rw [s2] at h
    rw [hW3]; exact h
  have h4 : W4.heap[w.heap.size + 1 + 1 + 1]? = some (.cells #[.slice none 0 0] 22 (0, 0)) := by
    have h := blk_new W3 (.cells #[.slice none 0 0] 22)
    rw [s3] at h
    rw [hW4]; exact h
  have hl : (List.replicate n (0 : Int)).length = n := List.length_replicate
  refine ⟨blk_below h1 b14, by rw [hl]; exact blk_below h3 b4, h4, ?_, own_nil _ _ _ _, fun x hx => by rw [List.eq_of_mem_replicate hx]; omega, below_then b1 b1.size b14, Nat.le_refl _, by omega, by omega⟩
  have := pw_own_below h2 b34
  rw [hl] at this ⊢
  exact this
theorem bitOf_zero (n : Nat) : bitOf (List.replicate n 0) = fun _ => false := by
  funext j
  unfold bitOf rd
  have : (List.replicate n (0 : Int)).getD ((j / 64 : Nat) : Int).toNat 0 = 0 := by
    rw [List.getD_eq_getElem?_getD, List.getElem?_replicate]; split <;> rfl
  rw [this]; simp
/-- The bits alone. -/
structure BitsAt (w W : World) (bb g c : Nat) (ws : List Int) : Prop where
  b : W.heap[bb]? = some (.cells #[.slice (some ⟨g, 0, none⟩) ws.length c] 82 (0, 0))
  rb : W.ownsRow w.heap.size 98 1 (.slice (some ⟨g, 0, none⟩) ws.length c) ws.length (nums .u64 ws)
  wd : WdOk ws
  bel : Below w.heap.size w W
theorem MarkAt.bitsAt {w0 W : World} {bs bb bk B g c : Nat} {vk : Value} {ws st : List Int} (h : MarkAt w0 W bs bb bk B g c vk ws st) : BitsAt w0 W bb g c ws := ⟨h.b, h.rb, h.wd, h.bel⟩
theorem BitsAt.grown {w W W' : World} {bb g c base : Nat} {ws : List Int} {v : Value} {n : Nat} {xs : List Value} (h : BitsAt w W bb g c ws) (ho : W.ownsRow base 3 1 v n xs) (hb : Below w.heap.size w W') (hg : W.grownBy W' v.ownBlock) : BitsAt w W' bb g c ws :=
  ⟨blk_grown h.b hg (own_ne ho h.b (by decide)), own_other h.rb hg (own_type_ne h.rb ho (by decide)), h.wd, hb⟩
/-- Behind clear(seen). -/
theorem BitsAt.cleared {w W : World} {bb g c : Nat} {ws : List Int} (h : BitsAt w W bb g c ws) (hp : 0 < ws.length) :
    (∀ ty, (Builtin.clear_ #[82] ty #[.slice (some ⟨g, 0, none⟩) ws.length c]).run Try.prog W = .ok (.tuple #[]) (W.setCells g 0 (List.replicate ws.length (.int .u64 0)))) ∧ Below w.heap.size w (W.setCells g 0 (List.replicate ws.length (.int .u64 0))) ∧
    ∀ {v : Value} {xs : List Value} {n : Nat}, W.ownsRow w.heap.size 3 1 v n xs → (W.setCells g 0 (List.replicate ws.length (.int .u64 0))).ownsRow w.heap.size 3 1 v n xs := by
  have hgb : w.heap.size ≤ g := own_base h.rb g rfl
  have hsame := setCells_same g (List.replicate ws.length (Value.int .u64 0)) 0 W
  refine ⟨fun ty => Lib.run_clear_slice W 82 98 ty (.int .u64 0) Try.underlying82 zero98 rfl rfl g 0 ws.length c hp (fun j hj => ?_) (fun j hj => ?_), ?_, ?_⟩
  · have := (own_at h.rb (j : Int) (by omega) (by omega)).1
    rw [Int.toNat_natCast] at this
    rw [Nat.zero_add, this]; rfl
  · have := (own_at h.rb (j : Int) (by omega) (by omega)).2
    rw [Int.toNat_natCast] at this
    rw [Nat.zero_add, this]
  · exact ⟨hsame.1.trans h.bel.os, hsame.2.1.trans h.bel.tape, hsame.2.2.1.trans h.bel.output, by rw [hsame.2.2.2]; exact h.bel.size, fun k hk => (setCells_far _ _ k (by omega)).trans (h.bel.block k hk)⟩
  · intro v xs n ho
    refine own_move ho (fun k e => setCells_far _ _ k ?_)
    rintro rfl
    exact (own_type_ne h.rb ho (by decide)).elim (fun z => by simp [Value.ownBlock] at z) (fun z => z (by rw [e]; rfl))
/-- What holds at the loop's head. -/
def MarkInv (w W : World) (bs bb bk B g c : Nat) (n : Nat) (T : List Bool) (X : List (List Int)) (rl : List Int) (vk : Value) (ws st : List Int) : Prop :=
  MarkAt w W bs bb bk B g c vk ws st ∧ ws.length = n ∧ MOk T X rl (bitOf ws, st) ∧ MEnd T X (bitOf ws, st) ∧ StkLe T.length (bitOf ws, st) ∧ ∀ r ∈ rl, isT T r = true → bitOf ws r.toNat = true
set_option maxRecDepth 100000 in
set_option maxHeartbeats 3200000 in
theorem mark_any {w : World} {B : Nat} {ok okE : Nat → Prop} {L : List V.El} {T : List Bool} {X : List (List Int)} (ht : V.Tab w B ok L T) (hl : L.length ≤ 100000) (hE : ∀ i : Nat, ∀ m xs, L[i]? = some m → X[i]? = some xs → Elem w okE (V.encE m) xs) (hX : X.length = L.length)
    (A : Option Addr) (cA : Nat) (rl : List Int) (hr : ReadsInt w .i64 A rl.length rl) (b : Bool) :
    Calls Try.prog 27 #[.pointer (some ⟨B, 0, none⟩), .slice A rl.length cA, if b then .func (.func 28) #[] #[] else Value.nilFunc] w fun e w' =>
      ∃ v, e = .returned v ∧ w'.ownsRow w.heap.size 3 1 v (marks T (if b then X else []) rl).length (nums .i64 (marks T (if b then X else []) rl)) ∧ Below w.heap.size w w' := by
  have hTl : T.length = L.length := ht.len
  obtain ⟨lv, hlv⟩ : ∃ lv, lv = (if b then Value.func (.func 28) #[] #[] else Value.nilFunc) := ⟨_, rfl⟩
  obtain ⟨H, hH⟩ : ∃ H, H = T.length := ⟨_, rfl⟩
  have hH1 : H ≤ 100000 := by omega
  have hhigh : ∀ W, Below w.heap.size w W → Calls Try.prog 52 #[.pointer (some ⟨B, 0, none⟩)] W fun e w' => e = .returned (.int .i64 H) ∧ W = w' := fun W hb => by
    rw [hH]; exact V.thigh_any (ht.below hb)
  have hmake := print_make_of (P := Try.prog) 82 98 (.int .u64 0) 8 Try.underlying82 info98 rfl (by decide) (H / 64 + 1) (by omega)
  have hcast : ((H / 64 + 1 : Nat) : Int) = (H : Int) / 64 + 1 := by omega
  rw [hcast] at hmake
  have Hhigh := Lib.hid hhigh; have Ht := Lib.hid ht; have HH := Lib.hid hH; have HE := Lib.hid hE; have Hlv := Lib.hid hlv; have HTl := Lib.hid hTl; have Hr := Lib.hid hr
  clear hhigh ht hH hE hTl hr hcast
  rw [← hlv]
  clear hlv
  obtain ⟨X', hX'⟩ : ∃ X', X' = (if b then X else []) := ⟨_, rfl⟩
  rw [← hX']
  have HX' := Lib.hid hX'
  clear hX'
  have hnf : ∀ W : World, (binOp .neq 58 (.func (.func 28) #[] #[]) Value.nilFunc).run Try.prog W = .ok (.bool true) W := fun W => by kernel_rfl
  have hnn : ∀ W : World, (binOp .neq 58 Value.nilFunc Value.nilFunc).run Try.prog W = .ok (.bool false) W := fun W => by kernel_rfl
  obtain ⟨i3, hi3, z31, z32, z33⟩ := info_parts info3
  go_enter Try.func27, Try.ntmps27
  go_upto_region 4 with (go_at_call 52; refine (Hhigh.out _ (below_alloc (Below.refl _ _) _)).mono ?_; rintro e w1 ⟨rfl, rfl⟩)
  have hms := mark_start w B (H / 64 + 1) (by omega)
  obtain ⟨V4, hV4⟩ : ∃ V4, V4 = ((((w.alloc (.cells #[.pointer (some ⟨B, 0, none⟩)] 54)).alloc (.cells (madeCells #[.int .u64 0] (H / 64 + 1)) 98)).alloc (.cells #[.slice (some ⟨w.heap.size + 1, 0, none⟩) (H / 64 + 1) (H / 64 + 1)] 82)).alloc (.cells #[.slice none 0 0] 22)) := ⟨_, rfl⟩
  rw [← hV4] at hms ⊢
  have hwl : T.length / 64 < (List.replicate (H / 64 + 1) (0 : Int)).length := by rw [List.length_replicate, HH.out]; omega
  have hreach := reach_any Ht.out hl hms hwl (by unfold StkLe; simp) A cA rl Hr.out
  rw [bitOf_zero] at hreach
  have Hreach := Lib.hid hreach
  clear hms hV4 hreach hwl hmake
  obtain ⟨bs, hbs⟩ : ∃ bs, bs = w.heap.size := ⟨_, rfl⟩
  obtain ⟨g, hg⟩ : ∃ g, g = w.heap.size + 1 := ⟨_, rfl⟩
  obtain ⟨bb, hbb⟩ : ∃ bb, bb = w.heap.size + 1 + 1 := ⟨_, rfl⟩
  obtain ⟨bk, hbk⟩ : ∃ bk, bk = w.heap.size + 1 + 1 + 1 := ⟨_, rfl⟩
  rw [← hbk, ← hbb, ← hg, ← hbs] at Hreach
  rw [← hbk, ← hbb, ← hg, ← hbs]
  clear hbs hg hbb hbk
  go_wp2_with (go_at_call 53; refine Hreach.out.mono ?_; rintro e w5 ⟨rfl, vk0, ws0, st0, hm0, hl0, he0⟩; have HM0 := Lib.hid hm0; have HL0 := Lib.hid hl0; have HE0 := Lib.hid he0; clear hm0 hl0 he0)
  have hi0 : MarkInv w w5 bs bb bk B g (H / 64 + 1) (H / 64 + 1) T X' rl vk0 ws0 st0 := by
    obtain ⟨h1, h2, h3, h4⟩ := mark_begin T X' rl
    rw [← HE0.out] at h1 h2 h3 h4
    exact ⟨HM0.out, by rw [HL0.out, List.length_replicate], h1, h2, h3, h4⟩
  have HI0 := Lib.hid hi0
  clear hi0
  go_loopg [10] (mu T.length (bitOf ws0, st0)) (fun k _ wr => ∃ (vk : Value) (ws st : List Int), Hid (MarkInv w wr bs bb bk B g (H / 64 + 1) (H / 64 + 1) T X' rl vk ws st) ∧ Hid (mu T.length (bitOf ws, st) ≤ k))
  case atStart => exact ⟨vk0, ws0, st0, HI0, Lib.hid (Nat.le_refl _)⟩
  case round =>
    obtain ⟨vk, ws, st, HI, HK⟩ := hrel
    clear HI0 HE0 HL0 HM0 Hreach
    rcases List.eq_nil_or_concat st with rfl | ⟨st', x, hst⟩
    · obtain ⟨hm, hn, hMO, hME, hSL, hRS⟩ := HI.out
      have hend := mark_end hMO hME hRS
      have hbits := hm.bitsAt
      obtain ⟨A', c', hvk⟩ := own_slice hm.rk
      subst hvk
      obtain ⟨S, hS⟩ : ∃ S, S = (List.range T.length).map (bitOf ws) := ⟨_, rfl⟩
      have hSg : ∀ i : Nat, i < T.length → S.getD i false = bitOf ws i := fun i hi => by
        rw [hS, List.getD_eq_getElem?_getD, List.getElem?_map, List.getElem?_range hi]; rfl
      have hmk : takesTo S T.length = marks T X' rl := marks_of T X' rl S (fun i hi => by rw [hSg i hi]; exact hend i)
      have cs := blk_cell hm.s 0
      have ck := blk_cell hm.k 0
      have HB := Lib.hid hbits; have HMk := Lib.hid hmk; have HSg := Lib.hid hSg; have Hn := Lib.hid hn
      clear hend hbits hmk hSg hS hm hn hMO hME hSL hRS HI HX' Hlv
      go_wp2_with (go_at_call 52; refine (Hhigh.out _ HB.out.bel).mono ?_; rintro e w1 ⟨rfl, rfl⟩)
      go_loopw [12, 51] (fun v iv wq => ∃ i : Nat, i ≤ H ∧ iv = .int .i64 i ∧ Hid (wq.ownsRow w.heap.size 3 1 v (takesTo S i).length (nums .i64 (takesTo S i))) ∧ Hid (BitsAt w wq bb g (H / 64 + 1) ws)) (fun _ iv _ => H - (intOf iv).toNat)
      case atStart => exact ⟨0, Nat.zero_le _, rfl, Lib.hid (own_nil _ _ _ _), HB⟩
      case round =>
        obtain ⟨i, hi, rfl, HR, HBq⟩ := hrel
        clear HB
        have hln := Hn.out
        have hle := takesTo_le S i
        by_cases hlt : i < H
        · have hlt2 : i < T.length := by rw [← HH.out]; exact hlt
          have hwn : i / 64 < ws.length := by omega
          have hhas := bhas_any (i := i) HBq.out.rb HBq.out.wd hwn (by omega)
          have hs : takesTo S (i + 1) = takesTo S i ++ if S.getD i false then [(i : Int)] else [] := rfl
          have hsg := HSg.out i hlt2
          rw [hsg] at hs
          have cb := blk_cell HBq.out.b 0
          have p0 : (0 : Int) ≤ (i : Int) := by omega
          have p1 : (i : Int) < (H : Int) := by omega
          have Hhas := Lib.hid hhas
          clear hhas hln hsg
          cases hb : bitOf ws i
          · rw [hb] at hs Hhas
            rw [if_neg (by simp), List.append_nil] at hs
            have Hs := Lib.hid hs
            clear hs hb
            go_wp2_with (go_at_call 55; refine Hhas.out.mono ?_; rintro e w2 ⟨rfl, rfl⟩)
            go_roundw
            case rel => exact ⟨i + 1, by omega, by go_num, by rw [Hs.out]; exact HR, HBq⟩
            case measure => simp [intOf]; omega
          · rw [hb] at hs Hhas
            rw [if_pos rfl] at hs
            have Hs := Lib.hid hs
            clear hs hb
            go_wp2_with (first | (go_at_call 55; refine Hhas.out.mono ?_; rintro e w2 ⟨rfl, rfl⟩) | (at_builtin; refine print_append_num (w0 := w) w.heap.size rfl (.tmp 57) (.tmp 59) 22 3 .i64 8 rfl Try.underlying22 info3 (by decide) _ _ _ rfl rfl HR.out HBq.out.bel HBq.out.bel.size (by omega) ?_; intro v1 w1 hown hb1 hg1 hat1; have HBn := Lib.hid (HBq.out.grown HR.out hb1 hg1)))
            go_roundw
            case rel => exact ⟨i + 1, by omega, by go_num, Lib.hid (by rw [Hs.out]; exact hown), HBn⟩
            case measure => simp [intOf]; omega
        · have hiH : i = T.length := by rw [← HH.out]; omega
          have HiH := Lib.hid hiH
          obtain ⟨hcl, hbl, hrl⟩ := HBq.out.cleared (by omega)
          have Hbl := Lib.hid hbl; have Hrl := Lib.hid (hrl HR.out)
          have cb := blk_cell HBq.out.b 0
          have hz : ¬ (i : Int) < (H : Int) := by omega
          clear hiH hbl hrl hln
          go_wp2_with (simp only [hcl])
          go_ret
          exact ⟨_, rfl, by rw [← HMk.out, ← HiH.out]; exact Hrl.out, Hbl.out⟩
    · rw [List.concat_eq_append] at hst
      subst hst
      obtain ⟨hm, hn, hMO, hME, hSL, hRS⟩ := HI.out
      obtain ⟨A1, k1, rfl, hcx, hk1⟩ := hm.top
      have hx := (hMO.stk x (by simp)).1
      obtain ⟨n, rfl, hnT⟩ := isT_ofNat hx
      obtain ⟨xs, hxs⟩ : ∃ xs, X[n]? = some xs := ⟨X[n]'(by rw [hX]; have := HTl.out; omega), List.getElem?_eq_getElem _⟩
      obtain ⟨m, hLm⟩ : ∃ m, L[n]? = some m := ⟨L[n]'(by have := HTl.out; omega), List.getElem?_eq_getElem _⟩
      obtain ⟨Ae, ce, hme, hce, hre, _⟩ := HE.out n m xs hLm hxs
      have hrm : rdOf V.zE L (n : Int) = m := by simp [rdOf, List.getD_eq_getElem?_getD, hLm]
      have hget : ∀ q, Calls Try.prog 54 #[.pointer (some ⟨B, 0, none⟩), .int .i64 n] (wr.drewN q) fun e w' => e = .returned (.tuple #[.slice Ae xs.length ce, .bool true]) ∧ w' = wr.drewN q := fun q => by
        have h := tget_taken (Ht.out.below (pw_below_drewN hm.bel q)) hl (n : Int) hx
        rw [hrm, hme] at h
        exact h.mono fun e w' ⟨h1, h2⟩ => ⟨h1, h2.symm⟩
      have hround := mark_round hMO hME hSL
      have hcut := cut_to (P := Try.prog) 22 3 .i64 Try.underlying22 hi3 (some A1) (st'.length + 1) k1 (st'.length : Int) (by omega) (by omega) hk1
      have hpop := fun q => (hm.below (pw_below_drewN (Below.refl _ _) q)).pop
      have hreach2 := fun W' (h : MarkAt w W' bs bb bk B g (H / 64 + 1) (.slice (some A1) st'.length k1) ws st') => reach_any Ht.out hl h (by rw [hn, HH.out]; omega) (by unfold StkLe at hSL ⊢; simp only [List.length_append, List.length_singleton] at hSL ⊢; omega) Ae ce xs hre
      have cs := blk_cell hm.s 0
      have ck := blk_cell hm.k 0
      have fk := blk_frozen hm.k 0
      have e1 : ((st'.length : Int) + 1) - 1 = (st'.length : Int) := by omega
      have p0 : (0 : Int) ≤ (st'.length : Int) := by omega
      have p1 : (st'.length : Int) < (st'.length : Int) + 1 := by omega
      have hsl : st'.length ≤ 100000 := by
        have h1 : (st' ++ [(n : Int)]).length ≤ cF (bitOf ws) T.length := hSL
        have h2 := cF_le (bitOf ws) T.length
        have h3 := HH.out
        simp at h1; omega
      have hwr : IntKind.i64.wrap (st'.length : Int) = (st'.length : Int) := by rw [IntKind.wrap_i64]; omega
      have Hget := Lib.hid hget; have Hround := Lib.hid hround; have Hpop := Lib.hid hpop; have Hreach2 := Lib.hid hreach2; have Hxs := Lib.hid hxs; have Hn := Lib.hid hn; have HRS := Lib.hid hRS
      clear hget hround hpop hreach2 hxs hn hRS hMO hME hSL hm hx hLm hme hrm hre HI
      go_upto_region 6 with (fail)
      go_quiet (first | (go_at_call 54; refine Calls.quiet_of_same (Hget.out _)))
      go_upto_region 8 with (fail)
      have hm2 := Hpop.out nq
      obtain ⟨W2, hW2⟩ : ∃ W2, W2 = (wr.drewN nq).setCell ⟨bk, 0, none⟩ (.slice (some A1) st'.length k1) := ⟨_, rfl⟩
      rw [← hW2] at hm2 ⊢
      clear hW2 hcx cs ck fk hcut Hget Hpop
      have HM2 := Lib.hid hm2
      clear hm2
      have e2 := Hlv.out
      have e3 := HX'.out
      cases b
      · simp only [Bool.false_eq_true, if_false] at e2 e3
        have hr2 := Hround.out
        rw [e3] at hr2
        have Hr2 := Lib.hid hr2
        have HX2 := Lib.hid e3
        subst e2
        clear hr2 e3
        go_wp2
        go_roundg (mu T.length (bitOf ws, st'))
        case measure =>
          have h1 := Hr2.out.2.2.2.1
          have h2 := HK.out
          exact Nat.lt_of_lt_of_le h1 h2
        case rel =>
          obtain ⟨h1, h2, h3, h4, h5⟩ := Hr2.out
          refine ⟨_, ws, st', Lib.hid ⟨HM2.out, Hn.out, ?_, ?_, h3, HRS.out⟩, Lib.hid (Nat.le_refl _)⟩
          · rw [HX2.out]; exact h1
          · rw [HX2.out]; exact h2
      · simp only [if_true] at e2 e3
        have hr2 := Hround.out
        have hg2 : X'.getD (n : Int).toNat [] = xs := by rw [e3, Int.toNat_natCast, List.getD_eq_getElem?_getD, Hxs.out]; rfl
        rw [hg2] at hr2
        have Hr2 := Lib.hid hr2
        subst e2
        clear hr2 e3 hg2
        go_wp2_with (first | (go_at_call 28; refine (leads_any _ _).mono ?_; rintro e w6 ⟨rfl, rfl⟩) | (go_at_call 53; refine (Hreach2.out _ HM2.out).mono ?_; rintro e w7 ⟨rfl, vk7, ws7, st7, hm7, hl7, he7⟩; have HM7 := Lib.hid hm7; have HL7 := Lib.hid hl7; have HE7 := Lib.hid he7; clear hm7 hl7 he7))
        go_roundg (mu T.length (bitOf ws7, st7))
        case measure =>
          have h1 := Hr2.out.2.2.2.1
          rw [← HE7.out] at h1
          exact Nat.lt_of_lt_of_le h1 HK.out
        case rel =>
          obtain ⟨h1, h2, h3, h4, h5⟩ := Hr2.out
          rw [← HE7.out] at h1 h2 h3 h5
          exact ⟨vk7, ws7, st7, Lib.hid ⟨HM7.out, by rw [HL7.out, Hn.out], h1, h2, h3, fun r hr ht => h5 _ (HRS.out r hr ht)⟩, Lib.hid (Nat.le_refl _)⟩
end Go.Proofs.Ytgchgkffoplogaa
