/- The law WholeOrders: comparing is an order that sums keep. -/
import Derived.Test.YtiofeehcnegejaaDoorWhV
import Derived.Deep.RegionHeld3
import Derived.Deep.DeepCutAuto
namespace Go.Proofs.YtiofeehcnegejaaDoor
open Go.RowKit Go.Proofs.YtiofeehcnegejaaDoorW.PrintWords
set_option linter.unusedVariables false
set_option linter.unusedSimpArgs false

/-- Three numbers in boxes. -/
structure Bx3 (w W : World) (na nb nc : Bool) (A B C : Option Addr) (n n' n'' c c' c'' : Nat) : Prop where
  a : W.heap[w.heap.size]? = some (.cells #[.bool na, .slice A n c] 24 (0, 0))
  b : W.heap[w.heap.size + 1]? = some (.cells #[.bool nb, .slice B n' c'] 24 (0, 0))
  c : W.heap[w.heap.size + 1 + 1]? = some (.cells #[.bool nc, .slice C n'' c''] 24 (0, 0))
  bel : Below w.heap.size w W
theorem Bx3.below {w W W' : World} {na nb nc : Bool} {A B C : Option Addr} {n n' n'' c c' c'' : Nat} (h : Bx3 w W na nb nc A B C n n' n'' c c' c'') (hb : Below W.heap.size W W') : Bx3 w W' na nb nc A B C n n' n'' c c' c'' :=
  ⟨blk_below h.a hb, blk_below h.b hb, blk_below h.c hb, below_then h.bel h.bel.size hb⟩
theorem bx3_start (w : World) (na nb nc : Bool) (A B C : Option Addr) (n n' n'' c c' c'' : Nat) (W : World) (e : W = ((w.alloc (.cells #[.bool na, .slice A n c] 24)).alloc (.cells #[.bool nb, .slice B n' c'] 24)).alloc (.cells #[.bool nc, .slice C n'' c''] 24)) : Bx3 w W na nb nc A B C n n' n'' c c' c'' := by
  have h1 := blk_new w (.cells #[.bool na, .slice A n c] 24)
  have h2 := blk_new (w.alloc (.cells #[.bool na, .slice A n c] 24)) (.cells #[.bool nb, .slice B n' c'] 24)
  have h3 := blk_new ((w.alloc (.cells #[.bool na, .slice A n c] 24)).alloc (.cells #[.bool nb, .slice B n' c'] 24)) (.cells #[.bool nc, .slice C n'' c''] 24)
  rw [World.size_alloc] at h2
  rw [World.size_alloc, World.size_alloc] at h3
  subst e
  exact ⟨blk_alloc (blk_alloc h1 _) _, blk_alloc h2 _, h3, below_alloc (below_alloc (below_alloc (Below.refl _ _) _) _) _⟩
/-- What the loads of the three boxes read. -/
abbrev Bx3Cells (w : World) (na nb nc : Bool) (A B C : Option Addr) (n n' n'' c c' c'' : Nat) (W : World) : Prop :=
  W.cell? ⟨w.heap.size, 0, none⟩ = some (.bool na) ∧ W.cell? ⟨w.heap.size, 1, none⟩ = some (.slice A n c) ∧ W.cell? ⟨w.heap.size + 1, 0, none⟩ = some (.bool nb) ∧ W.cell? ⟨w.heap.size + 1, 1, none⟩ = some (.slice B n' c') ∧ W.cell? ⟨w.heap.size + 1 + 1, 0, none⟩ = some (.bool nc) ∧ W.cell? ⟨w.heap.size + 1 + 1, 1, none⟩ = some (.slice C n'' c'')
theorem Bx3.cells {w W : World} {na nb nc : Bool} {A B C : Option Addr} {n n' n'' c c' c'' : Nat} (h : Bx3 w W na nb nc A B C n n' n'' c c' c'') : Bx3Cells w na nb nc A B C n n' n'' c c' c'' W :=
  ⟨blk_cell h.a 0, blk_cell h.a 1, blk_cell h.b 0, blk_cell h.b 1, blk_cell h.c 0, blk_cell h.c 1⟩
theorem Bx3.cells4 {w W : World} {na nb nc : Bool} {A B C : Option Addr} {n n' n'' c c' c'' : Nat} (h : Bx3 w W na nb nc A B C n n' n'' c c' c'') : W.cell? ⟨w.heap.size, 0, none⟩ = some (.bool na) ∧ W.cell? ⟨w.heap.size, 1, none⟩ = some (.slice A n c) ∧ W.cell? ⟨w.heap.size + 1, 0, none⟩ = some (.bool nb) ∧ W.cell? ⟨w.heap.size + 1, 1, none⟩ = some (.slice B n' c') :=
  ⟨blk_cell h.a 0, blk_cell h.a 1, blk_cell h.b 0, blk_cell h.b 1⟩

/-! ### Plain -/
theorem cmpI_swap (a b : Int) : cmpI b a = -cmpI a b := by unfold cmpI; (repeat' split) <;> omega
theorem cmpI_neg (a b : Int) : cmpI (-a) (-b) = -cmpI a b := by unfold cmpI; (repeat' split) <;> omega
theorem cmpI_self (a : Int) : cmpI a a = 0 := cmpI_eq rfl
theorem cmpI_bd (a b : Int) : -1 ≤ cmpI a b ∧ cmpI a b ≤ 1 := by unfold cmpI; (repeat' split) <;> omega
theorem cmpI_add (a b c : Int) : cmpI (a + c) (b + c) = cmpI a b := by unfold cmpI; (repeat' split) <;> omega
theorem cmpI_trans (a b c : Int) (h1 : cmpI a b ≤ 0) (h2 : cmpI b c ≤ 0) : cmpI a c ≤ 0 := by unfold cmpI at *; (repeat' split at h1) <;> (repeat' split at h2) <;> (repeat' split) <;> omega
theorem pow_two_few (k : Nat) (hk : k ≤ 80) : (2 : Int) ^ (32 * k) + 2 ^ (32 * 80) ≤ tooBig := by
  have h1 := pow_le k 80 hk
  have h2 := pow_le 81 256 (by omega)
  have e : (2 : Int) ^ (32 * 81) = 2 ^ (32 * 80) * 2 ^ 32 := by rw [← Int.pow_add]
  have h3 : (2 : Int) ^ (32 * 80) * 2 ≤ 2 ^ (32 * 80) * 2 ^ 32 := Int.mul_le_mul_of_nonneg_left (by decide) (by have := Dv.pow_pos' (32 * 80); omega)
  unfold tooBig
  omega

set_option maxRecDepth 100000 in
set_option maxHeartbeats 4000000 in
/-- One of them has many words. -/
theorem orders_many (na nb nc : Bool) (A B C : Option Addr) (n n' n'' c c' c'' : Nat) (w : World) (h : ¬ (n ≤ 80 ∧ n' ≤ 80 ∧ n'' ≤ 80)) :
    Calls Tryd.prog 3 #[.agg #[.bool na, .slice A n c], .agg #[.bool nb, .slice B n' c'], .agg #[.bool nc, .slice C n'' c'']] w fun e w' => e = .returned (.bool true) ∧ Below w.heap.size w w' := by
  obtain ⟨W0, hW0⟩ : ∃ W0, W0 = ((w.alloc (.cells #[.bool na, .slice A n c] 24)).alloc (.cells #[.bool nb, .slice B n' c'] 24)).alloc (.cells #[.bool nc, .slice C n'' c''] 24) := ⟨_, rfl⟩
  have HX0 := Lib.hid (bx3_start w na nb nc A B C n n' n'' c c' c'' W0 hW0)
  have HW0 := Lib.hid hW0
  clear hW0
  have a0_0 := blk_cell HX0.out.a 0; have a1_0 := blk_cell HX0.out.a 1; have b0_0 := blk_cell HX0.out.b 0; have b1_0 := blk_cell HX0.out.b 1; have c0_0 := blk_cell HX0.out.c 0; have c1_0 := blk_cell HX0.out.c 1

  by_cases h1 : ¬ (n : Int) ≤ 80
  · clear h
    go_enter Tryd.func3, Tryd.ntmps3
    go_upto_region 1 with (fail)
    rw [← HW0.out]
    go_wp2_with (first | (go_at_call 11; have HN := HX0; with_reducible refine (few_any na A n c W0).mono ?_; rintro e W1 ⟨rfl, hb1⟩; have HX1 := Lib.hid (HX0.out.below hb1); have a0_1 := blk_cell HX1.out.a 0; have a1_1 := blk_cell HX1.out.a 1; have b0_1 := blk_cell HX1.out.b 0; have b1_1 := blk_cell HX1.out.b 1; have c0_1 := blk_cell HX1.out.c 0; have c1_1 := blk_cell HX1.out.c 1; clear hb1) | (go_at_call 12; refine (awake_any _).mono ?_; rintro e Wz ⟨rfl, hbz⟩; have HZ := Lib.hid hbz; clear hbz))
    go_ret
    exact ⟨rfl, below_then HX1.out.bel HX1.out.bel.size HZ.out⟩
  by_cases h2 : ¬ (n' : Int) ≤ 80
  · have h1' : (n : Int) ≤ 80 := by omega
    clear h h1
    go_enter Tryd.func3, Tryd.ntmps3
    go_upto_region 1 with (fail)
    rw [← HW0.out]
    go_wp2_with (first | (go_at_call 11; have HN := HX1; with_reducible refine (few_any nb B n' c' W1).mono ?_; rintro e W2 ⟨rfl, hb2⟩; have HX2 := Lib.hid (HX1.out.below hb2); have a0_2 := blk_cell HX2.out.a 0; have a1_2 := blk_cell HX2.out.a 1; have b0_2 := blk_cell HX2.out.b 0; have b1_2 := blk_cell HX2.out.b 1; have c0_2 := blk_cell HX2.out.c 0; have c1_2 := blk_cell HX2.out.c 1; clear hb2) | (go_at_call 11; have HN := HX0; with_reducible refine (few_any na A n c W0).mono ?_; rintro e W1 ⟨rfl, hb1⟩; have HX1 := Lib.hid (HX0.out.below hb1); have a0_1 := blk_cell HX1.out.a 0; have a1_1 := blk_cell HX1.out.a 1; have b0_1 := blk_cell HX1.out.b 0; have b1_1 := blk_cell HX1.out.b 1; have c0_1 := blk_cell HX1.out.c 0; have c1_1 := blk_cell HX1.out.c 1; clear hb1) | (go_at_call 12; refine (awake_any _).mono ?_; rintro e Wz ⟨rfl, hbz⟩; have HZ := Lib.hid hbz; clear hbz))
    go_ret
    exact ⟨rfl, below_then HX2.out.bel HX2.out.bel.size HZ.out⟩
  have h3 : ¬ (n'' : Int) ≤ 80 := by omega
  have h4 : decide ((n'' : Int) ≤ 80) = false := by simpa using h3
  have h1' : (n : Int) ≤ 80 := by omega
  have h2' : (n' : Int) ≤ 80 := by omega
  clear h h1 h2
  go_enter Tryd.func3, Tryd.ntmps3
  go_upto_region 1 with (fail)
  rw [← HW0.out]
  go_wp2_with (first | (go_at_call 11; have HN := HX2; with_reducible refine (few_any nc C n'' c'' W2).mono ?_; rintro e W3 ⟨rfl, hb3⟩; have HX3 := Lib.hid (HX2.out.below hb3); have a0_3 := blk_cell HX3.out.a 0; have a1_3 := blk_cell HX3.out.a 1; have b0_3 := blk_cell HX3.out.b 0; have b1_3 := blk_cell HX3.out.b 1; have c0_3 := blk_cell HX3.out.c 0; have c1_3 := blk_cell HX3.out.c 1; clear hb3) | (go_at_call 11; have HN := HX1; with_reducible refine (few_any nb B n' c' W1).mono ?_; rintro e W2 ⟨rfl, hb2⟩; have HX2 := Lib.hid (HX1.out.below hb2); have a0_2 := blk_cell HX2.out.a 0; have a1_2 := blk_cell HX2.out.a 1; have b0_2 := blk_cell HX2.out.b 0; have b1_2 := blk_cell HX2.out.b 1; have c0_2 := blk_cell HX2.out.c 0; have c1_2 := blk_cell HX2.out.c 1; clear hb2) | (go_at_call 11; have HN := HX0; with_reducible refine (few_any na A n c W0).mono ?_; rintro e W1 ⟨rfl, hb1⟩; have HX1 := Lib.hid (HX0.out.below hb1); have a0_1 := blk_cell HX1.out.a 0; have a1_1 := blk_cell HX1.out.a 1; have b0_1 := blk_cell HX1.out.b 0; have b1_1 := blk_cell HX1.out.b 1; have c0_1 := blk_cell HX1.out.c 0; have c1_1 := blk_cell HX1.out.c 1; clear hb1) | (go_at_call 12; refine (awake_any _).mono ?_; rintro e Wz ⟨rfl, hbz⟩; have HZ := Lib.hid hbz; clear hbz))
  go_ret
  exact ⟨rfl, below_then HX3.out.bel HX3.out.bel.size HZ.out⟩

set_option maxRecDepth 100000 in
set_option maxHeartbeats 8000000 in
theorem orders_few (na nb nc : Bool) (A B C : Option Addr) (n n' n'' c c' c'' : Nat) (xs ys zs : List Int) (w : World) (hx : Dv.Wd xs) (hy : Dv.Wd ys) (hz : Dv.Wd zs) (hr : ReadsInt w .u32 A n xs) (hr' : ReadsInt w .u32 B n' ys) (hr'' : ReadsInt w .u32 C n'' zs) (hc : n ≤ c) (hc' : n' ≤ c') (hc'' : n'' ≤ c'') (hn : n ≤ 80) (hn' : n' ≤ 80) (hn'' : n'' ≤ 80) :
    Calls Tryd.prog 3 #[.agg #[.bool na, .slice A n c], .agg #[.bool nb, .slice B n' c'], .agg #[.bool nc, .slice C n'' c'']] w fun e w' => e = .returned (.bool true) ∧ Below w.heap.size w w' := by
  have hNa : ∀ W, Below w.heap.size w W → NumIs W na A n c (vI na xs) := fun W h => ⟨xs, hr.1.symm, hc, by omega, hr.below h, hx, rfl⟩
  have hNb : ∀ W, Below w.heap.size w W → NumIs W nb B n' c' (vI nb ys) := fun W h => ⟨ys, hr'.1.symm, hc', by omega, hr'.below h, hy, rfl⟩
  have hNc : ∀ W, Below w.heap.size w W → NumIs W nc C n'' c'' (vI nc zs) := fun W h => ⟨zs, hr''.1.symm, hc'', by omega, hr''.below h, hz, rfl⟩
  obtain ⟨Va, hVa⟩ : ∃ V, V = vI na xs := ⟨_, rfl⟩
  obtain ⟨Vb, hVb⟩ : ∃ V, V = vI nb ys := ⟨_, rfl⟩
  obtain ⟨Vc, hVc⟩ : ∃ V, V = vI nc zs := ⟨_, rfl⟩
  rw [← hVa] at hNa
  rw [← hVb] at hNb
  rw [← hVc] at hNc
  clear hVa hVb hVc hx hy hz hr hr' hr''
  have sa := (hNa w (Below.refl _ _)).small
  have sb := (hNb w (Below.refl _ _)).small
  have sc := (hNc w (Below.refl _ _)).small
  have p1 := pow_two_few n hn
  have p2 := pow_two_few n' hn'
  have p3 := pow_two_few n'' hn''
  have p4 := pow_le n 80 hn
  have p5 := pow_le n' 80 hn'
  have p6 := pow_le n'' 80 hn''
  have p7 := Dv.pow_pos' (32 * 80)
  obtain ⟨ab, hab⟩ : ∃ ab, ab = cmpI Va Vb := ⟨_, rfl⟩
  obtain ⟨bc, hbc⟩ : ∃ bc, bc = cmpI Vb Vc := ⟨_, rfl⟩
  obtain ⟨ac, hac⟩ : ∃ ac, ac = cmpI Va Vc := ⟨_, rfl⟩
  have hcab : ∀ W, Below w.heap.size w W → Calls Tryd.prog 13 #[.agg #[.bool na, .slice A n c], .agg #[.bool nb, .slice B n' c']] W fun e w' => e = .returned (.int .i64 ab) ∧ Below W.heap.size W w' := fun W h => by rw [hab]; exact Compare_num (hNa W h) (hNb W h)
  have hcba : ∀ W, Below w.heap.size w W → Calls Tryd.prog 13 #[.agg #[.bool nb, .slice B n' c'], .agg #[.bool na, .slice A n c]] W fun e w' => e = .returned (.int .i64 (-ab)) ∧ Below W.heap.size W w' := fun W h => by rw [hab, ← cmpI_swap]; exact Compare_num (hNb W h) (hNa W h)
  have hcaa : ∀ W, Below w.heap.size w W → Calls Tryd.prog 13 #[.agg #[.bool na, .slice A n c], .agg #[.bool na, .slice A n c]] W fun e w' => e = .returned (.int .i64 0) ∧ Below W.heap.size W w' := fun W h => by rw [← cmpI_self Va]; exact Compare_num (hNa W h) (hNa W h)
  have hcbc : ∀ W, Below w.heap.size w W → Calls Tryd.prog 13 #[.agg #[.bool nb, .slice B n' c'], .agg #[.bool nc, .slice C n'' c'']] W fun e w' => e = .returned (.int .i64 bc) ∧ Below W.heap.size W w' := fun W h => by rw [hbc]; exact Compare_num (hNb W h) (hNc W h)
  have hcac : ∀ W, Below w.heap.size w W → Calls Tryd.prog 13 #[.agg #[.bool na, .slice A n c], .agg #[.bool nc, .slice C n'' c'']] W fun e w' => e = .returned (.int .i64 ac) ∧ Below W.heap.size W w' := fun W h => by rw [hac]; exact Compare_num (hNa W h) (hNc W h)
  have hna : ∀ W, Below w.heap.size w W → Calls Tryd.prog 14 #[.agg #[.bool na, .slice A n c]] W fun e w' => ∃ s A' n' c', e = .returned (.agg #[.bool s, .slice A' n' c']) ∧ Hid (NumIs w' s A' n' c' (-Va)) ∧ Below W.heap.size W w' := fun W h => by
    refine (Negate_num (hNa W h) (by omega)).mono ?_
    rintro e w' ⟨s, A', n', c', rfl, hf, hn, hb⟩
    exact ⟨s, A', n', c', rfl, Lib.hid (hf.num (by omega)), hb⟩
  have hnb : ∀ W, Below w.heap.size w W → Calls Tryd.prog 14 #[.agg #[.bool nb, .slice B n' c']] W fun e w' => ∃ s A' n' c', e = .returned (.agg #[.bool s, .slice A' n' c']) ∧ Hid (NumIs w' s A' n' c' (-Vb)) ∧ Below W.heap.size W w' := fun W h => by
    refine (Negate_num (hNb W h) (by omega)).mono ?_
    rintro e w' ⟨s, A', n', c', rfl, hf, hn, hb⟩
    exact ⟨s, A', n', c', rfl, Lib.hid (hf.num (by omega)), hb⟩
  have hcnn : ∀ W s A m c s' A' m' c', NumIs W s A m c (-Va) → NumIs W s' A' m' c' (-Vb) → Calls Tryd.prog 13 #[.agg #[.bool s, .slice A m c], .agg #[.bool s', .slice A' m' c']] W fun e w' => e = .returned (.int .i64 (-ab)) ∧ Below W.heap.size W w' := fun W s A m c s' A' m' c' h h' => by rw [hab, ← cmpI_neg]; exact Compare_num h h'
  have hsac : ∀ W, Below w.heap.size w W → Calls Tryd.prog 15 #[.agg #[.bool na, .slice A n c], .agg #[.bool nc, .slice C n'' c'']] W fun e w' => ∃ s A n c, e = .returned (.tuple #[.agg #[.bool s, .slice A n c], .bool true]) ∧ Hid (NumIs w' s A n c (Va + Vc)) ∧ Below W.heap.size W w' := fun W h => by
    refine (sum_num (hNa W h) (hNc W h) (by omega) (by omega) (by omega) (by omega) (by omega) (by omega)).mono ?_
    rintro e w' ⟨s, A', n', c', rfl, hf, hn, hb⟩
    exact ⟨s, A', n', c', rfl, Lib.hid (hf.num (by omega)), hb⟩
  have hsbc : ∀ W, Below w.heap.size w W → Calls Tryd.prog 15 #[.agg #[.bool nb, .slice B n' c'], .agg #[.bool nc, .slice C n'' c'']] W fun e w' => ∃ s A n c, e = .returned (.tuple #[.agg #[.bool s, .slice A n c], .bool true]) ∧ Hid (NumIs w' s A n c (Vb + Vc)) ∧ Below W.heap.size W w' := fun W h => by
    refine (sum_num (hNb W h) (hNc W h) (by omega) (by omega) (by omega) (by omega) (by omega) (by omega)).mono ?_
    rintro e w' ⟨s, A', n', c', rfl, hf, hn, hb⟩
    exact ⟨s, A', n', c', rfl, Lib.hid (hf.num (by omega)), hb⟩
  have hcss : ∀ W s A m c s' A' m' c', NumIs W s A m c (Va + Vc) → NumIs W s' A' m' c' (Vb + Vc) → Calls Tryd.prog 13 #[.agg #[.bool s, .slice A m c], .agg #[.bool s', .slice A' m' c']] W fun e w' => e = .returned (.int .i64 ab) ∧ Below W.heap.size W w' := fun W s A m c s' A' m' c' h h' => by rw [hab, ← cmpI_add Va Vb Vc]; exact Compare_num h h'
  have htr : ab ≤ 0 → bc ≤ 0 → ac ≤ 0 := by rw [hab, hbc, hac]; exact cmpI_trans Va Vb Vc
  obtain ⟨ab0, ab1⟩ : -1 ≤ ab ∧ ab ≤ 1 := by rw [hab]; exact cmpI_bd _ _
  have Hcab := Lib.hid hcab; have Hcba := Lib.hid hcba; have Hcaa := Lib.hid hcaa; have Hcbc := Lib.hid hcbc; have Hcac := Lib.hid hcac; have Hna := Lib.hid hna; have Hnb := Lib.hid hnb; have Hcnn := Lib.hid hcnn; have Hsac := Lib.hid hsac; have Hsbc := Lib.hid hsbc; have Hcss := Lib.hid hcss; have Htr := Lib.hid htr
  clear hcab hcba hcaa hcbc hcac hna hnb hcnn hsac hsbc hcss htr hab hbc hac hNa hNb hNc sa sb sc p1 p2 p3 p4 p5 p6 p7
  have q1 : (n : Int) ≤ 80 := by omega
  have q2 : (n' : Int) ≤ 80 := by omega
  have q3 : (n'' : Int) ≤ 80 := by omega
  have q4 : ¬ ab < -1 := by omega
  have q5 : ¬ 1 < ab := by omega
  have q6 : decide (ab < -1) = false := by simpa using q4
  have q7 : decide (1 < ab) = false := by simpa using q5
  have q8 : IntKind.i64.wrap (-ab) = -ab := IntWalk.i64_in _ (by omega)
  obtain ⟨W0, hW0⟩ : ∃ W0, W0 = ((w.alloc (.cells #[.bool na, .slice A n c] 24)).alloc (.cells #[.bool nb, .slice B n' c'] 24)).alloc (.cells #[.bool nc, .slice C n'' c''] 24) := ⟨_, rfl⟩
  have HX0 := Lib.hid (bx3_start w na nb nc A B C n n' n'' c c' c'' W0 hW0)
  have HW0 := Lib.hid hW0
  clear hW0
  have a0_0 := blk_cell HX0.out.a 0; have a1_0 := blk_cell HX0.out.a 1; have b0_0 := blk_cell HX0.out.b 0; have b1_0 := blk_cell HX0.out.b 1; have c0_0 := blk_cell HX0.out.c 0; have c1_0 := blk_cell HX0.out.c 1
  go_enter Tryd.func3, Tryd.ntmps3
  go_upto_region 1 with (fail)
  rw [← HW0.out]
  go_upto_region 4 with (first | (go_at_call 13; have HN := HX3; with_reducible refine (Hcab.out _ HX3.out.bel).mono ?_; rintro e W4 ⟨rfl, hb4⟩; have HX4 := Lib.hid (HX3.out.below hb4); have a0_4 := blk_cell HX4.out.a 0; have a1_4 := blk_cell HX4.out.a 1; have b0_4 := blk_cell HX4.out.b 0; have b1_4 := blk_cell HX4.out.b 1; have c0_4 := blk_cell HX4.out.c 0; have c1_4 := blk_cell HX4.out.c 1; clear hb4) | (go_at_call 11; have HN := HX2; with_reducible refine (few_any nc C n'' c'' W2).mono ?_; rintro e W3 ⟨rfl, hb3⟩; have HX3 := Lib.hid (HX2.out.below hb3); have a0_3 := blk_cell HX3.out.a 0; have a1_3 := blk_cell HX3.out.a 1; have b0_3 := blk_cell HX3.out.b 0; have b1_3 := blk_cell HX3.out.b 1; have c0_3 := blk_cell HX3.out.c 0; have c1_3 := blk_cell HX3.out.c 1; clear hb3) | (go_at_call 11; have HN := HX1; with_reducible refine (few_any nb B n' c' W1).mono ?_; rintro e W2 ⟨rfl, hb2⟩; have HX2 := Lib.hid (HX1.out.below hb2); have a0_2 := blk_cell HX2.out.a 0; have a1_2 := blk_cell HX2.out.a 1; have b0_2 := blk_cell HX2.out.b 0; have b1_2 := blk_cell HX2.out.b 1; have c0_2 := blk_cell HX2.out.c 0; have c1_2 := blk_cell HX2.out.c 1; clear hb2) | (go_at_call 11; have HN := HX0; with_reducible refine (few_any na A n c W0).mono ?_; rintro e W1 ⟨rfl, hb1⟩; have HX1 := Lib.hid (HX0.out.below hb1); have a0_1 := blk_cell HX1.out.a 0; have a1_1 := blk_cell HX1.out.a 1; have b0_1 := blk_cell HX1.out.b 0; have b1_1 := blk_cell HX1.out.b 1; have c0_1 := blk_cell HX1.out.c 0; have c1_1 := blk_cell HX1.out.c 1; clear hb1))
  have HXd := Lib.hid (show Bx3 w W4.drew na nb nc A B C n n' n'' c c' c'' from ⟨HX4.out.a, HX4.out.b, HX4.out.c, below_drew HX4.out.bel⟩)
  clear a0_0 a1_0 b0_0 b1_0 c0_0 c1_0 a0_1 a1_1 b0_1 b1_1 c0_1 c1_1 a0_2 a1_2 b0_2 b1_2 c0_2 c1_2 a0_3 a1_3 b0_3 b1_3 c0_3 c1_3
  go_region_held3 (fun W' => W'.cell? ⟨w.heap.size, 0, none⟩ = some (.bool na) ∧ W'.cell? ⟨w.heap.size, 1, none⟩ = some (.slice A n c) ∧ W'.cell? ⟨w.heap.size + 1, 0, none⟩ = some (.bool nb) ∧ W'.cell? ⟨w.heap.size + 1, 1, none⟩ = some (.slice B n' c')) (first | exact HX9.out.cells4 | exact HX8.out.cells4 | exact HX7.out.cells4 | exact HX6.out.cells4 | exact HX5.out.cells4 | exact HXd.out.cells4) ((first | (go_at_call 13; have HN := HX8; with_reducible refine (Hcaa.out _ HX8.out.bel).mono ?_; rintro e W9 ⟨rfl, hb9⟩; have HX9 := Lib.hid (HX8.out.below hb9); clear hb9) | (go_at_call 13; have HN := HX7; with_reducible refine (Hcnn.out _ _ _ _ _ _ _ _ _ HF6'.out HF7.out).mono ?_; rintro e W8 ⟨rfl, hb8⟩; have HX8 := Lib.hid (HX7.out.below hb8); clear hb8) | (go_at_call 14; have HN := HX6; with_reducible refine (Hnb.out _ HX6.out.bel).mono ?_; rintro e W7 ⟨s7, A7, n7, c7, rfl, HF7, hb7⟩; have HX7 := Lib.hid (HX6.out.below hb7); have HF6' := Lib.hid (NumIs.below HF6.out hb7); clear hb7) | (go_at_call 14; have HN := HX5; with_reducible refine (Hna.out _ HX5.out.bel).mono ?_; rintro e W6 ⟨s6, A6, n6, c6, rfl, HF6, hb6⟩; have HX6 := Lib.hid (HX5.out.below hb6); clear hb6) | (go_at_call 13; have HN := HXd; with_reducible refine (Hcba.out _ HXd.out.bel).mono ?_; rintro e W5 ⟨rfl, hb5⟩; have HX5 := Lib.hid (HXd.out.below hb5); clear hb5)))
  have a0_9 := blk_cell HX9.out.a 0; have a1_9 := blk_cell HX9.out.a 1; have b0_9 := blk_cell HX9.out.b 0; have b1_9 := blk_cell HX9.out.b 1; have c0_9 := blk_cell HX9.out.c 0; have c1_9 := blk_cell HX9.out.c 1
  by_cases r1 : ab ≤ 0
  · have r1' : decide (ab ≤ 0) = true := by simpa using r1
    by_cases r2 : bc ≤ 0
    · have r3 := Htr.out r1 r2
      have r2' : decide (bc ≤ 0) = true := by simpa using r2
      have r3' : decide (0 < ac) = false := by simpa using r3
      have r3'' : ¬ 0 < ac := by omega
      go_upto_region 8 with (first | (go_at_call 13; have HN := HX10; with_reducible refine (Hcac.out _ HX10.out.bel).mono ?_; rintro e W11 ⟨rfl, hb11⟩; have HX11 := Lib.hid (HX10.out.below hb11); have a0_11 := blk_cell HX11.out.a 0; have a1_11 := blk_cell HX11.out.a 1; have b0_11 := blk_cell HX11.out.b 0; have b1_11 := blk_cell HX11.out.b 1; have c0_11 := blk_cell HX11.out.c 0; have c1_11 := blk_cell HX11.out.c 1; clear hb11) | (go_at_call 13; have HN := HX9; with_reducible refine (Hcbc.out _ HX9.out.bel).mono ?_; rintro e W10 ⟨rfl, hb10⟩; have HX10 := Lib.hid (HX9.out.below hb10); have a0_10 := blk_cell HX10.out.a 0; have a1_10 := blk_cell HX10.out.a 1; have b0_10 := blk_cell HX10.out.b 0; have b1_10 := blk_cell HX10.out.b 1; have c0_10 := blk_cell HX10.out.c 0; have c1_10 := blk_cell HX10.out.c 1; clear hb10))
      go_wp2_with (first | (go_at_call 12; refine (awake_any _).mono ?_; rintro e Wz ⟨rfl, hbz⟩; have HZ := Lib.hid hbz; clear hbz) | (go_at_call 13; have HN := HX13a; with_reducible refine (Hcss.out _ _ _ _ _ _ _ _ _ HF12b.out HF13a.out).mono ?_; rintro e W14 ⟨rfl, hb14⟩; have HX14 := Lib.hid (HX13a.out.below hb14); clear hb14) | (go_at_call 15; have HN := HX12a; with_reducible refine (Hsbc.out _ HX12a.out.bel).mono ?_; rintro e W13 ⟨s13, A13, n13, c13, rfl, HF13, hb13⟩; have HX13 := Lib.hid (HX12a.out.below hb13); have HK12b := Lib.hid (blk_alloc (blk_below HK12a.out hb13) (.cells #[.bool s13, .slice A13 n13 c13] 24)); have HF12b := Lib.hid (NumIs.below (NumIs.below HF12a.out hb13) (below_alloc (Below.refl _ _) (.cells #[.bool s13, .slice A13 n13 c13] 24))); have y0 := blk_cell HK12b.out 0; have y1 := blk_cell HK12b.out 1; have HX13a := Lib.hid (HX13.out.below (below_alloc (Below.refl _ _) (.cells #[.bool s13, .slice A13 n13 c13] 24))); have HF13a := Lib.hid (NumIs.below HF13.out (below_alloc (Below.refl _ _) (.cells #[.bool s13, .slice A13 n13 c13] 24))); have HK13a := Lib.hid (blk_new W13 (.cells #[.bool s13, .slice A13 n13 c13] 24)); have a0_13a := blk_cell HX13a.out.a 0; have a1_13a := blk_cell HX13a.out.a 1; have b0_13a := blk_cell HX13a.out.b 0; have b1_13a := blk_cell HX13a.out.b 1; have c0_13a := blk_cell HX13a.out.c 0; have c1_13a := blk_cell HX13a.out.c 1; clear hb13) | (go_at_call 15; have HN := HX11; with_reducible refine (Hsac.out _ HX11.out.bel).mono ?_; rintro e W12 ⟨s12, A12, n12, c12, rfl, HF12, hb12⟩; have HX12 := Lib.hid (HX11.out.below hb12); have HX12a := Lib.hid (HX12.out.below (below_alloc (Below.refl _ _) (.cells #[.bool s12, .slice A12 n12 c12] 24))); have HF12a := Lib.hid (NumIs.below HF12.out (below_alloc (Below.refl _ _) (.cells #[.bool s12, .slice A12 n12 c12] 24))); have HK12a := Lib.hid (blk_new W12 (.cells #[.bool s12, .slice A12 n12 c12] 24)); have a0_12a := blk_cell HX12a.out.a 0; have a1_12a := blk_cell HX12a.out.a 1; have b0_12a := blk_cell HX12a.out.b 0; have b1_12a := blk_cell HX12a.out.b 1; have c0_12a := blk_cell HX12a.out.c 0; have c1_12a := blk_cell HX12a.out.c 1; clear hb12))
      go_ret
      exact ⟨rfl, below_then HX14.out.bel HX14.out.bel.size HZ.out⟩
    · have r2' : decide (bc ≤ 0) = false := by simpa using r2
      go_upto_region 8 with (first | (go_at_call 13; have HN := HX9; with_reducible refine (Hcbc.out _ HX9.out.bel).mono ?_; rintro e W10 ⟨rfl, hb10⟩; have HX10 := Lib.hid (HX9.out.below hb10); have a0_10 := blk_cell HX10.out.a 0; have a1_10 := blk_cell HX10.out.a 1; have b0_10 := blk_cell HX10.out.b 0; have b1_10 := blk_cell HX10.out.b 1; have c0_10 := blk_cell HX10.out.c 0; have c1_10 := blk_cell HX10.out.c 1; clear hb10))
      go_wp2_with (first | (go_at_call 12; refine (awake_any _).mono ?_; rintro e Wz ⟨rfl, hbz⟩; have HZ := Lib.hid hbz; clear hbz) | (go_at_call 13; have HN := HX13a; with_reducible refine (Hcss.out _ _ _ _ _ _ _ _ _ HF12b.out HF13a.out).mono ?_; rintro e W14 ⟨rfl, hb14⟩; have HX14 := Lib.hid (HX13a.out.below hb14); clear hb14) | (go_at_call 15; have HN := HX12a; with_reducible refine (Hsbc.out _ HX12a.out.bel).mono ?_; rintro e W13 ⟨s13, A13, n13, c13, rfl, HF13, hb13⟩; have HX13 := Lib.hid (HX12a.out.below hb13); have HK12b := Lib.hid (blk_alloc (blk_below HK12a.out hb13) (.cells #[.bool s13, .slice A13 n13 c13] 24)); have HF12b := Lib.hid (NumIs.below (NumIs.below HF12a.out hb13) (below_alloc (Below.refl _ _) (.cells #[.bool s13, .slice A13 n13 c13] 24))); have y0 := blk_cell HK12b.out 0; have y1 := blk_cell HK12b.out 1; have HX13a := Lib.hid (HX13.out.below (below_alloc (Below.refl _ _) (.cells #[.bool s13, .slice A13 n13 c13] 24))); have HF13a := Lib.hid (NumIs.below HF13.out (below_alloc (Below.refl _ _) (.cells #[.bool s13, .slice A13 n13 c13] 24))); have HK13a := Lib.hid (blk_new W13 (.cells #[.bool s13, .slice A13 n13 c13] 24)); have a0_13a := blk_cell HX13a.out.a 0; have a1_13a := blk_cell HX13a.out.a 1; have b0_13a := blk_cell HX13a.out.b 0; have b1_13a := blk_cell HX13a.out.b 1; have c0_13a := blk_cell HX13a.out.c 0; have c1_13a := blk_cell HX13a.out.c 1; clear hb13) | (go_at_call 15; have HN := HX10; with_reducible refine (Hsac.out _ HX10.out.bel).mono ?_; rintro e W12 ⟨s12, A12, n12, c12, rfl, HF12, hb12⟩; have HX12 := Lib.hid (HX10.out.below hb12); have HX12a := Lib.hid (HX12.out.below (below_alloc (Below.refl _ _) (.cells #[.bool s12, .slice A12 n12 c12] 24))); have HF12a := Lib.hid (NumIs.below HF12.out (below_alloc (Below.refl _ _) (.cells #[.bool s12, .slice A12 n12 c12] 24))); have HK12a := Lib.hid (blk_new W12 (.cells #[.bool s12, .slice A12 n12 c12] 24)); have a0_12a := blk_cell HX12a.out.a 0; have a1_12a := blk_cell HX12a.out.a 1; have b0_12a := blk_cell HX12a.out.b 0; have b1_12a := blk_cell HX12a.out.b 1; have c0_12a := blk_cell HX12a.out.c 0; have c1_12a := blk_cell HX12a.out.c 1; clear hb12))
      go_ret
      exact ⟨rfl, below_then HX14.out.bel HX14.out.bel.size HZ.out⟩
  · have r1' : decide (ab ≤ 0) = false := by simpa using r1
    go_upto_region 8 with (fail)
    go_wp2_with (first | (go_at_call 12; refine (awake_any _).mono ?_; rintro e Wz ⟨rfl, hbz⟩; have HZ := Lib.hid hbz; clear hbz) | (go_at_call 13; have HN := HX13a; with_reducible refine (Hcss.out _ _ _ _ _ _ _ _ _ HF12b.out HF13a.out).mono ?_; rintro e W14 ⟨rfl, hb14⟩; have HX14 := Lib.hid (HX13a.out.below hb14); clear hb14) | (go_at_call 15; have HN := HX12a; with_reducible refine (Hsbc.out _ HX12a.out.bel).mono ?_; rintro e W13 ⟨s13, A13, n13, c13, rfl, HF13, hb13⟩; have HX13 := Lib.hid (HX12a.out.below hb13); have HK12b := Lib.hid (blk_alloc (blk_below HK12a.out hb13) (.cells #[.bool s13, .slice A13 n13 c13] 24)); have HF12b := Lib.hid (NumIs.below (NumIs.below HF12a.out hb13) (below_alloc (Below.refl _ _) (.cells #[.bool s13, .slice A13 n13 c13] 24))); have y0 := blk_cell HK12b.out 0; have y1 := blk_cell HK12b.out 1; have HX13a := Lib.hid (HX13.out.below (below_alloc (Below.refl _ _) (.cells #[.bool s13, .slice A13 n13 c13] 24))); have HF13a := Lib.hid (NumIs.below HF13.out (below_alloc (Below.refl _ _) (.cells #[.bool s13, .slice A13 n13 c13] 24))); have HK13a := Lib.hid (blk_new W13 (.cells #[.bool s13, .slice A13 n13 c13] 24)); have a0_13a := blk_cell HX13a.out.a 0; have a1_13a := blk_cell HX13a.out.a 1; have b0_13a := blk_cell HX13a.out.b 0; have b1_13a := blk_cell HX13a.out.b 1; have c0_13a := blk_cell HX13a.out.c 0; have c1_13a := blk_cell HX13a.out.c 1; clear hb13) | (go_at_call 15; have HN := HX9; with_reducible refine (Hsac.out _ HX9.out.bel).mono ?_; rintro e W12 ⟨s12, A12, n12, c12, rfl, HF12, hb12⟩; have HX12 := Lib.hid (HX9.out.below hb12); have HX12a := Lib.hid (HX12.out.below (below_alloc (Below.refl _ _) (.cells #[.bool s12, .slice A12 n12 c12] 24))); have HF12a := Lib.hid (NumIs.below HF12.out (below_alloc (Below.refl _ _) (.cells #[.bool s12, .slice A12 n12 c12] 24))); have HK12a := Lib.hid (blk_new W12 (.cells #[.bool s12, .slice A12 n12 c12] 24)); have a0_12a := blk_cell HX12a.out.a 0; have a1_12a := blk_cell HX12a.out.a 1; have b0_12a := blk_cell HX12a.out.b 0; have b1_12a := blk_cell HX12a.out.b 1; have c0_12a := blk_cell HX12a.out.c 0; have c1_12a := blk_cell HX12a.out.c 1; clear hb12))
    go_ret
    exact ⟨rfl, below_then HX14.out.bel HX14.out.bel.size HZ.out⟩

/-- The law, whatever the numbers. -/
theorem orders_law (na nb nc : Bool) (A B C : Option Addr) (n n' n'' c c' c'' : Nat) (xs ys zs : List Int) (w : World) (hx : Dv.Wd xs) (hy : Dv.Wd ys) (hz : Dv.Wd zs) (hr : ReadsInt w .u32 A n xs) (hr' : ReadsInt w .u32 B n' ys) (hr'' : ReadsInt w .u32 C n'' zs) (hc : n ≤ c) (hc' : n' ≤ c') (hc'' : n'' ≤ c'') :
    Calls Tryd.prog 3 #[.agg #[.bool na, .slice A n c], .agg #[.bool nb, .slice B n' c'], .agg #[.bool nc, .slice C n'' c'']] w fun e w' => e = .returned (.bool true) ∧ Below w.heap.size w w' := by
  by_cases h : n ≤ 80 ∧ n' ≤ 80 ∧ n'' ≤ 80
  · exact orders_few na nb nc A B C n n' n'' c c' c'' xs ys zs w hx hy hz hr hr' hr'' hc hc' hc'' h.1 h.2.1 h.2.2
  · exact orders_many na nb nc A B C n n' n'' c c' c'' w h

end Go.Proofs.YtiofeehcnegejaaDoor
