/- A region that draws its order: loads taken first where nothing writes their cells BUT OPERATIONS THAT WAIT FOR THEM ('stops'). -/
import Derived.OrdersHeld
import Derived.Deep.RegionHeld
namespace Go.Proofs.Ytgchgkffoplogaa
open Go
set_option linter.unusedVariables false
section
variable {P : Program} {ops : Array Oper} {Q : Exit → Act → World → Prop} {md : Region.Mode} {S S' : World → Prop} {stops : List Nat}

/-- None of the stops has come up. -/
def noneYet (stops : List Nat) (listed : Array Bool) : Prop := ∀ s ∈ stops, listed.getD s true = false
theorem noneYet.set_ {listed : Array Bool} (h : noneYet stops listed) {i : Nat} (hi : i ∉ stops) : noneYet stops (listed.setIfInBounds i true) := fun s hs => by
  rw [getD_set_ne true (show i ≠ s from fun e => hi (by rw [e]; exact hs))]; exact h s hs
theorem noneYet.of_set {listed : Array Bool} {i : Nat} (h : noneYet stops (listed.setIfInBounds i true)) (hi : i ∉ stops) : noneYet stops listed := fun s hs => by
  have := h s hs
  rwa [getD_set_ne true (show i ≠ s from fun e => hi (by rw [e]; exact hs))] at this

/-- Whatever order is picked from here on; S holds as long as no stop has come up. -/
def wpAnyL (P : Program) (md : Region.Mode) (ops : Array Oper) (Q : Exit → Act → World → Prop) (S : World → Prop) (stops : List Nat) : Nat → Array Bool → Act → World → Prop
  | 0, listed, a, w => Region.ready md ops listed = [] ∧ Q .normal a w
  | fuel + 1, listed, a, w =>
    (Region.ready md ops listed = [] → Q .normal a w) ∧
    ∀ i ∈ Region.ready md ops listed, wpOp P ops Q i (fun a' w' => (noneYet stops (listed.setIfInBounds i true) → S w') ∧ wpAnyL P md ops Q S stops fuel (listed.setIfInBounds i true) a' w') a w

theorem wpAny_of_L : ∀ (fuel : Nat) (listed : Array Bool) (a : Act) (w : World), wpAnyL P md ops Q S stops fuel listed a w → wpAny P md ops Q fuel listed a w
  | 0, _, _, _, h => h
  | fuel + 1, _, _, _, h => ⟨h.1, fun i hi => wpOp_mono (fun a' w' h' => wpAny_of_L fuel _ a' w' h'.2) (h.2 i hi)⟩

/-- What is asked of the worlds in which i may yet come up. -/
theorem wpAnyL_first {i : Nat} {oi : Oper} {v : Value} (hi : ops[i]? = some oi) (hsel : ∀ (j : Nat) (o : Oper) cs b, ops[j]? = some o → o.op ≠ .select cs b)
    (hQ : ∀ c a w, Q (.panic c) (a.put oi.dst v) w → Q (.panic c) a w) (his : i ∉ stops)
    (hS' : ∀ listed w, i ∈ Region.ready md ops listed → (noneYet stops listed → S w) → (∀ w, S' w) ∨ (noneYet stops listed → S' w))
    (hstop : (∀ w, S' w) ∨ ((∀ w, S w → S' w) ∧ ∀ s ∈ stops, ∀ os, ops[s]? = some os → ∃ e ∈ os.after, Region.binds md e = true ∧ e.on = i)) :
    ∀ (fuel : Nat) (listed : Array Bool) (a : Act) (w : World),
      (∀ j oj, ops[j]? = some oj → j ≠ i → listed.getD j true = false → (∀ e ∈ oj.after, Region.binds md e = true → e.on ≠ i) → oi.apart ops oj = true) →
      i ∈ Region.ready md ops listed → YieldsIf P ops S' oi v a → ((∀ w, S' w) ∨ noneYet stops listed) → (noneYet stops listed → S w) →
      wpAnyL P md ops Q S stops fuel (listed.setIfInBounds i true) (a.put oi.dst v) w → wpAnyL P md ops Q S stops (fuel + 1) listed a w := by
  have hSw : ∀ {listed : Array Bool} {w : World}, ((∀ w, S' w) ∨ noneYet stops listed) → (noneYet stops listed → S w) → S' w := by
    intro listed w h1 h2
    rcases hstop with h | ⟨h, _⟩
    · exact h w
    · rcases h1 with h1 | h1
      · exact h1 w
      · exact h w (h2 h1)
  intro fuel
  induction fuel with
  | zero =>
    intro listed a w _ hr hy hN hS H
    refine ⟨fun h => (by rw [h] at hr; cases hr), fun j hj => ?_⟩
    by_cases hji : j = i
    · subst hji; exact hy.wpOp hi (hSw hN hS) ⟨fun h => hS (h.of_set his), H⟩
    · have := ready_mono hj hji
      rw [H.1] at this
      cases this
  | succ fuel ih =>
    intro listed a w hfree hr hy hN hS H
    refine ⟨fun h => (by rw [h] at hr; cases hr), fun j hj => ?_⟩
    by_cases hji : j = i
    · subst hji; exact hy.wpOp hi (hSw hN hS) ⟨fun h => hS (h.of_set his), H⟩
    · have h1 := H.2 j (ready_mono hj hji)
      obtain ⟨hjun, oj, hoj, hall⟩ := mem_ready.1 hj
      have hnot : ∀ e ∈ oj.after, Region.binds md e = true → e.on ≠ i := fun e he hb heq => by
        have h1 := hall e he hb
        have h0 := (mem_ready.1 hr).1
        rw [heq] at h1
        rcases Nat.lt_or_ge i listed.size with h' | h'
        · simp [h'] at h0 h1; rw [h0] at h1; cases h1
        · simp [Array.getElem?_eq_none h'] at h1
      have hN' : (∀ w, S' w) ∨ noneYet stops (listed.setIfInBounds j true) := by
        rcases hstop with h | ⟨_, h⟩
        · exact .inl h
        · refine hN.imp id (fun hn => hn.set_ (fun hm => ?_))
          obtain ⟨e, he, hb, heq⟩ := h j hm oj hoj
          exact hnot e he hb heq
      have h2 := wpOp_putIf hoj (hfree j oj hoj hji hjun hnot) (fun cs b => hsel i oi cs b hi) (fun cs b => hsel j oj cs b hoj) hQ hy h1
      have hfree' : ∀ k ok, ops[k]? = some ok → k ≠ i → (listed.setIfInBounds j true).getD k true = false →
          (∀ e ∈ ok.after, Region.binds md e = true → e.on ≠ i) → oi.apart ops ok = true := fun k ok hk hki hun hno => by
        refine hfree k ok hk hki ?_ hno
        by_cases hjk : j = k
        · subst hjk; exact hjun
        · rw [getD_set_ne true hjk] at hun; exact hun
      refine wpOp_mono (fun a' w' h3 => ?_) h2
      have hs3 : noneYet stops (listed.setIfInBounds j true) → S w' := fun h => h3.2.1 (by rw [Array.setIfInBounds_comm _ _ (Ne.symm hji)]; exact h.set_ his)
      refine ⟨hs3, ih (listed.setIfInBounds j true) a' w' hfree' (ready_mono hr (Ne.symm hji)) h3.1 hN' hs3 ?_⟩
      rw [Array.setIfInBounds_comm _ _ hji]
      exact h3.2.2

/-- The stops wait for i, and i is none: as a Bool. -/
def waits (md : Region.Mode) (ops : Array Oper) (stops : List Nat) (i : Nat) : Bool := stops.all fun s => match ops[s]? with | some o => o.after.any (fun e => Region.binds md e && e.on == i) | none => true
theorem waits_spec {i : Nat} (h : waits md ops stops i = true) : ∀ s ∈ stops, ∀ os, ops[s]? = some os → ∃ e ∈ os.after, Region.binds md e = true ∧ e.on = i := by
  intro s hs os ho
  have := List.all_eq_true.1 h s hs
  rw [ho] at this
  simp only [Array.any_eq_true', Bool.and_eq_true, beq_iff_eq] at this
  obtain ⟨e, he, hb, hn⟩ := this
  exact ⟨e, he, hb, hn⟩
def yet (stops : List Nat) (listed : Array Bool) : Bool := stops.all fun s => !(listed.getD s true)
theorem yet_spec {listed : Array Bool} (h : yet stops listed = true) : noneYet stops listed := fun s hs => by
  have := List.all_eq_true.1 h s hs
  simpa using this

/-- A load is taken first: no stop has come up, and each waits for it. -/
theorem wpAnyL_load {i : Nat} {oi : Oper} {v : Value} {fuel : Nat} {listed : Array Bool} {a : Act} {w : World} (hi : ops[i]? = some oi)
    (hs : Region.noSelect ops = true) (his : stops.contains i = false) (hst : waits md ops stops i = true) (hyet : yet stops listed = true) (hf : Region.free md ops listed i = true) (hr : (Region.ready md ops listed).contains i = true)
    (hQ : ∀ c a w, Q (.panic c) (a.put oi.dst v) w → Q (.panic c) a w) (hy : YieldsIf P ops S oi v a) (hS : S w)
    (h : wpAnyL P md ops Q S stops fuel (listed.setIfInBounds i true) (a.put oi.dst v) w) : wpAnyL P md ops Q S stops (fuel + 1) listed a w :=
  wpAnyL_first (S' := S) hi (Region.noSelect_spec hs) hQ (fun hm => by simp [hm] at his) (fun _ _ _ h => .inr h) (.inr ⟨fun _ h => h, waits_spec hst⟩) fuel listed a w (Region.free_spec hi hf) (by simpa using hr) hy (.inr (yet_spec hyet)) (fun _ => hS) h
/-- What yields in whatever world is taken first. -/
theorem wpAnyL_take {i : Nat} {oi : Oper} {v : Value} {fuel : Nat} {listed : Array Bool} {a : Act} {w : World} (hi : ops[i]? = some oi)
    (hs : Region.noSelect ops = true) (his : stops.contains i = false) (hf : Region.free md ops listed i = true) (hr : (Region.ready md ops listed).contains i = true)
    (hQ : ∀ c a w, Q (.panic c) (a.put oi.dst v) w → Q (.panic c) a w) (hy : YieldsIf P ops (fun _ => True) oi v a) (hS : noneYet stops listed → S w)
    (h : wpAnyL P md ops Q S stops fuel (listed.setIfInBounds i true) (a.put oi.dst v) w) : wpAnyL P md ops Q S stops (fuel + 1) listed a w :=
  wpAnyL_first (S' := fun _ => True) hi (Region.noSelect_spec hs) hQ (fun hm => by simp [hm] at his) (fun _ _ _ _ => .inl fun _ => trivial) (.inl fun _ => trivial) fuel listed a w (Region.free_spec hi hf) (by simpa using hr) hy (.inl fun _ => trivial) hS h

theorem wpAnyL_done {listed : Array Bool} {a : Act} {w : World} (hr : Region.ready md ops listed = []) (h : Q .normal a w) :
    ∀ fuel, wpAnyL P md ops Q S stops fuel listed a w
  | 0 => ⟨hr, h⟩
  | _ + 1 => ⟨fun _ => h, by rw [hr]; simp⟩

def AllReadyL (P : Program) (md : Region.Mode) (ops : Array Oper) (Q : Exit → Act → World → Prop) (S : World → Prop) (stops : List Nat) (fuel : Nat) (listed : Array Bool) (a : Act) (w : World) (rs : List Nat) : Prop :=
  ∀ i ∈ rs, wpOp P ops Q i (fun a' w' => (noneYet stops (listed.setIfInBounds i true) → S w') ∧ wpAnyL P md ops Q S stops fuel (listed.setIfInBounds i true) a' w') a w
theorem AllReadyL.nil {fuel : Nat} {listed : Array Bool} {a : Act} {w : World} : AllReadyL P md ops Q S stops fuel listed a w [] := fun _ h => by cases h
theorem AllReadyL.cons {fuel : Nat} {listed : Array Bool} {a : Act} {w : World} {i : Nat} {o : Oper} {rs : List Nat} (ho : ops[i]? = some o)
    (h : ∀ K' : Act → World → Prop, Shut (∀ a w, (noneYet stops (listed.setIfInBounds i true) → S w) → wpAnyL P md ops Q S stops fuel (listed.setIfInBounds i true) a w → K' a w) → if Region.wanted o (yielded ops a.tmps) = true then Oper.wp P o a w K' Q else K' (a.put o.dst undef) w)
    (hs : AllReadyL P md ops Q S stops fuel listed a w rs) : AllReadyL P md ops Q S stops fuel listed a w (i :: rs) := fun j hj => by
  rcases List.mem_cons.1 hj with rfl | hj
  · exact wpOp_step ho (fun K' hK => h K' (fun a w hS hW => hK a w ⟨hS, hW⟩))
  · exact hs j hj
theorem wpAnyL_ready {rs : List Nat} {fuel : Nat} {listed : Array Bool} {a : Act} {w : World} (hr : Region.ready md ops listed = rs) (hne : rs ≠ [])
    (h : AllReadyL P md ops Q S stops fuel listed a w rs) : wpAnyL P md ops Q S stops (fuel + 1) listed a w := ⟨fun h0 => absurd (hr ▸ h0) hne, hr ▸ h⟩
theorem wp_region_L {id : Nat} {a : Act} {w : World} (stops : List Nat) (S : World → Prop) (hm : P.follows .mixedOrders = true)
    (h : wpAnyL P .any ops Q S stops ops.size (Array.replicate ops.size false) a w.drew) : (Code.region id ops true).wp P Q a w :=
  wp_region_any hm (wpAny_of_L _ _ _ _ h)
theorem gone {listed : Array Bool} (h : yet stops listed = false) {p : Prop} : noneYet stops listed → p := fun hn => by
  have : yet stops listed = true := List.all_eq_true.2 (fun s hs => by simpa using hn s hs)
  rw [this] at h; cases h
end
end Go.Proofs.Ytgchgkffoplogaa
